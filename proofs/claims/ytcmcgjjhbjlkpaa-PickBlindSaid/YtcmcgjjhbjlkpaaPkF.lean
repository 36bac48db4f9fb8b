import Derived.Test.YtcmcgjjhbjlkpaaPkE
namespace Go.Proofs.Ytcmcgjjhbjlkpaa.Pk
open Go.RowKit Go.Proofs.YtcmcgjjhbjlkpaaW.PrintWords Go.Proofs.YtcmcgjjhbjlkpaaW.PrintLast Go.Proofs.YtcmcgjjhbjlkpaaW.PrintMore Go.Proofs.Ytcmcgjjhbjlkpaa.PPickPlays Go.Proofs.Ytcmcgjjhbjlkpaa.Air
set_option linter.unusedVariables false
set_option linter.unusedSimpArgs false
/-! ### What a search comes to -/
def onF (s : St) : St := ⟨s.D, s.a % 28 + 1, false⟩
inductive Fails (q : Int) (wd : Nat → Bool) (c wt : Int → Int) (s0 : St) : St → Prop
  | refl : Fails q wd c wt s0 s0
  | step {s : St} : Fails q wd c wt s0 s → (turnF q wd c wt s).1 = false → Fails q wd c wt s0 (onF (turnF q wd c wt s).2)
def Res (q : Int) (wd : Nat → Bool) (c wt : Int → Int) (s0 s' : St) : Prop := ∃ s, Fails q wd c wt s0 s ∧ turnF q wd c wt s = (true, s')
/-- A state in its bounds. -/
def Inv (s : St) : Prop := (1 ≤ s.a ∧ s.a ≤ 28) ∧ ∀ i, 0 ≤ s.D i ∧ s.D i ≤ 10000000
section
variable {q : Int} {wd : Nat → Bool} {c wt : Int → Int}
theorem upd_inv {D : Nat → Int} (h : ∀ i, 0 ≤ D i ∧ D i ≤ 10000000) (a : Nat) (v : Int) (hv : 0 ≤ v ∧ v ≤ 10000000) : ∀ i, 0 ≤ upd D a v i ∧ upd D a v i ≤ 10000000 := by
  intro i; unfold upd; split
  · exact hv
  · exact h i
theorem qw_bd (hq : 1000 ≤ q ∧ q ≤ 1000000) (n : Int) : 1000 ≤ q * clip n 8 ∧ q * clip n 8 ≤ 8000000 := by
  have h := clip8 n
  exact ⟨by have := Int.mul_le_mul hq.1 h.1 (by omega) (by omega); omega, by have := Int.mul_le_mul hq.2 h.2 (by omega) (by omega); omega⟩
theorem turn_inv (hq : 1000 ≤ q ∧ q ≤ 1000000) {s : St} (h : Inv s) : Inv (turnF q wd c wt s).2 ∧ (turnF q wd c wt s).2.a = s.a := by
  have hp := clip4 (c s.a)
  have hg := qw_bd hq (wt s.a)
  obtain ⟨ha, hD⟩ := h
  have hDa := hD s.a
  unfold turnF turnV
  generalize q * clip (wt s.a) 8 = G at *
  generalize clip (c s.a) 40000 = P at *
  by_cases h0 : wd s.a = true <;> by_cases h1 : s.D s.a < P <;> by_cases h2 : s.f = true <;> by_cases h3 : s.D s.a + G < P <;> simp only [h0, h1, h2, h3, if_true, if_false, Bool.false_eq_true] <;>
    (refine ⟨⟨ha, ?_⟩, ?_⟩ <;> first | exact hD | trivial | rfl | exact upd_inv hD _ _ (by omega))
theorem on_inv {s : St} (h : Inv s) : Inv (onF s) := ⟨⟨by simp [onF], by simp [onF]; omega⟩, h.2⟩
theorem Fails.inv (hq : 1000 ≤ q ∧ q ≤ 1000000) {s0 s : St} (h : Inv s0) (k : Fails q wd c wt s0 s) : Inv s := by
  induction k with
  | refl => exact h
  | step _ _ ih => exact on_inv (turn_inv hq ih).1
theorem Res.inv (hq : 1000 ≤ q ∧ q ≤ 1000000) {s0 s : St} (h : Inv s0) (k : Res q wd c wt s0 s) : Inv s := by
  obtain ⟨s1, k, e⟩ := k
  have := (turn_inv (wd := wd) (c := c) (wt := wt) hq (k.inv hq h)).1
  rwa [e] at this
theorem turn_wanted {s s' : St} (h : turnF q wd c wt s = (true, s')) : wd s.a = true ∧ s'.a = s.a := by
  unfold turnF turnV at h
  by_cases h0 : wd s.a = true
  · refine ⟨h0, ?_⟩
    rw [if_pos h0] at h
    split at h
    · split at h
      · cases h
      · split at h
        · cases h
        · cases h; rfl
    · cases h; rfl
  · rw [if_neg h0] at h; cases h
theorem Res.wanted {s0 s : St} (k : Res q wd c wt s0 s) : wd s.a = true := by
  obtain ⟨s1, _, e⟩ := k
  obtain ⟨h1, h2⟩ := turn_wanted e
  rw [h2]; exact h1
/-- As a function, for so many rounds. -/
def runF (q : Int) (wd : Nat → Bool) (c wt : Int → Int) : Nat → St → Option St
  | 0, _ => none
  | k + 1, s => if (turnF q wd c wt s).1 then some (turnF q wd c wt s).2 else runF q wd c wt k (onF (turnF q wd c wt s).2)
theorem Fails.head {s s' : St} (h : (turnF q wd c wt s).1 = false) (k : Fails q wd c wt (onF (turnF q wd c wt s).2) s') : Fails q wd c wt s s' := by
  induction k with
  | refl => exact .step .refl h
  | step _ h2 ih => exact .step ih h2
theorem runF_res : ∀ (k : Nat) (s s' : St), runF q wd c wt k s = some s' → Res q wd c wt s s' := by
  intro k
  induction k with
  | zero => intro s s' h; simp [runF] at h
  | succ k ih =>
    intro s s' h
    unfold runF at h
    cases hb : (turnF q wd c wt s).1
    · rw [hb, if_neg (by simp)] at h
      obtain ⟨s1, k1, e⟩ := ih _ _ h
      exact ⟨s1, k1.head hb, e⟩
    · rw [hb, if_pos rfl] at h
      exact ⟨s, .refl, Prod.ext hb (Option.some.inj h)⟩
theorem Fails.cases {s s' : St} (k : Fails q wd c wt s s') : s' = s ∨ ((turnF q wd c wt s).1 = false ∧ Fails q wd c wt (onF (turnF q wd c wt s).2) s') := by
  induction k with
  | refl => exact .inl rfl
  | step k h ih =>
    rcases ih with rfl | ⟨h1, h2⟩
    · exact .inr ⟨h, .refl⟩
    · exact .inr ⟨h1, .step h2 h⟩
theorem Res.head {s s' : St} (k : Res q wd c wt s s') : turnF q wd c wt s = (true, s') ∨ ((turnF q wd c wt s).1 = false ∧ Res q wd c wt (onF (turnF q wd c wt s).2) s') := by
  obtain ⟨s1, k, e⟩ := k
  rcases k.cases with rfl | ⟨h, k⟩
  · exact .inl e
  · exact .inr ⟨h, s1, k, e⟩
/-- How far a wanted mode's turn is. -/
def meas (m : Nat) (s : St) : Nat := 29 * (40000 - s.D m).toNat + (m + 28 - s.a) % 28 + (if s.f then 29 else 0)
theorem meas_lt (hq : 1000 ≤ q ∧ q ≤ 1000000) {m : Nat} (hm : 1 ≤ m ∧ m ≤ 28) (hw : wd m = true) {s : St} (hi : Inv s) (h : (turnF q wd c wt s).1 = false) : meas m (onF (turnF q wd c wt s).2) < meas m s := by
  have hp := clip4 (c s.a)
  have hg := qw_bd hq (wt s.a)
  obtain ⟨ha, hD⟩ := hi
  have hDa := hD s.a
  have hDm := hD m
  unfold turnF turnV at h ⊢
  generalize q * clip (wt s.a) 8 = G at *
  generalize clip (c s.a) 40000 = P at *
  by_cases e : s.a = m
  · subst e
    rw [if_pos hw] at h ⊢
    by_cases h1 : s.D s.a < P
    · rw [if_pos h1] at h ⊢
      by_cases h2 : s.f = true
      · rw [if_pos h2]
        simp only [meas, onF, h2, if_true, Bool.false_eq_true, if_false]
        omega
      · rw [if_neg h2] at h ⊢
        by_cases h3 : s.D s.a + G < P
        · rw [if_pos h3]
          simp only [meas, onF, upd_same, h2, if_true, Bool.false_eq_true, if_false]
          omega
        · rw [if_neg h3] at h; cases h
    · rw [if_neg h1] at h; cases h
  · have hu : ∀ v, upd s.D s.a v m = s.D m := fun v => by unfold upd; rw [if_neg (fun h => e h.symm)]
    have hd : (m + 28 - (s.a % 28 + 1)) % 28 < (m + 28 - s.a) % 28 := by omega
    by_cases h0 : wd s.a = true <;> by_cases h1 : s.D s.a < P <;> by_cases h2 : s.f = true <;> by_cases h3 : s.D s.a + G < P <;>
      simp only [h0, h1, h2, h3, if_true, if_false, Bool.false_eq_true, meas, onF, hu] at h ⊢ <;> first | omega | (cases h; done)
theorem ends (hq : 1000 ≤ q ∧ q ≤ 1000000) {m : Nat} (hm : 1 ≤ m ∧ m ≤ 28) (hw : wd m = true) : ∀ (k : Nat) (s : St), Inv s → meas m s < k → ∃ s', runF q wd c wt k s = some s' := by
  intro k
  induction k with
  | zero => intro s _ h; omega
  | succ k ih =>
    intro s hi hk
    unfold runF
    cases hb : (turnF q wd c wt s).1
    · rw [if_neg (by simp)]
      have := meas_lt hq hm hw hi hb
      exact ih _ (on_inv (turn_inv hq hi).1) (by omega)
    · exact ⟨_, by rw [if_pos rfl]⟩
theorem Res.of_run {s s' : St} (k : Res q wd c wt s s') : ∀ n s'', runF q wd c wt n s = some s'' → s'' = s' := by
  intro n
  induction n generalizing s with
  | zero => intro s'' h; simp [runF] at h
  | succ n ih =>
    intro s'' h
    unfold runF at h
    rcases k.head with e | ⟨h1, k⟩
    · rw [e, if_pos rfl] at h; exact (Option.some.inj h).symm
    · rw [h1, if_neg (by simp)] at h; exact ih k s'' h
theorem Res.uniq (hq : 1000 ≤ q ∧ q ≤ 1000000) {s s1 s2 : St} (hi : Inv s) (k1 : Res q wd c wt s s1) (k2 : Res q wd c wt s s2) (hr : wd s1.a = true → 1 ≤ s1.a ∧ s1.a ≤ 28) : s1 = s2 := by
  have hm := (k1.inv hq hi).1
  obtain ⟨r, h⟩ := ends (c := c) (wt := wt) hq hm k1.wanted (meas s1.a s + 1) s hi (by omega)
  rw [← k1.of_run _ _ h, ← k2.of_run _ _ h]
end
end Go.Proofs.Ytcmcgjjhbjlkpaa.Pk
