import Derived.Test.YtcmcgjjhbjlkpaaPkC
namespace Go.Proofs.Ytcmcgjjhbjlkpaa.Pk
open Go.RowKit Go.Proofs.YtcmcgjjhbjlkpaaW.PrintWords Go.Proofs.YtcmcgjjhbjlkpaaW.PrintLast Go.Proofs.YtcmcgjjhbjlkpaaW.PrintMore Go.Proofs.Ytcmcgjjhbjlkpaa.PPickPlays Go.Proofs.Ytcmcgjjhbjlkpaa.Air
set_option linter.unusedVariables false
set_option linter.unusedSimpArgs false
/-! ### A turn of the pointer's mode -/
def wcells (wd : Nat → Bool) : Array Value := #[.bool (wd 0), .bool (wd 1), .bool (wd 2), .bool (wd 3), .bool (wd 4), .bool (wd 5), .bool (wd 6), .bool (wd 7), .bool (wd 8), .bool (wd 9), .bool (wd 10), .bool (wd 11), .bool (wd 12), .bool (wd 13), .bool (wd 14), .bool (wd 15), .bool (wd 16), .bool (wd 17), .bool (wd 18), .bool (wd 19), .bool (wd 20), .bool (wd 21), .bool (wd 22), .bool (wd 23), .bool (wd 24), .bool (wd 25), .bool (wd 26), .bool (wd 27), .bool (wd 28)]
theorem wget (wd : Nat → Bool) {i : Nat} (h : i < 29) : (wcells wd)[i]? = some (.bool (wd i)) := by
  rcases cases29 h with rfl | rfl | rfl | rfl | rfl | rfl | rfl | rfl | rfl | rfl | rfl | rfl | rfl | rfl | rfl | rfl | rfl | rfl | rfl | rfl | rfl | rfl | rfl | rfl | rfl | rfl | rfl | rfl | rfl <;> rfl
theorem upd_upd (D : Nat → Int) (i : Nat) (u v : Int) : upd (upd D i u) i v = upd D i v := by
  funext j; unfold upd; split <;> rfl
theorem upd_same (D : Nat → Int) (i : Nat) (u : Int) : upd D i u i = u := by simp [upd]
structure St where
  D : Nat → Int
  a : Nat
  f : Bool
/-- What a turn comes to: the price p and the weight w (both cut already) of the pointer's mode; is it wanted? -/
def turnV (q : Int) (wanted : Bool) (p w : Int) (s : St) : Bool × St :=
  if wanted then
    if s.D s.a < p then
      if s.f then (false, s)
      else if s.D s.a + q * w < p then (false, ⟨upd s.D s.a (s.D s.a + q * w), s.a, true⟩) else (true, ⟨upd s.D s.a (s.D s.a + q * w - p), s.a, true⟩)
    else (true, ⟨upd s.D s.a (s.D s.a - p), s.a, s.f⟩)
  else (false, ⟨upd s.D s.a 0, s.a, s.f⟩)
def sameBut (w W : World) (X : Nat) : Prop := Keep w W (fun k => k = X)
/-- What a call of a turn leaves. -/
def TurnOk (w : World) (X : Nat) (q : Int) (r : Bool × St) (e : Ending) (w' : World) : Prop := e = .returned (.bool r.1) ∧ Bk w' X 109 (dcells q r.2.D (r.2.a : Int) r.2.f) ∧ sameBut w w' X
theorem sameBut.cell {w W : World} {X : Nat} (h : sameBut w W X) {p : Addr} {v : Value} (hp : p.block ≠ X) (hc : w.cell? p = some v) : W.cell? p = some v :=
  (World.cell?_of_block (w := w) (h.block _ (World.block_lt_of_cell? w _ hc) hp)).trans hc
theorem sameBut.bk {w W : World} {X g t : Nat} {cs : Array Value} (h : sameBut w W X) (hp : g ≠ X) (hc : Bk w g t cs) : Bk W g t cs := (h.block _ hc.lt hp).trans hc
theorem clip8 (n : Int) : 1 ≤ clip n 8 ∧ clip n 8 ≤ 8 := by unfold clip; omega
theorem clip4 (n : Int) : 1 ≤ clip n 40000 ∧ clip n 40000 ≤ 40000 := by unfold clip; omega

set_option maxHeartbeats 4000000 in
set_option maxRecDepth 100000 in
theorem turnA (w : World) (X Y : Nat) (pc pw : Addr) (q : Int) (hq : 1000 ≤ q ∧ q ≤ 1000000) (D : Nat → Int) (a : Nat) (ha : 1 ≤ a ∧ a ≤ 28) (f : Bool) (wd : Nat → Bool) (hD : 0 ≤ D a ∧ D a ≤ 10000000)
    (hX : Bk w X 109 (dcells q D (a : Int) f)) (hY : Bk w Y 130 (wcells wd)) (p1 p2 : Addr) (n1 n2 : Int) (hc : w.cell? pc = some (.func (.func 73) #[] #[.pointer (some p1)])) (hw : w.cell? pw = some (.func (.func 73) #[] #[.pointer (some p2)])) (h1 : w.cell? p1 = some (.int .i64 n1)) (h2 : w.cell? p2 = some (.int .i64 n2)) :
    Calls Try.prog 77 #[.pointer (some ⟨X, 0, none⟩), .pointer (some pc), .pointer (some ⟨Y, 0, none⟩), .pointer (some pw)] w (TurnOk w X q (turnV q (wd a) (clip (n1) 40000) (clip (n2) 8) ⟨D, a, f⟩)) := by
  have HX := Aside0.mk hX
  have hlt : X < w.heap.size := hX.lt
  have c30 : w.cell? ⟨X, 30, none⟩ = some (Value.int .i64 (a : Int)) := hX.cell 30
  have c31 : w.cell? ⟨X, 31, none⟩ = some (Value.bool f) := hX.cell 31
  have c0 : w.cell? ⟨X, 0, none⟩ = some (Value.int .i64 q) := hX.cell 0
  have ca : w.cell? ⟨X, 1 + a, none⟩ = some (Value.int .i64 (D a)) := (hX.cell (1 + a)).trans (dget q D a f (by omega))
  have cy : w.cell? ⟨Y, a, none⟩ = some (.bool (wd a)) := (hY.cell a).trans (wget wd (by omega))
  have fa : w.frozen? ⟨X, 1 + a, none⟩ = false := hX.frozen _
  have f31 : w.frozen? ⟨X, 31, none⟩ = false := hX.frozen _
  clear hX hY
  obtain ⟨P, eP⟩ : ∃ P, P = clip (n1) 40000 := ⟨_, rfl⟩
  obtain ⟨G, eG⟩ : ∃ G, G = clip (n2) 8 := ⟨_, rfl⟩
  have hP : 1 ≤ P ∧ P ≤ 40000 := by rw [eP]; exact clip4 _
  have hG : 1 ≤ G ∧ G ≤ 8 := by rw [eG]; exact clip8 _
  have HP := Aside0.mk eP
  have HG := Aside0.mk eG
  rw [← eP, ← eG]
  clear eP eG
  have hqG : 0 ≤ q * G ∧ q * G ≤ 8000000 := ⟨Int.mul_nonneg (by omega) (by omega), by have := Int.mul_le_mul hq.2 hG.2 (by omega) (by omega); omega⟩
  go_enter Try.func77, Try.ntmps77
  go_wp2_with fail
  refine (same_ok _ _ n1 p1 h1).mono ?_
  rintro e w1 ⟨rfl, rfl⟩
  go_wp2_with fail
  refine (within_ok _ _ _).mono ?_
  rintro e w2 ⟨rfl, rfl⟩
  rw [← HP.out]
  cases hw : wd a
  · rw [hw] at cy
    have HF := Aside0.mk (show turnV q false P G ⟨D, a, f⟩ = (false, ⟨upd D a 0, a, f⟩) from rfl)
    go_wp2
    go_ret
    first | rw [hw, HF.out] | rw [HF.out]
    refine ⟨rfl, ?_, (Keep.refl w2 (fun k => k = X)).set ⟨X, 1 + a, none⟩ _ (.inl rfl)⟩
    have h1 := HX.out.set (1 + a) (.int .i64 0)
    rw [dset q D a f (by omega)] at h1
    exact h1
  · rw [hw] at cy
    by_cases hlp : D a < P
    · cases f
      · by_cases hlp2 : D a + q * G < P
        · have HF := Aside0.mk (show turnV q true P G ⟨D, a, false⟩ = (false, ⟨upd D a (D a + q * G), a, true⟩) by simp [turnV, hlp, hlp2])
          go_wp2_with fail
          refine wp_region_still_tail 13 (by kernel_rfl) (by kernel_rfl) ?_
          simp only [List.take_succ_cons, List.take_zero, List.drop_succ_cons, List.drop_zero]
          repeat still_step
          still_call (same_ok _ _ n2 p2 (by assumption))
          still_call (within_ok _ _ _)
          rw [← HG.out]
          repeat still_step
          refine wpStill_nil ?_
          change wpList _ _ _ _ _ w2.drew
          go_wp2
          go_ret
          first | rw [hw, HF.out] | rw [HF.out]
          refine ⟨rfl, ?_, (((Keep.refl w2 (fun k => k = X)).set ⟨X, 1 + a, none⟩ _ (.inl rfl)).set ⟨X, 31, none⟩ _ (.inl rfl)).drew⟩
          have h1 := (HX.out.set (1 + a) (.int .i64 (D a + q * G))).set 31 (.bool true)
          rw [dset q D a false (by omega), dset31] at h1
          exact h1
        · have HF := Aside0.mk (show turnV q true P G ⟨D, a, false⟩ = (true, ⟨upd D a (D a + q * G - P), a, true⟩) by simp [turnV, hlp, hlp2])
          go_wp2_with fail
          refine wp_region_still_tail 13 (by kernel_rfl) (by kernel_rfl) ?_
          simp only [List.take_succ_cons, List.take_zero, List.drop_succ_cons, List.drop_zero]
          repeat still_step
          still_call (same_ok _ _ n2 p2 (by assumption))
          still_call (within_ok _ _ _)
          rw [← HG.out]
          repeat still_step
          refine wpStill_nil ?_
          change wpList _ _ _ _ _ w2.drew
          go_wp2
          go_ret
          first | rw [hw, HF.out] | rw [HF.out]
          refine ⟨rfl, ?_, ((((Keep.refl w2 (fun k => k = X)).set ⟨X, 1 + a, none⟩ _ (.inl rfl)).set ⟨X, 31, none⟩ _ (.inl rfl)).set ⟨X, 1 + a, none⟩ _ (.inl rfl)).drew⟩
          have h1 := (HX.out.set (1 + a) (.int .i64 (D a + q * G))).set 31 (.bool true)
          rw [dset q D a false (by omega), dset31] at h1
          have h2 := h1.set (1 + a) (.int .i64 (D a + q * G - P))
          rw [dset q _ a true (by omega), upd_upd] at h2
          exact h2
      · have HF := Aside0.mk (show turnV q true P G ⟨D, a, true⟩ = (false, ⟨D, a, true⟩) by simp [turnV, hlp])
        go_wp2
        go_ret
        first | rw [hw, HF.out] | rw [HF.out]
        exact ⟨rfl, HX.out, Keep.refl w2 _⟩
    · have HF := Aside0.mk (show turnV q true P G ⟨D, a, f⟩ = (true, ⟨upd D a (D a - P), a, f⟩) by simp [turnV, hlp])
      go_wp2
      go_ret
      first | rw [hw, HF.out] | rw [HF.out]
      refine ⟨rfl, ?_, (Keep.refl w2 (fun k => k = X)).set ⟨X, 1 + a, none⟩ _ (.inl rfl)⟩
      have h1 := HX.out.set (1 + a) (.int .i64 (D a - P))
      rw [dset q D a f (by omega)] at h1
      exact h1

set_option maxHeartbeats 4000000 in
set_option maxRecDepth 100000 in
theorem turnB (w : World) (X Y : Nat) (pc pw : Addr) (q : Int) (hq : 1000 ≤ q ∧ q ≤ 1000000) (D : Nat → Int) (a : Nat) (ha : 1 ≤ a ∧ a ≤ 28) (f : Bool) (wd : Nat → Bool) (hD : 0 ≤ D a ∧ D a ≤ 10000000)
    (hX : Bk w X 109 (dcells q D (a : Int) f)) (hY : Bk w Y 130 (wcells wd)) (g : Nat) (b0 b1 : Int) (h0 : 0 ≤ b0 ∧ b0 ≤ 65535) (h1 : 0 ≤ b1 ∧ b1 ≤ 65535) (hc : w.cell? pc = some (.func (.func 29) #[] #[.pointer (some ⟨g, 0, none⟩)])) (hw : w.cell? pw = some (.func (.func 30) #[] #[.pointer (some ⟨g, 0, none⟩)])) (hb : Bk w g 55 #[.int .u16 b0, .int .u16 b1]) :
    Calls Try.prog 77 #[.pointer (some ⟨X, 0, none⟩), .pointer (some pc), .pointer (some ⟨Y, 0, none⟩), .pointer (some pw)] w (TurnOk w X q (turnV q (wd a) (clip (100 + (a : Int) * b0 % 9000) 40000) (clip (1 + (a : Int) * b1 % 8) 8) ⟨D, a, f⟩)) := by
  have HX := Aside0.mk hX
  have hlt : X < w.heap.size := hX.lt
  have c30 : w.cell? ⟨X, 30, none⟩ = some (Value.int .i64 (a : Int)) := hX.cell 30
  have c31 : w.cell? ⟨X, 31, none⟩ = some (Value.bool f) := hX.cell 31
  have c0 : w.cell? ⟨X, 0, none⟩ = some (Value.int .i64 q) := hX.cell 0
  have ca : w.cell? ⟨X, 1 + a, none⟩ = some (Value.int .i64 (D a)) := (hX.cell (1 + a)).trans (dget q D a f (by omega))
  have cy : w.cell? ⟨Y, a, none⟩ = some (.bool (wd a)) := (hY.cell a).trans (wget wd (by omega))
  have fa : w.frozen? ⟨X, 1 + a, none⟩ = false := hX.frozen _
  have f31 : w.frozen? ⟨X, 31, none⟩ = false := hX.frozen _
  clear hX hY
  obtain ⟨P, eP⟩ : ∃ P, P = clip (100 + (a : Int) * b0 % 9000) 40000 := ⟨_, rfl⟩
  obtain ⟨G, eG⟩ : ∃ G, G = clip (1 + (a : Int) * b1 % 8) 8 := ⟨_, rfl⟩
  have hP : 1 ≤ P ∧ P ≤ 40000 := by rw [eP]; exact clip4 _
  have hG : 1 ≤ G ∧ G ≤ 8 := by rw [eG]; exact clip8 _
  have HP := Aside0.mk eP
  have HG := Aside0.mk eG
  rw [← eP, ← eG]
  clear eP eG
  have hqG : 0 ≤ q * G ∧ q * G ≤ 8000000 := ⟨Int.mul_nonneg (by omega) (by omega), by have := Int.mul_le_mul hq.2 hG.2 (by omega) (by omega); omega⟩
  go_enter Try.func77, Try.ntmps77
  go_wp2_with fail
  refine (cost_ok _ _ b0 b1 (by omega) h0 g hb).mono ?_
  rintro e w1 ⟨rfl, rfl⟩
  go_wp2_with fail
  refine (within_ok _ _ _).mono ?_
  rintro e w2 ⟨rfl, rfl⟩
  rw [← HP.out]
  cases hw : wd a
  · rw [hw] at cy
    have HF := Aside0.mk (show turnV q false P G ⟨D, a, f⟩ = (false, ⟨upd D a 0, a, f⟩) from rfl)
    go_wp2
    go_ret
    first | rw [hw, HF.out] | rw [HF.out]
    refine ⟨rfl, ?_, (Keep.refl w2 (fun k => k = X)).set ⟨X, 1 + a, none⟩ _ (.inl rfl)⟩
    have h1 := HX.out.set (1 + a) (.int .i64 0)
    rw [dset q D a f (by omega)] at h1
    exact h1
  · rw [hw] at cy
    by_cases hlp : D a < P
    · cases f
      · by_cases hlp2 : D a + q * G < P
        · have HF := Aside0.mk (show turnV q true P G ⟨D, a, false⟩ = (false, ⟨upd D a (D a + q * G), a, true⟩) by simp [turnV, hlp, hlp2])
          go_wp2_with fail
          refine wp_region_still_tail 13 (by kernel_rfl) (by kernel_rfl) ?_
          simp only [List.take_succ_cons, List.take_zero, List.drop_succ_cons, List.drop_zero]
          repeat still_step
          still_call (weight_ok _ _ b0 b1 (by omega) h1 g (by assumption))
          still_call (within_ok _ _ _)
          rw [← HG.out]
          repeat still_step
          refine wpStill_nil ?_
          change wpList _ _ _ _ _ w2.drew
          go_wp2
          go_ret
          first | rw [hw, HF.out] | rw [HF.out]
          refine ⟨rfl, ?_, (((Keep.refl w2 (fun k => k = X)).set ⟨X, 1 + a, none⟩ _ (.inl rfl)).set ⟨X, 31, none⟩ _ (.inl rfl)).drew⟩
          have h1 := (HX.out.set (1 + a) (.int .i64 (D a + q * G))).set 31 (.bool true)
          rw [dset q D a false (by omega), dset31] at h1
          exact h1
        · have HF := Aside0.mk (show turnV q true P G ⟨D, a, false⟩ = (true, ⟨upd D a (D a + q * G - P), a, true⟩) by simp [turnV, hlp, hlp2])
          go_wp2_with fail
          refine wp_region_still_tail 13 (by kernel_rfl) (by kernel_rfl) ?_
          simp only [List.take_succ_cons, List.take_zero, List.drop_succ_cons, List.drop_zero]
          repeat still_step
          still_call (weight_ok _ _ b0 b1 (by omega) h1 g (by assumption))
          still_call (within_ok _ _ _)
          rw [← HG.out]
          repeat still_step
          refine wpStill_nil ?_
          change wpList _ _ _ _ _ w2.drew
          go_wp2
          go_ret
          first | rw [hw, HF.out] | rw [HF.out]
          refine ⟨rfl, ?_, ((((Keep.refl w2 (fun k => k = X)).set ⟨X, 1 + a, none⟩ _ (.inl rfl)).set ⟨X, 31, none⟩ _ (.inl rfl)).set ⟨X, 1 + a, none⟩ _ (.inl rfl)).drew⟩
          have h1 := (HX.out.set (1 + a) (.int .i64 (D a + q * G))).set 31 (.bool true)
          rw [dset q D a false (by omega), dset31] at h1
          have h2 := h1.set (1 + a) (.int .i64 (D a + q * G - P))
          rw [dset q _ a true (by omega), upd_upd] at h2
          exact h2
      · have HF := Aside0.mk (show turnV q true P G ⟨D, a, true⟩ = (false, ⟨D, a, true⟩) by simp [turnV, hlp])
        go_wp2
        go_ret
        first | rw [hw, HF.out] | rw [HF.out]
        exact ⟨rfl, HX.out, Keep.refl w2 _⟩
    · have HF := Aside0.mk (show turnV q true P G ⟨D, a, f⟩ = (true, ⟨upd D a (D a - P), a, f⟩) by simp [turnV, hlp])
      go_wp2
      go_ret
      first | rw [hw, HF.out] | rw [HF.out]
      refine ⟨rfl, ?_, (Keep.refl w2 (fun k => k = X)).set ⟨X, 1 + a, none⟩ _ (.inl rfl)⟩
      have h1 := HX.out.set (1 + a) (.int .i64 (D a - P))
      rw [dset q D a f (by omega)] at h1
      exact h1

/-- A cost and a weight, as values: what they answer at modes. -/
def FnP (w : World) (fc fw : Value) (c wt : Int → Int) : Prop :=
  (∃ p1 p2 n1 n2, fc = .func (.func 73) #[] #[.pointer (some p1)] ∧ fw = .func (.func 73) #[] #[.pointer (some p2)] ∧ w.cell? p1 = some (.int .i64 n1) ∧ w.cell? p2 = some (.int .i64 n2) ∧ c = (fun _ => n1) ∧ wt = fun _ => n2) ∨
  (∃ g b0 b1, fc = .func (.func 29) #[] #[.pointer (some ⟨g, 0, none⟩)] ∧ fw = .func (.func 30) #[] #[.pointer (some ⟨g, 0, none⟩)] ∧ (0 ≤ b0 ∧ b0 ≤ 65535) ∧ (0 ≤ b1 ∧ b1 ≤ 65535) ∧ Bk w g 55 #[.int .u16 b0, .int .u16 b1] ∧ c = (fun m => 100 + m * b0 % 9000) ∧ wt = fun m => 1 + m * b1 % 8)
theorem FnP.move {w W : World} {fc fw : Value} {c wt : Int → Int} (h : FnP w fc fw c wt) {S : Nat → Prop} (k : Keep w W S) (hS : ∀ i, i < w.heap.size → ¬ S i) : FnP W fc fw c wt := by
  have kk : ∀ q v, w.cell? q = some v → W.cell? q = some v := fun q v hq => (World.cell?_of_block (w := w) (k.block _ (World.block_lt_of_cell? w _ hq) (hS _ (World.block_lt_of_cell? w _ hq)))).trans hq
  rcases h with ⟨p1, p2, n1, n2, h1, h2, h3, h4, h5⟩ | ⟨g, b0, b1, h1, h2, h3, h4, h5, h6⟩
  · exact .inl ⟨p1, p2, n1, n2, h1, h2, kk _ _ h3, kk _ _ h4, h5⟩
  · exact .inr ⟨g, b0, b1, h1, h2, h3, h4, (k.block _ h5.lt (hS _ h5.lt)).trans h5, h6⟩
theorem FnP.below {w W : World} {fc fw : Value} {c wt : Int → Int} (h : FnP w fc fw c wt) (hB : Below w.heap.size w W) : FnP W fc fw c wt := h.move (Keep.below (S := fun _ => False) hB) (fun _ _ => id)
def turnF (q : Int) (wd : Nat → Bool) (c wt : Int → Int) (s : St) : Bool × St := turnV q (wd s.a) (clip (c s.a) 40000) (clip (wt s.a) 8) s
theorem turn_ok (w : World) (X Y : Nat) (pc pw : Addr) (q : Int) (hq : 1000 ≤ q ∧ q ≤ 1000000) (s : St) (ha : 1 ≤ s.a ∧ s.a ≤ 28) (wd : Nat → Bool) (hD : 0 ≤ s.D s.a ∧ s.D s.a ≤ 10000000)
    (hX : Bk w X 109 (dcells q s.D (s.a : Int) s.f)) (hY : Bk w Y 130 (wcells wd)) (fc fw : Value) (c wt : Int → Int) (hf : FnP w fc fw c wt) (hc : w.cell? pc = some fc) (hw : w.cell? pw = some fw) :
    Calls Try.prog 77 #[.pointer (some ⟨X, 0, none⟩), .pointer (some pc), .pointer (some ⟨Y, 0, none⟩), .pointer (some pw)] w (TurnOk w X q (turnF q wd c wt s)) := by
  obtain ⟨D, a, f⟩ := s
  rcases hf with ⟨p1, p2, n1, n2, rfl, rfl, h3, h4, rfl, rfl⟩ | ⟨g, b0, b1, rfl, rfl, h3, h4, h5, rfl, rfl⟩
  · exact turnA w X Y pc pw q hq D a ha f wd hD hX hY p1 p2 n1 n2 hc hw h3 h4
  · exact turnB w X Y pc pw q hq D a ha f wd hD hX hY g b0 b1 h3 h4 hc hw h5
end Go.Proofs.Ytcmcgjjhbjlkpaa.Pk
