import Derived.Test.YtcmcgjjhbjlkpaaPkS
namespace Go.Proofs.Ytcmcgjjhbjlkpaa.Pk
open Go.RowKit Go.Shelf Go.Proofs.Ytcmcgjjhbjlkpaa.Rw Go.Proofs.YtcmcgjjhbjlkpaaW.PrintWords Go.Proofs.YtcmcgjjhbjlkpaaW.PrintLast Go.Proofs.YtcmcgjjhbjlkpaaW.PrintMore Go.Proofs.Ytcmcgjjhbjlkpaa.PPickPlays Go.Proofs.Ytcmcgjjhbjlkpaa.Air
set_option linter.unusedVariables false
set_option linter.unusedSimpArgs false
/-! ### In which order they stand changes nothing -/
theorem fold_spec (p : S74 → Bool) (l : List S74) : ∀ acc : Option S74,
    (l.foldl (fstep p) acc = none → acc = none ∧ ∀ z ∈ l, p z = false) ∧
    (∀ y, l.foldl (fstep p) acc = some y → (acc = some y ∨ (y ∈ l ∧ p y = true)) ∧ (∀ a, acc = some a → y.f0 ≤ a.f0) ∧ ∀ z ∈ l, p z = true → y.f0 ≤ z.f0) := by
  induction l with
  | nil => exact fun acc => ⟨fun h => ⟨h, by simp⟩, fun y h => ⟨.inl h, fun a ha => by rw [List.foldl_nil] at h; rw [h] at ha; injection ha with ha; rw [ha]; exact Int.le_refl _, by simp⟩⟩
  | cons x l ih =>
    intro acc
    rw [List.foldl_cons]
    obtain ⟨i1, i2⟩ := ih (fstep p acc x)
    refine ⟨fun h => ?_, fun y h => ?_⟩
    · obtain ⟨h1, h2⟩ := i1 h
      unfold fstep at h1
      split at h1
      · cases h1
      · rename_i hc
        refine ⟨h1, fun z hz => ?_⟩
        rcases List.mem_cons.1 hz with rfl | hz
        · subst h1; simpa using hc
        · exact h2 z hz
    · obtain ⟨h1, h2, h3⟩ := i2 y h
      unfold fstep at h1 h2
      split at h1
      · rename_i hc
        rw [if_pos hc] at h2
        have hx := h2 x rfl
        rw [Bool.and_eq_true] at hc
        refine ⟨?_, fun a ha => ?_, fun z hz hp => ?_⟩
        · rcases h1 with h1 | ⟨h1, h4⟩
          · injection h1 with h1; subst h1; exact .inr ⟨List.mem_cons_self, hc.1⟩
          · exact .inr ⟨List.mem_cons_of_mem _ h1, h4⟩
        · subst ha
          have := hc.2
          simp at this
          omega
        · rcases List.mem_cons.1 hz with rfl | hz
          · exact hx
          · exact h3 z hz hp
      · rename_i hc
        rw [if_neg hc] at h2
        refine ⟨?_, h2, fun z hz hp => ?_⟩
        · rcases h1 with h1 | ⟨h1, h4⟩
          · exact .inl h1
          · exact .inr ⟨List.mem_cons_of_mem _ h1, h4⟩
        · rcases List.mem_cons.1 hz with rfl | hz
          · cases acc with
            | none => rw [hp] at hc; simp at hc
            | some a =>
              have ha := h2 a rfl
              rw [hp] at hc
              simp at hc
              omega
          · exact h3 z hz hp
theorem fst_none {p : S74 → Bool} {L : List S74} (h : fst p L = none) : ∀ z ∈ L, p z = false := ((fold_spec p L none).1 h).2
theorem fst_min {p : S74 → Bool} {L : List S74} {y : S74} (h : fst p L = some y) : y ∈ L ∧ p y = true ∧ ∀ z ∈ L, p z = true → y.f0 ≤ z.f0 := by
  obtain ⟨h1, _, h3⟩ := (fold_spec p L none).2 y h
  rcases h1 with h1 | ⟨h1, h2⟩
  · cases h1
  · exact ⟨h1, h2, h3⟩
/-- Two lists of the same candidates, no two with one number. -/
def Alike (L L' : List S74) : Prop := (∀ x, x ∈ L' ↔ x ∈ L) ∧ ∀ x ∈ L, ∀ y ∈ L, x.f0 = y.f0 → x = y
theorem Alike.fst_eq {L L' : List S74} (h : Alike L L') (p : S74 → Bool) : fst p L' = fst p L := by
  obtain ⟨h, hi⟩ := h
  cases e : fst p L with
  | none =>
    cases e' : fst p L' with
    | none => rfl
    | some y =>
      obtain ⟨h1, h2, _⟩ := fst_min e'
      have := fst_none e y ((h y).1 h1)
      rw [h2] at this; cases this
  | some x =>
    obtain ⟨a1, a2, a3⟩ := fst_min e
    cases e' : fst p L' with
    | none =>
      have := fst_none e' x ((h x).2 a1)
      rw [a2] at this; cases this
    | some y =>
      obtain ⟨b1, b2, b3⟩ := fst_min e'
      have b1' := (h y).1 b1
      have l1 := a3 y b1' b2
      have l2 := b3 x ((h x).2 a1) a2
      rw [hi y b1' x a1 (by omega)]
theorem mem_want {L : List S74} {v : Int} : v ∈ wantL L ↔ ∃ x ∈ L, cnt x = true ∧ x.f1 = v := by
  unfold wantL
  rw [List.mem_map]
  constructor
  · rintro ⟨x, hx, rfl⟩
    obtain ⟨h1, h2⟩ := List.mem_filter.1 hx
    exact ⟨x, h1, h2, rfl⟩
  · rintro ⟨x, h1, h2, rfl⟩
    exact ⟨x, List.mem_filter.2 ⟨h1, h2⟩, rfl⟩
theorem mem_ys {xs : List Int} {y : Fin 29} : y ∈ ysOf xs ↔ ∃ v ∈ xs, inR v = true ∧ fi v = y := by
  unfold ysOf
  rw [List.mem_map]
  constructor
  · rintro ⟨v, hv, rfl⟩
    obtain ⟨h1, h2⟩ := List.mem_filter.1 hv
    exact ⟨v, h1, h2, rfl⟩
  · rintro ⟨v, h1, h2, rfl⟩
    exact ⟨v, List.mem_filter.2 ⟨h1, h2⟩, rfl⟩
theorem Alike.mem_ys {L L' : List S74} (h : Alike L L') (y : Fin 29) : y ∈ ysOf (wantL L') ↔ y ∈ ysOf (wantL L) := by
  rw [Pk.mem_ys, Pk.mem_ys]
  constructor
  · rintro ⟨v, hv, r⟩
    obtain ⟨x, hx, r2⟩ := mem_want.1 hv
    exact ⟨v, mem_want.2 ⟨x, (h.1 x).1 hx, r2⟩, r⟩
  · rintro ⟨v, hv, r⟩
    obtain ⟨x, hx, r2⟩ := mem_want.1 hv
    exact ⟨v, mem_want.2 ⟨x, (h.1 x).2 hx, r2⟩, r⟩
theorem Alike.wd_eq {L L' : List S74} (h : Alike L L') : wdOf (ysOf (wantL L')) = wdOf (ysOf (wantL L)) := by
  funext i
  unfold wdOf
  rw [Bool.eq_iff_iff, List.any_eq_true, List.any_eq_true]
  constructor
  · rintro ⟨y, hy, e⟩; exact ⟨y, (h.mem_ys y).1 hy, e⟩
  · rintro ⟨y, hy, e⟩; exact ⟨y, (h.mem_ys y).2 hy, e⟩
theorem Alike.nil {L L' : List S74} (h : Alike L L') : ysOf (wantL L') = [] ↔ ysOf (wantL L) = [] := by
  rw [List.eq_nil_iff_forall_not_mem, List.eq_nil_iff_forall_not_mem]
  exact ⟨fun k y hy => k y ((h.mem_ys y).2 hy), fun k y hy => k y ((h.mem_ys y).1 hy)⟩
theorem PlaysOk.alike {L L' : List S74} (h : Alike L L') {last : Int} {s : St} {c wt : Int → Int} {pk : Int} {acc : Option S74} {s' : St} (k : PlaysOk L' last s c wt pk acc s') : PlaysOk L last s c wt pk acc s' := by
  have hp : pickB L' last = pickB L last := by unfold pickB; rw [h.fst_eq, h.fst_eq]
  unfold PlaysOk at *
  rw [hp, h.fst_eq, h.fst_eq, h.fst_eq, h.wd_eq, h.nil] at k
  have hne : (ysOf (wantL L') ≠ []) = (ysOf (wantL L) ≠ []) := by rw [Ne, Ne, h.nil]
  rw [hne] at k
  exact k
theorem alike_swap {L L' : List S74} (h : Alike L L') {j k : Nat} (hj : j < L'.length) (hk : k < L'.length) : Alike L ((L'.set j L'[k]).set k L'[j]) := by
  refine ⟨fun x => (Iff.trans ?_ (h.1 x)), h.2⟩
  rw [List.mem_iff_getElem?, List.mem_iff_getElem?]
  constructor
  · rintro ⟨i, hi⟩
    rw [List.getElem?_set] at hi
    split at hi
    · split at hi
      · exact ⟨j, by rw [List.getElem?_eq_getElem hj]; exact hi⟩
      · cases hi
    · rw [List.getElem?_set] at hi
      split at hi
      · exact ⟨k, by rw [List.getElem?_eq_getElem hk]; exact hi⟩
      · exact ⟨i, hi⟩
  · rintro ⟨i, hi⟩
    by_cases e1 : i = j
    · subst e1
      rw [List.getElem?_eq_getElem hj] at hi
      exact ⟨k, by rw [List.getElem?_set, if_pos rfl, if_pos (by simpa using hk)]; exact hi⟩
    · by_cases e2 : i = k
      · subst e2
        rw [List.getElem?_eq_getElem hk] at hi
        refine ⟨j, ?_⟩
        rw [List.getElem?_set, if_neg e1, List.getElem?_set, if_pos rfl, if_pos hj]
        exact hi
      · exact ⟨i, by rw [List.getElem?_set, if_neg (fun e => e2 e.symm), List.getElem?_set, if_neg (fun e => e1 e.symm)]; exact hi⟩
end Go.Proofs.Ytcmcgjjhbjlkpaa.Pk
