import Derived.Test.YtcmcgjjhbjlkpaaAirA
import Derived.Test.YtcmcgjjhbjlkpaaPPickPlaysx0
namespace Go.Proofs.Ytcmcgjjhbjlkpaa.Pk
open Go.RowKit Go.Proofs.YtcmcgjjhbjlkpaaW.PrintWords Go.Proofs.YtcmcgjjhbjlkpaaW.PrintLast Go.Proofs.YtcmcgjjhbjlkpaaW.PrintMore Go.Proofs.Ytcmcgjjhbjlkpaa.PPickPlays
set_option linter.unusedVariables false
set_option linter.unusedSimpArgs false
/-- Does a candidate count? -/
def cnt (x : S74) : Bool := decide (0 < x.f0) && (decide (1 ≤ x.f1) && decide (x.f1 ≤ 28))
theorem counts_ok (a b : Int) (c d : Bool) (w : World) :
    Calls Try.prog 60 #[.agg #[.int .u64 a, .int .i64 b, .bool c, .bool d]] w fun e w' => e = .returned (.bool (cnt ⟨a, b, c, d⟩)) ∧ Below w.heap.size w w' := by
  by_cases h0 : 0 < a
  · by_cases h1 : 1 ≤ b
    · go_enter Try.func60, Try.ntmps60
      go_wp2
      go_ret
      exact ⟨by simp [cnt, h0, h1], (Below.refl _ _).alloc (Nat.le_refl _) _⟩
    · go_enter Try.func60, Try.ntmps60
      go_wp2
      go_ret
      exact ⟨by simp [cnt]; omega, (Below.refl _ _).alloc (Nat.le_refl _) _⟩
  · go_enter Try.func60, Try.ntmps60
    go_wp2
    go_ret
    exact ⟨by simp [cnt]; omega, (Below.refl _ _).alloc (Nat.le_refl _) _⟩
theorem elder_ok (a b a' b' : Int) (c d c' d' : Bool) (w : World) :
    Calls Try.prog 61 #[.agg #[.int .u64 a, .int .i64 b, .bool c, .bool d], .agg #[.int .u64 a', .int .i64 b', .bool c', .bool d']] w fun e w' => e = .returned (.bool (decide (a < a'))) ∧ Below w.heap.size w w' := by
  go_enter Try.func61, Try.ntmps61
  go_wp2
  go_ret
  exact ⟨rfl, ((Below.refl _ _).alloc (Nat.le_refl _) _).alloc (by simp) _⟩
theorem old_ok (a b : Int) (c d : Bool) (w : World) :
    Calls Try.prog 62 #[.agg #[.int .u64 a, .int .i64 b, .bool c, .bool d]] w fun e w' => e = .returned (.bool d) ∧ Below w.heap.size w w' := by
  go_enter Try.func62, Try.ntmps62
  go_wp2
  go_ret
  exact ⟨rfl, (Below.refl _ _).alloc (Nat.le_refl _) _⟩
theorem voice_ok (a b : Int) (c d : Bool) (w : World) :
    Calls Try.prog 64 #[.agg #[.int .u64 a, .int .i64 b, .bool c, .bool d]] w fun e w' => e = .returned (.bool c) ∧ Below w.heap.size w w' := by
  go_enter Try.func64, Try.ntmps64
  go_wp2
  go_ret
  exact ⟨rfl, (Below.refl _ _).alloc (Nat.le_refl _) _⟩
theorem mode_ok (a b m : Int) (c d : Bool) (p : Addr) (w : World) (hp : w.cell? p = some (.int .i64 m)) :
    Calls Try.prog 68 #[.agg #[.int .u64 a, .int .i64 b, .bool c, .bool d], .pointer (some p)] w fun e w' => e = .returned (.bool (decide (b = m))) ∧ Below w.heap.size w w' := by
  have hlt := World.block_lt_of_cell? w _ hp
  go_enter Try.func68, Try.ntmps68
  go_wp2
  go_ret
  exact ⟨rfl, (Below.refl _ _).alloc (Nat.le_refl _) _⟩
/-- What a box asks of a candidate: one of three functions. -/
def AskAt (w : World) (pb : Addr) (p : S74 → Bool) : Prop :=
  (w.cell? pb = some (.func (.func 62) #[] #[]) ∧ p = fun x => x.f3) ∨ (w.cell? pb = some (.func (.func 64) #[] #[]) ∧ p = fun x => x.f2) ∨
  ∃ pm m, w.cell? pb = some (.func (.func 68) #[] #[.pointer (some pm)]) ∧ w.cell? pm = some (.int .i64 m) ∧ p = fun x => decide (x.f1 = m)
theorem AskAt.below {w W : World} {pb : Addr} {p : S74 → Bool} (h : AskAt w pb p) (hB : Below w.heap.size w W) : AskAt W pb p := by
  have k : ∀ q v, w.cell? q = some v → W.cell? q = some v := fun q v h => (hB.cell (World.block_lt_of_cell? w _ h)).trans h
  rcases h with ⟨h, e⟩ | ⟨h, e⟩ | ⟨pm, m, h, h2, e⟩
  · exact .inl ⟨k _ _ h, e⟩
  · exact .inr (.inl ⟨k _ _ h, e⟩)
  · exact .inr (.inr ⟨pm, m, k _ _ h, k _ _ h2, e⟩)
set_option maxHeartbeats 1000000 in
theorem is_ok (x : S74) (pb : Addr) (p : S74 → Bool) (w : World) (h : AskAt w pb p) :
    Calls Try.prog 59 #[.agg #[.int .u64 x.f0, .int .i64 x.f1, .bool x.f2, .bool x.f3], .pointer (some pb)] w fun e w' => e = .returned (.bool (cnt x && p x)) ∧ Below w.heap.size w w' := by
  obtain ⟨a, b, c, d⟩ := x
  dsimp only
  have h2 := Aside0.mk (h.below ((Below.refl _ w).alloc (Nat.le_refl _) (.cells #[.int .u64 a, .int .i64 b, .bool c, .bool d] 74)))
  have HB := Aside0.mk ((Below.refl w.heap.size w).alloc (Nat.le_refl _) (.cells #[.int .u64 a, .int .i64 b, .bool c, .bool d] 74))
  clear h
  go_enter Try.func59, Try.ntmps59
  go_wp2_with fail
  refine (counts_ok a b c d _).mono ?_
  rintro e w1 ⟨rfl, hb1⟩
  have hx0 : w1.cell? ⟨w.heap.size, 0, none⟩ = some (.int .u64 a) := (hb1.cell (by simp)).trans (World.cell?_alloc_new ..)
  have hx1 : w1.cell? ⟨w.heap.size, 1, none⟩ = some (.int .i64 b) := (hb1.cell (by simp)).trans (World.cell?_alloc_new ..)
  have hx2 : w1.cell? ⟨w.heap.size, 2, none⟩ = some (.bool c) := (hb1.cell (by simp)).trans (World.cell?_alloc_new ..)
  have hx3 : w1.cell? ⟨w.heap.size, 3, none⟩ = some (.bool d) := (hb1.cell (by simp)).trans (World.cell?_alloc_new ..)
  have h1 := h2.out.below hb1
  have HB1 := Aside0.mk (HB.out.trans (hb1.mono (by simp)))
  clear hb1
  cases hc : cnt ⟨a, b, c, d⟩
  · clear h1
    go_wp2
    go_ret
    exact ⟨by rw [hc]; rfl, HB1.out⟩
  · rcases h1 with ⟨hp, rfl⟩ | ⟨hp, rfl⟩ | ⟨pm, m, hp, hm, rfl⟩
    · go_wp2_with fail
      refine (old_ok a b c d _).mono ?_
      rintro e w2 ⟨rfl, hb2⟩
      have HB2 := Aside0.mk (HB1.out.trans (hb2.mono HB1.out.size))
      clear hb2
      go_wp2
      go_ret
      exact ⟨by simp, HB2.out⟩
    · go_wp2_with fail
      refine (voice_ok a b c d _).mono ?_
      rintro e w2 ⟨rfl, hb2⟩
      have HB2 := Aside0.mk (HB1.out.trans (hb2.mono HB1.out.size))
      clear hb2
      go_wp2
      go_ret
      exact ⟨by simp, HB2.out⟩
    · go_wp2_with fail
      refine (mode_ok a b m c d pm _ hm).mono ?_
      rintro e w2 ⟨rfl, hb2⟩
      have HB2 := Aside0.mk (HB1.out.trans (hb2.mono HB1.out.size))
      clear hb2
      go_wp2
      go_ret
      exact ⟨by simp, HB2.out⟩
end Go.Proofs.Ytcmcgjjhbjlkpaa.Pk
