import Derived.Test.YtcmcgjjhbjlkpaaPkG
namespace Go.Proofs.Ytcmcgjjhbjlkpaa.Pk
open Go.RowKit Go.Shelf Go.Proofs.Ytcmcgjjhbjlkpaa.Rw Go.Proofs.YtcmcgjjhbjlkpaaW.PrintWords Go.Proofs.YtcmcgjjhbjlkpaaW.PrintLast Go.Proofs.YtcmcgjjhbjlkpaaW.PrintMore Go.Proofs.Ytcmcgjjhbjlkpaa.PPickPlays Go.Proofs.Ytcmcgjjhbjlkpaa.Air
set_option linter.unusedVariables false
set_option linter.unusedSimpArgs false
/-! ### The rules of a pick -/
def chz : Array Value := #[.int .i64 0, .int .u64 0, .int .i64 0, .pointer none]
theorem Bk.drew {w : World} {g t : Nat} {cs : Array Value} (h : Bk w g t cs) : Bk w.drew g t cs := h
theorem cell_below {w W : World} {p : Addr} {v : Value} (h : w.cell? p = some v) (hB : Below w.heap.size w W) : W.cell? p = some v := (hB.cell (World.block_lt_of_cell? w _ h)).trans h
/-- The candidates, as the closures see them. -/
structure Cands (w : World) (pl p11 : Nat) (A : Option Addr) (c : Nat) (xs : List S74) : Prop where
  r : Kd.C k74 w A xs.length xs
  m : xs.length ≤ 9223372036854775806
  l : w.cell? ⟨pl, 0, none⟩ = some (.slice A xs.length c)
  f : w.cell? ⟨p11, 0, none⟩ = some (.func (.func 57) #[] #[.pointer (some ⟨pl, 0, none⟩)])
theorem Cands.below {w W : World} {pl p11 : Nat} {A : Option Addr} {c : Nat} {xs : List S74} (h : Cands w pl p11 A c xs) (hB : Below w.heap.size w W) : Cands W pl p11 A c xs :=
  ⟨cells_below h.r hB, h.m, cell_below h.l hB, cell_below h.f hB⟩
def qVoice (x : S74) : Bool := cnt x && x.f2
def qOld (x : S74) : Bool := cnt x && x.f3
def qMode (m : Int) (x : S74) : Bool := cnt x && decide (x.f1 = m)
def choice (pick : Int) (acc : Option S74) (d : Option Addr) : Array Value := #[.int .i64 pick, .int .u64 (acc.getD z74).f0, .int .i64 (acc.getD z74).f1, .pointer d]
theorem set4b {w w1 : World} {B g t : Nat} {a b c d a' b' c' d' : Value} (hb : Below B w w1) (hg : B ≤ g) : Below B w ((((w1.setCell ⟨g, 0, none⟩ a').setCell ⟨g, 1, none⟩ b').setCell ⟨g, 2, none⟩ c').setCell ⟨g, 3, none⟩ d') :=
  (((hb.setCell (p := ⟨g, 0, none⟩) hg _).setCell (p := ⟨g, 1, none⟩) hg _).setCell (p := ⟨g, 2, none⟩) hg _).setCell (p := ⟨g, 3, none⟩) hg _
set_option maxHeartbeats 4000000 in
set_option maxRecDepth 100000 in
theorem voice_rule (w : World) (pl p11 p7 p6 p13 : Nat) (A : Option Addr) (c : Nat) (xs : List S74) (h : Cands w pl p11 A c xs) (d : Option Addr) (h7 : w.cell? ⟨p7, 0, none⟩ = some (.pointer d)) (last : Int) (h6 : w.cell? ⟨p6, 0, none⟩ = some (.int .i64 last)) (wt : Bool) (h13 : w.cell? ⟨p13, 0, none⟩ = some (.bool wt)) :
    Calls Try.prog 63 #[.pointer (some ⟨p11, 0, none⟩), .pointer (some ⟨p7, 0, none⟩), .pointer (some ⟨p6, 0, none⟩), .pointer (some ⟨p13, 0, none⟩)] w fun e w' =>
      e = .returned (.tuple #[.agg (choice 1 (fst qVoice xs) d), .bool ((fst qVoice xs).isSome && (decide (last ≠ 1) || !wt))]) ∧ Below w.heap.size w w' := by
  have HC0 := Aside0.mk (Bk.new w 63 chz)
  have HB0 := Aside0.mk ((Below.refl w.heap.size w).alloc (Nat.le_refl _) (.cells chz 63))
  have H := Aside0.mk (h.below HB0.out)
  have H7 := Aside0.mk (cell_below h7 HB0.out)
  have H6 := Aside0.mk (cell_below h6 HB0.out)
  have H13 := Aside0.mk (cell_below h13 HB0.out)
  have hf := h.f
  have hfl : p11 < w.heap.size := World.block_lt_of_cell? w _ hf
  have m7 : p7 < w.heap.size := World.block_lt_of_cell? w _ h7
  have m6 : p6 < w.heap.size := World.block_lt_of_cell? w _ h6
  have m13 : p13 < w.heap.size := World.block_lt_of_cell? w _ h13
  clear h h7 h6 h13
  go_enter Try.func63, Try.ntmps63
  go_wp2_with fail
  refine (some_ok _ A c xs H.out.r H.out.m ⟨pl, 0, none⟩ H.out.l _ (fun x => x.f2) (.inr (.inl ⟨rfl, rfl⟩)) rfl).mono ?_
  rintro e w1 ⟨rfl, hb1⟩
  rw [show (fun x => cnt x && (fun x : S74 => x.f2) x) = qVoice from rfl]
  obtain ⟨acc, eacc⟩ : ∃ acc, acc = fst qVoice xs := ⟨_, rfl⟩
  have HA := Aside0.mk eacc
  rw [← eacc]
  have HB1 := Aside0.mk (HB0.out.trans (hb1.mono (by simp)))
  have HC1 := Aside0.mk (HC0.out.below hb1)
  have h7 := cell_below H7.out hb1
  have h6 := cell_below H6.out hb1
  have h13 := cell_below H13.out hb1
  have l7 : p7 < w1.heap.size := World.block_lt_of_cell? _ _ h7
  have l6 : p6 < w1.heap.size := World.block_lt_of_cell? _ _ h6
  have l13 : p13 < w1.heap.size := World.block_lt_of_cell? _ _ h13
  obtain ⟨c0, c1, c2, c3, f0, f1, f2, f3⟩ := cells4 HC1.out
  have l0 := HC1.out.lt
  clear hb1 hf hfl eacc
  rw [fcells]
  obtain ⟨W2, eW2⟩ : ∃ W2, W2 = ((((((w1.setCell { block := w.heap.size, off := 0 } (Value.int IntKind.i64 1)).setCell { block := w.heap.size, off := 1 } (Value.int IntKind.u64 (acc.getD z74).f0)).setCell { block := w.heap.size, off := 2 } (Value.int IntKind.i64 (acc.getD z74).f1)).setCell { block := w.heap.size, off := 3 } (Value.pointer d)).alloc (Obj.cells #[Value.int IntKind.u64 (acc.getD z74).f0, Value.int IntKind.i64 (acc.getD z74).f1, Value.bool (acc.getD z74).f2, Value.bool (acc.getD z74).f3] 74))).drew := ⟨_, rfl⟩
  have HB2 : Aside0 (Below w.heap.size w W2) := ⟨by
    rw [eW2]
    exact ((set4b (t := 0) (a := undef) (b := undef) (c := undef) (d := undef) HB1.out (Nat.le_refl _)).alloc (by simp [World.setCell]; omega) _).drew⟩
  have HC2 : Aside0 (Bk W2 w.heap.size 63 (choice 1 acc d)) := ⟨by rw [eW2]; exact ((set4 HC1.out).alloc _).drew⟩
  have HW2 := Aside0.mk eW2
  clear eW2
  cases hs : acc.isSome
  · go_wp2_with fail
    go_region
    go_wp2
    rw [← HW2.out]
    obtain ⟨d0, d1, d2, d3, _⟩ := cells4 HC2.out
    refine bodyPost_ret (v := .tuple #[.agg (choice 1 acc d), .bool false]) (by simp [results, Try.results63, go_sem, d0, d1, d2, d3, choice]) rfl ⟨?_, HB2.out⟩
    rw [← HA.out]
    simp [hs]
  · by_cases hl : last = 1
    · subst hl
      cases wt
      · go_wp2_with fail
        go_region
        go_wp2
        rw [← HW2.out]
        obtain ⟨d0, d1, d2, d3, _⟩ := cells4 HC2.out
        refine bodyPost_ret (v := .tuple #[.agg (choice 1 acc d), .bool true]) (by simp [results, Try.results63, go_sem, d0, d1, d2, d3, choice]) rfl ⟨?_, HB2.out⟩
        rw [← HA.out]
        simp [hs]
      · go_wp2_with fail
        go_region
        go_wp2
        rw [← HW2.out]
        obtain ⟨d0, d1, d2, d3, _⟩ := cells4 HC2.out
        refine bodyPost_ret (v := .tuple #[.agg (choice 1 acc d), .bool false]) (by simp [results, Try.results63, go_sem, d0, d1, d2, d3, choice]) rfl ⟨?_, HB2.out⟩
        rw [← HA.out]
        simp [hs]
    · have hl2 : (last != 1) = true := by simpa using hl
      go_wp2_with fail
      go_region
      go_wp2
      rw [← HW2.out]
      obtain ⟨d0, d1, d2, d3, _⟩ := cells4 HC2.out
      refine bodyPost_ret (v := .tuple #[.agg (choice 1 acc d), .bool true]) (by simp [results, Try.results63, go_sem, d0, d1, d2, d3, choice]) rfl ⟨?_, HB2.out⟩
      rw [← HA.out]
      simp [hs, hl]
end Go.Proofs.Ytcmcgjjhbjlkpaa.Pk
