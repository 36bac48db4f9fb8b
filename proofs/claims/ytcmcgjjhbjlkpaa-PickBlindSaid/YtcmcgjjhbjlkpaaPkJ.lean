import Derived.Test.YtcmcgjjhbjlkpaaPkI
namespace Go.Proofs.Ytcmcgjjhbjlkpaa.Pk
open Go.RowKit Go.Shelf Go.Proofs.Ytcmcgjjhbjlkpaa.Rw Go.Proofs.YtcmcgjjhbjlkpaaW.PrintWords Go.Proofs.YtcmcgjjhbjlkpaaW.PrintLast Go.Proofs.YtcmcgjjhbjlkpaaW.PrintMore Go.Proofs.Ytcmcgjjhbjlkpaa.PPickPlays Go.Proofs.Ytcmcgjjhbjlkpaa.Air
set_option linter.unusedVariables false
set_option linter.unusedSimpArgs false
theorem sameBut.ofBelow {w w1 : World} {X : Nat} (h : Below w.heap.size w w1) : sameBut w w1 X := Keep.below h
theorem sb4 (w1 : World) (g : Nat) (a' b' c' d' : Value) {o : Obj} : sameBut w1 (((((w1.setCell ⟨g, 0, none⟩ a').setCell ⟨g, 1, none⟩ b').setCell ⟨g, 2, none⟩ c').setCell ⟨g, 3, none⟩ d').alloc o) g :=
  (((((Keep.refl w1 (fun k => k = g)).set ⟨g, 0, none⟩ _ (.inl rfl)).set ⟨g, 1, none⟩ _ (.inl rfl)).set ⟨g, 2, none⟩ _ (.inl rfl)).set ⟨g, 3, none⟩ _ (.inl rfl)).alloc o
/-! ### The first rule that answers -/
def OfPost (w : World) (acc0 acc1 : Option S74) (d0 : Option Addr) (b0 b1 : Bool) (S : Option S74 → Option Addr → Bool → World → Prop) (e : Ending) (w' : World) : Prop :=
  Below w.heap.size w w' ∧ ((b0 = true ∧ e = .returned (.agg (choice 1 acc0 d0))) ∨ (b0 = false ∧ b1 = true ∧ e = .returned (.agg (choice 2 acc1 d0))) ∨
    (b0 = false ∧ b1 = false ∧ ∃ acc2 d2 b2, S acc2 d2 b2 w' ∧ e = .returned (.agg (if b2 then choice 3 acc2 d2 else choice 0 none d0))))
set_option maxHeartbeats 8000000 in
set_option maxRecDepth 100000 in
theorem of_ok (w : World) (b : Nat) (f0 f1 f2 f3 : Array Value) (acc0 acc1 : Option S74) (d0 : Option Addr) (b0 b1 : Bool) (S : Option S74 → Option Addr → Bool → World → Prop) (hS : ∀ a d b W W', S a d b W → sameBut W W' w.heap.size → S a d b W')
    (h0 : w.cell? ⟨b, 0, none⟩ = some (.func (.func 63) #[] f0)) (h1 : w.cell? ⟨b, 1, none⟩ = some (.func (.func 65) #[] f1)) (h2 : w.cell? ⟨b, 2, none⟩ = some (.func (.func 66) #[] f2)) (h3 : w.cell? ⟨b, 3, none⟩ = some (.func (.func 69) #[] f3))
    (c0 : ∀ W, Below w.heap.size w W → Calls Try.prog 63 f0 W fun e W' => e = .returned (.tuple #[.agg (choice 1 acc0 d0), .bool b0]) ∧ Below W.heap.size W W')
    (c1 : ∀ W, Below w.heap.size w W → Calls Try.prog 65 f1 W fun e W' => e = .returned (.tuple #[.agg (choice 2 acc1 d0), .bool b1]) ∧ Below W.heap.size W W')
    (c2 : ∀ W, Below w.heap.size w W → w.heap.size < W.heap.size → Calls Try.prog 66 f2 W fun e W' => ∃ acc2 d2 b2, e = .returned (.tuple #[.agg (choice 3 acc2 d2), .bool b2]) ∧ Below W.heap.size W W' ∧ S acc2 d2 b2 W')
    (c3 : ∀ W, Below w.heap.size w W → Calls Try.prog 69 f3 W fun e W' => e = .returned (.tuple #[.agg (choice 0 none d0), .bool true]) ∧ Below W.heap.size W W') :
    Calls Try.prog 70 #[.slice (some ⟨b, 0, none⟩) 4 4] w (OfPost w acc0 acc1 d0 b0 b1 S) := by
  have H0 := Aside0.mk h0
  have H1 := Aside0.mk h1
  have H2 := Aside0.mk h2
  have H3 := Aside0.mk h3
  have C0 := Aside0.mk c0
  have C1 := Aside0.mk c1
  have C2 := Aside0.mk c2
  have C3 := Aside0.mk c3
  have HS := Aside0.mk hS
  have HC0 := Aside0.mk (Bk.new w 63 chz)
  have HB0 := Aside0.mk ((Below.refl w.heap.size w).alloc (Nat.le_refl _) (.cells chz 63))
  clear h0 h1 h2 h3 c0 c1 c2 c3 hS
  go_enter Try.func70, Try.ntmps70
  go_wp2_with fail
  go_loopw [9] (fun v9 wr => ∃ i : Nat, i ≤ 3 ∧ v9 = .int .i64 i ∧ Aside0 (Below w.heap.size w wr) ∧ Aside0 (Bk wr w.heap.size 63 chz) ∧ Aside0 (1 ≤ i → b0 = false) ∧ Aside0 (2 ≤ i → b1 = false) ∧ Aside0 (3 ≤ i → ∃ acc2 d2, S acc2 d2 false wr)) (fun v9 _ => 4 - (intOf v9).toNat)
  case atStart => exact ⟨0, by omega, rfl, HB0, HC0, ⟨by omega⟩, ⟨by omega⟩, ⟨by omega⟩⟩
  case round =>
    obtain ⟨i, hi, rfl, HB, HC, HI0, HI1, HI2⟩ := hrel
    rcases (show i = 0 ∨ i = 1 ∨ i = 2 ∨ i = 3 by omega) with rfl | rfl | rfl | rfl
    · have hx : wr.cell? ⟨b, 0, none⟩ = _ := cell_below H0.out HB.out
      go_wp2_with fail
      refine (C0.out wr HB.out).mono ?_
      rintro e w1 ⟨rfl, hb1⟩
      have HB1 := Aside0.mk (HB.out.trans (hb1.mono HB.out.size))
      have HC1 := Aside0.mk (HC.out.below hb1)
      have HBW := Aside0.mk hb1
      clear hb1
      rw [choice]
      cases b0
      · go_wp2
        refine ⟨⟨1, by omega, by go_num, ⟨HB1.out.alloc HB1.out.size _⟩, ⟨HC1.out.alloc _⟩, ⟨by simp⟩, ⟨by omega⟩, ⟨by omega⟩⟩, ?_⟩
        simp [intOf]
      · obtain ⟨e0, e1, e2, e3, g0, g1, g2, g3⟩ := cells4 HC1.out
        have l0 := HC1.out.lt
        go_wp2
        obtain ⟨k0, k1, k2, k3, _⟩ := cells4 ((set4 (a' := .int .i64 1) (b' := .int .u64 ((acc0).getD z74).f0) (c' := .int .i64 ((acc0).getD z74).f1) (d' := .pointer (d0)) HC1.out).alloc (.cells #[Value.int .i64 1, Value.int .u64 ((acc0).getD z74).f0, Value.int .i64 ((acc0).getD z74).f1, Value.pointer (d0)] 63))
        refine bodyPost_ret (v := .agg (choice 1 (acc0) (d0))) (by simp [results, Try.results70, go_sem, k0, k1, k2, k3, choice]) rfl ⟨((set4b (t := 0) (a := undef) (b := undef) (c := undef) (d := undef) HB1.out (Nat.le_refl _)).alloc (by simp [World.setCell]; omega) _), .inl ⟨rfl, rfl⟩⟩
    · have hx : wr.cell? ⟨b, 1, none⟩ = _ := cell_below H1.out HB.out
      have hb0 := HI0.out (by omega)
      have HE0 := Aside0.mk hb0
      clear hb0
      go_wp2_with fail
      refine (C1.out wr HB.out).mono ?_
      rintro e w1 ⟨rfl, hb1⟩
      have HB1 := Aside0.mk (HB.out.trans (hb1.mono HB.out.size))
      have HC1 := Aside0.mk (HC.out.below hb1)
      have HBW := Aside0.mk hb1
      clear hb1
      rw [choice]
      cases b1
      · go_wp2
        refine ⟨⟨2, by omega, by go_num, ⟨HB1.out.alloc HB1.out.size _⟩, ⟨HC1.out.alloc _⟩, ⟨fun _ => HE0.out⟩, ⟨by simp⟩, ⟨by omega⟩⟩, ?_⟩
        simp [intOf]
      · obtain ⟨e0, e1, e2, e3, g0, g1, g2, g3⟩ := cells4 HC1.out
        have l0 := HC1.out.lt
        go_wp2
        obtain ⟨k0, k1, k2, k3, _⟩ := cells4 ((set4 (a' := .int .i64 2) (b' := .int .u64 ((acc1).getD z74).f0) (c' := .int .i64 ((acc1).getD z74).f1) (d' := .pointer (d0)) HC1.out).alloc (.cells #[Value.int .i64 2, Value.int .u64 ((acc1).getD z74).f0, Value.int .i64 ((acc1).getD z74).f1, Value.pointer (d0)] 63))
        refine bodyPost_ret (v := .agg (choice 2 (acc1) (d0))) (by simp [results, Try.results70, go_sem, k0, k1, k2, k3, choice]) rfl ⟨((set4b (t := 0) (a := undef) (b := undef) (c := undef) (d := undef) HB1.out (Nat.le_refl _)).alloc (by simp [World.setCell]; omega) _), .inr (.inl ⟨HE0.out, rfl, rfl⟩)⟩
    · have hx : wr.cell? ⟨b, 2, none⟩ = _ := cell_below H2.out HB.out
      have hb0 := HI0.out (by omega)
      have hb1' := HI1.out (by omega)
      have HE0 := Aside0.mk hb0
      clear hb0
      have HE1 := Aside0.mk hb1'
      clear hb1'
      go_wp2_with fail
      refine (C2.out wr HB.out HC.out.lt).mono ?_
      rintro e w1 ⟨acc2, d2, b2, rfl, hb1, hs2⟩
      have HS2 := Aside0.mk hs2
      clear hs2
      have HB1 := Aside0.mk (HB.out.trans (hb1.mono HB.out.size))
      have HC1 := Aside0.mk (HC.out.below hb1)
      have HBW := Aside0.mk hb1
      clear hb1
      rw [choice]
      cases b2
      · go_wp2
        refine ⟨⟨3, by omega, by go_num, ⟨HB1.out.alloc HB1.out.size _⟩, ⟨HC1.out.alloc _⟩, ⟨fun _ => HE0.out⟩, ⟨fun _ => HE1.out⟩, ⟨fun _ => ⟨acc2, d2, HS.out _ _ _ _ _ HS2.out (sameBut.ofBelow ((Below.refl _ w1).alloc (Nat.le_refl _) _))⟩⟩⟩, ?_⟩
        simp [intOf]
      · obtain ⟨e0, e1, e2, e3, g0, g1, g2, g3⟩ := cells4 HC1.out
        have l0 := HC1.out.lt
        go_wp2
        obtain ⟨k0, k1, k2, k3, _⟩ := cells4 ((set4 (a' := .int .i64 3) (b' := .int .u64 ((acc2).getD z74).f0) (c' := .int .i64 ((acc2).getD z74).f1) (d' := .pointer (d2)) HC1.out).alloc (.cells #[Value.int .i64 3, Value.int .u64 ((acc2).getD z74).f0, Value.int .i64 ((acc2).getD z74).f1, Value.pointer (d2)] 63))
        refine bodyPost_ret (v := .agg (choice 3 (acc2) (d2))) (by simp [results, Try.results70, go_sem, k0, k1, k2, k3, choice]) rfl ⟨((set4b (t := 0) (a := undef) (b := undef) (c := undef) (d := undef) HB1.out (Nat.le_refl _)).alloc (by simp [World.setCell]; omega) _), .inr (.inr ⟨HE0.out, HE1.out, acc2, d2, true, HS.out _ _ _ _ _ HS2.out (sb4 _ _ _ _ _ _), rfl⟩)⟩
    · have hx : wr.cell? ⟨b, 3, none⟩ = _ := cell_below H3.out HB.out
      have hb0 := HI0.out (by omega)
      have hb1' := HI1.out (by omega)
      obtain ⟨acc2, d2, hs2⟩ := HI2.out (by omega)
      have HS2 := Aside0.mk hs2
      clear hs2
      have HE0 := Aside0.mk hb0
      clear hb0
      have HE1 := Aside0.mk hb1'
      clear hb1'
      go_wp2_with fail
      refine (C3.out wr HB.out).mono ?_
      rintro e w1 ⟨rfl, hb1⟩
      have HB1 := Aside0.mk (HB.out.trans (hb1.mono HB.out.size))
      have HC1 := Aside0.mk (HC.out.below hb1)
      have HBW := Aside0.mk hb1
      clear hb1
      rw [choice]
      obtain ⟨e0, e1, e2, e3, g0, g1, g2, g3⟩ := cells4 HC1.out
      have l0 := HC1.out.lt
      go_wp2
      obtain ⟨k0, k1, k2, k3, _⟩ := cells4 ((set4 (a' := .int .i64 0) (b' := .int .u64 ((none).getD z74).f0) (c' := .int .i64 ((none).getD z74).f1) (d' := .pointer (d0)) HC1.out).alloc (.cells #[Value.int .i64 0, Value.int .u64 ((none).getD z74).f0, Value.int .i64 ((none).getD z74).f1, Value.pointer (d0)] 63))
      simp only [Option.getD_none] at k0 k1 k2 k3
      refine bodyPost_ret (v := .agg (choice 0 (none) (d0))) (by simp [results, Try.results70, go_sem, k0, k1, k2, k3, choice]) rfl ⟨((set4b (t := 0) (a := undef) (b := undef) (c := undef) (d := undef) HB1.out (Nat.le_refl _)).alloc (by simp [World.setCell]; omega) _), .inr (.inr ⟨HE0.out, HE1.out, acc2, d2, false, HS.out _ _ _ _ _ HS2.out ((sameBut.ofBelow HBW.out).trans (sb4 _ _ _ _ _ _)), rfl⟩)⟩
end Go.Proofs.Ytcmcgjjhbjlkpaa.Pk
