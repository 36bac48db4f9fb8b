import Derived.Test.YtcmcgjjhbjlkpaaAirE
namespace Go.Proofs.Ytcmcgjjhbjlkpaa.Air
open Go.RowKit Go.Proofs.YtcmcgjjhbjlkpaaW.PrintWords Go.Proofs.YtcmcgjjhbjlkpaaW.PrintLast Go.Proofs.YtcmcgjjhbjlkpaaW.PrintMore
set_option linter.unusedVariables false
set_option linter.unusedSimpArgs false
/-- A question of the call's own: it answers b, and writes nothing that was there. -/
def Asks (w : World) (n : Nat) (f : Array Value) (b : Bool) : Prop := ∀ W, Below w.heap.size w W → Calls Try.prog n f W fun e W' => e = .returned (.bool b) ∧ Below w.heap.size w W'
set_option maxHeartbeats 1000000 in
set_option maxRecDepth 100000 in
theorem allE (w : World) (b : Nat) (f0 f1 : Array Value) (b0 b1 : Bool) (h0 : w.cell? ⟨b, 0, none⟩ = some (.func (.func 48) #[] f0)) (h1 : w.cell? ⟨b, 1, none⟩ = some (.func (.func 49) #[] f1))
    (c0 : Asks w 48 f0 b0) (c1 : b0 = true → Asks w 49 f1 b1) :
    Calls Try.prog 47 #[.slice (some ⟨b, 0, none⟩) 2 2] w fun e w' => e = .returned (.bool (b0 && b1)) ∧ Below w.heap.size w w' := by
  have HC0 := Aside0.mk c0
  have HC1 := Aside0.mk c1
  have HB0 := Aside0.mk (Below.refl w.heap.size w)
  have H0 := Aside0.mk h0
  have H1 := Aside0.mk h1
  have hlt : b < w.heap.size := World.block_lt_of_cell? w _ h0
  have HL := Aside0.mk hlt
  clear c0 c1 h0 h1 hlt
  go_enter Try.func47, Try.ntmps47
  go_wp2
  go_loopw [7] (fun v7 wr => ∃ i : Nat, i ≤ 2 ∧ v7 = .int .i64 i ∧ Aside0 (Below w.heap.size w wr) ∧ Aside0 (1 ≤ i → b0 = true) ∧ Aside0 (2 ≤ i → b1 = true)) (fun v7 _ => 2 - (intOf v7).toNat)
  case atStart => exact ⟨0, by omega, rfl, HB0, ⟨by omega⟩, ⟨by omega⟩⟩
  case round =>
    obtain ⟨i, hi, rfl, HB, HI, HJ⟩ := hrel
    have hx0 : wr.cell? ⟨b, 0, none⟩ = some (.func (.func 48) #[] f0) := (HB.out.cell HL.out).trans H0.out
    have hx1 : wr.cell? ⟨b, 1, none⟩ = some (.func (.func 49) #[] f1) := (HB.out.cell HL.out).trans H1.out
    rcases (show i = 0 ∨ i = 1 ∨ i = 2 by omega) with rfl | rfl | rfl
    · go_wp2_with fail
      refine (HC0.out _ HB.out).mono ?_
      rintro e w1 ⟨rfl, hb1⟩
      have HB1 := Aside0.mk hb1
      cases hb0 : b0
      · go_wp2
        go_ret
        exact ⟨by simp [hb0], HB1.out⟩
      · go_wp2
        go_roundw
        case rel => exact ⟨1, by omega, by go_num, HB1, ⟨fun _ => hb0⟩, ⟨by omega⟩⟩
        case measure => simp [intOf]
    · have hb0 : b0 = true := HI.out (by omega)
      go_wp2_with fail
      refine (HC1.out hb0 _ HB.out).mono ?_
      rintro e w1 ⟨rfl, hb1⟩
      have HB1 := Aside0.mk hb1
      cases hbb : b1
      · go_wp2
        go_ret
        exact ⟨by simp [hbb], HB1.out⟩
      · go_wp2
        go_roundw
        case rel => exact ⟨2, by omega, by go_num, HB1, ⟨fun _ => hb0⟩, ⟨fun _ => hbb⟩⟩
        case measure => simp [intOf]
    · have hb0 : b0 = true := HI.out (by omega)
      have hbb : b1 = true := HJ.out (by omega)
      go_wp2
      go_ret
      exact ⟨by rw [hb0, hbb]; rfl, HB.out⟩
set_option maxHeartbeats 1000000 in
set_option maxRecDepth 100000 in
theorem allT (w : World) (b : Nat) (f0 f1 : Array Value) (b0 b1 : Bool) (h0 : w.cell? ⟨b, 0, none⟩ = some (.func (.func 51) #[] f0)) (h1 : w.cell? ⟨b, 1, none⟩ = some (.func (.func 52) #[] f1))
    (c0 : Asks w 51 f0 b0) (c1 : b0 = true → Asks w 52 f1 b1) :
    Calls Try.prog 47 #[.slice (some ⟨b, 0, none⟩) 2 2] w fun e w' => e = .returned (.bool (b0 && b1)) ∧ Below w.heap.size w w' := by
  have HC0 := Aside0.mk c0
  have HC1 := Aside0.mk c1
  have HB0 := Aside0.mk (Below.refl w.heap.size w)
  have H0 := Aside0.mk h0
  have H1 := Aside0.mk h1
  have hlt : b < w.heap.size := World.block_lt_of_cell? w _ h0
  have HL := Aside0.mk hlt
  clear c0 c1 h0 h1 hlt
  go_enter Try.func47, Try.ntmps47
  go_wp2
  go_loopw [7] (fun v7 wr => ∃ i : Nat, i ≤ 2 ∧ v7 = .int .i64 i ∧ Aside0 (Below w.heap.size w wr) ∧ Aside0 (1 ≤ i → b0 = true) ∧ Aside0 (2 ≤ i → b1 = true)) (fun v7 _ => 2 - (intOf v7).toNat)
  case atStart => exact ⟨0, by omega, rfl, HB0, ⟨by omega⟩, ⟨by omega⟩⟩
  case round =>
    obtain ⟨i, hi, rfl, HB, HI, HJ⟩ := hrel
    have hx0 : wr.cell? ⟨b, 0, none⟩ = some (.func (.func 51) #[] f0) := (HB.out.cell HL.out).trans H0.out
    have hx1 : wr.cell? ⟨b, 1, none⟩ = some (.func (.func 52) #[] f1) := (HB.out.cell HL.out).trans H1.out
    rcases (show i = 0 ∨ i = 1 ∨ i = 2 by omega) with rfl | rfl | rfl
    · go_wp2_with fail
      refine (HC0.out _ HB.out).mono ?_
      rintro e w1 ⟨rfl, hb1⟩
      have HB1 := Aside0.mk hb1
      cases hb0 : b0
      · go_wp2
        go_ret
        exact ⟨by simp [hb0], HB1.out⟩
      · go_wp2
        go_roundw
        case rel => exact ⟨1, by omega, by go_num, HB1, ⟨fun _ => hb0⟩, ⟨by omega⟩⟩
        case measure => simp [intOf]
    · have hb0 : b0 = true := HI.out (by omega)
      go_wp2_with fail
      refine (HC1.out hb0 _ HB.out).mono ?_
      rintro e w1 ⟨rfl, hb1⟩
      have HB1 := Aside0.mk hb1
      cases hbb : b1
      · go_wp2
        go_ret
        exact ⟨by simp [hbb], HB1.out⟩
      · go_wp2
        go_roundw
        case rel => exact ⟨2, by omega, by go_num, HB1, ⟨fun _ => hb0⟩, ⟨fun _ => hbb⟩⟩
        case measure => simp [intOf]
    · have hb0 : b0 = true := HI.out (by omega)
      have hbb : b1 = true := HJ.out (by omega)
      go_wp2
      go_ret
      exact ⟨by rw [hb0, hbb]; rfl, HB.out⟩
end Go.Proofs.Ytcmcgjjhbjlkpaa.Air
