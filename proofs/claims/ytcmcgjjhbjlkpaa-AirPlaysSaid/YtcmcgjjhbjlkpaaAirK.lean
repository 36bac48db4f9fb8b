import Derived.RangeFuncNested
import Derived.RangeFuncBound
import Derived.RangeFuncCalls
import Derived.RangeFuncLeaves
import Derived.Shelf.Abstract
import Derived.Shelf.RegionOpen
import Derived.OwnWalkIn
import Derived.TacticsInMore
import Derived.LoopNIn
import Derived.LoopIn
import Derived.Test.YtcmcgjjhbjlkpaaAirJ
namespace Go.Proofs.Ytcmcgjjhbjlkpaa.Air
open Go.RowKit Go.Shelf Go.Proofs.YtcmcgjjhbjlkpaaW.PrintWords Go.Proofs.YtcmcgjjhbjlkpaaW.PrintLast Go.Proofs.YtcmcgjjhbjlkpaaW.PrintMore
set_option linter.unusedVariables false
set_option linter.unusedSimpArgs false
attribute [local go_sem] Oper.semAt_some
/-! ### A turn's bits -/
def bitOn (m k : Nat) : Bool := decide (bits .and .i64 ((m : Int) / 2 ^ k) 1 = 1)
def fo (a k : Nat) : Fin 80 := ⟨(a + k) % 80, Nat.mod_lt _ (by decide)⟩
def upB (a m k : Nat) : List (Fin 80) := ((List.range k).filter (bitOn m)).map (fo a)
theorem upB_on {a m k : Nat} (h : bitOn m k = true) : upB a m (k + 1) = upB a m k ++ [fo a k] := by simp [upB, List.range_succ, List.filter_append, h]
theorem upB_off {a m k : Nat} (h : bitOn m k = false) : upB a m (k + 1) = upB a m k := by simp [upB, List.range_succ, List.filter_append, h]
theorem upB_length (a m k : Nat) : (upB a m k).length ≤ k := by
  have := List.length_filter_le (bitOn m) (List.range k)
  simp [upB] at this ⊢
  exact this
theorem fo_val {a k : Nat} (ha : a ≤ 72) (hk : k < 8) : ((fo a k).val : Int) = (a : Int) + (k : Int) := by
  show (((a + k) % 80 : Nat) : Int) = _
  rw [Nat.mod_eq_of_lt (by omega)]
  simp
set_option maxRecDepth 100000 in
set_option maxHeartbeats 2000000 in
theorem bits1_in (F : Fence) (n : Nat) (h6 : F.fn 75) (hro : F.round = none) (hn : 1 ≤ n) (l bx a m : Nat) (ha : a ≤ 72) (J Jx : List (Fin 80) → World → Prop)
    (hY : ∀ pre (x : Fin 80) W, J pre W → pre.length < 8 → YieldAt F (n - 1) Try.prog l #[.int .i64 (x.val : Int)] W fun e W' =>
      (e = .returned (.bool true) ∧ J (pre ++ [x]) W' ∧ W'.heap[bx]? = W.heap[bx]?) ∨ (e = .returned (.bool false) ∧ Jx (pre ++ [x]) W'))
    (W : World) (hb : W.heap[bx]? = some (.cells #[.int .i64 (a : Int), .int .i64 (m : Int)] 99 (0, 0))) (h0 : J [] W) :
    CallsIn F n Try.prog 75 #[.func (.yield l) #[] #[], .pointer (some ⟨bx, 0, none⟩)] W fun e W' => (∃ v, e = .returned v) ∧ ((∃ ys, ys = upB a m 8 ∧ J ys W') ∨ (∃ pre, True ∧ Jx pre W')) := by
  refine callsIn_of_wp Try.func75 rfl h6 ?_ hro
  simp only [Try.ntmps75, List.size_toArray, List.length_cons, List.length_nil, Nat.reduceAdd, Nat.reduceSub, Array.replicate_succ, Array.replicate_zero, List.push_toArray, List.append_toArray, List.nil_append, List.cons_append]
  gi_wp2
  gi_loopw [4] (fun i wr => ∃ k : Nat, k ≤ 8 ∧ i = .int .i64 k ∧ Aside0 (J (upB a m k) wr) ∧ Aside0 (wr.heap[bx]? = some (.cells #[.int .i64 (a : Int), .int .i64 (m : Int)] 99 (0, 0)))) (fun i _ => 8 - (intOf i).toNat)
  case atStart => exact ⟨0, by omega, rfl, ⟨h0⟩, ⟨hb⟩⟩
  case round =>
    obtain ⟨k, hk, rfl, HJ, HX⟩ := hrel
    by_cases hlt : k < 8
    · have hc0 : wr.cell? ⟨bx, 0, none⟩ = some (.int .i64 (a : Int)) := by rw [cell_of_row wr bx _ _ 99 (0, 0) HX.out]; rfl
      have hc1 : wr.cell? ⟨bx, 1, none⟩ = some (.int .i64 (m : Int)) := by rw [cell_of_row wr bx _ _ 99 (0, 0) HX.out]; rfl
      by_cases hbit : bits BinOp.and IntKind.i64 ((m : Int) / 2 ^ k) 1 = 1
      · have HU := Aside0.mk (upB_on (a := a) (m := m) (k := k) (decide_eq_true hbit))
        obtain ⟨fn, tmps, assign, body, hy, hR⟩ := hY _ (fo a k) wr HJ.out (Nat.lt_of_le_of_lt (upB_length a m k) hlt)
        rw [fo_val ha hlt] at hy
        gi_wp2
        refine hR.mono ?_
        rintro e W3 (⟨rfl, hJ3, hk3⟩ | ⟨rfl, hJx3⟩)
        · have HJ3 := Aside0.mk hJ3
          have HX3 := Aside0.mk (hk3.trans HX.out)
          clear hJ3 hk3
          gi_wp2
          go_roundw
          case rel => exact ⟨k + 1, by omega, by go_num, ⟨by rw [HU.out]; exact HJ3.out⟩, HX3⟩
          case measure => simp [intOf]; omega
        · have HJx := Aside0.mk hJx3
          clear hJx3
          gi_wp2
          refine bodyPost_ret (results_none rfl _ _ _) rfl ?_
          exact ⟨⟨_, rfl⟩, .inr ⟨_, trivial, HJx.out⟩⟩
      · have HU := Aside0.mk (upB_off (a := a) (m := m) (k := k) (decide_eq_false hbit))
        have hbit2 : (bits BinOp.and IntKind.i64 ((m : Int) / 2 ^ k) 1 == 1) = false := beq_eq_false_iff_ne.mpr hbit
        gi_wp2_with fail
        refine ⟨fun _ h => (by cases h), ?_⟩
        gi_wp2
        go_roundw
        case rel => exact ⟨k + 1, by omega, by go_num, ⟨by rw [HU.out]; exact HJ.out⟩, HX⟩
        case measure => simp [intOf]; omega
    · obtain rfl : k = 8 := by omega
      gi_wp2
      go_end0
      exact ⟨⟨_, rfl⟩, .inl ⟨_, rfl, HJ.out⟩⟩
theorem bits_stops (F : Fence) (n : Nat) (h6 : F.fn 75) (hro : F.round = none) (hn : 1 ≤ n) (bx a m : Nat) (ha : a ≤ 72) (w : World) (hb : w.heap[bx]? = some (.cells #[.int .i64 (a : Int), .int .i64 (m : Int)] 99 (0, 0))) :
    SeqStopsK F n Try.prog 75 #[.pointer (some ⟨bx, 0, none⟩)] (fun x : Fin 80 => #[Value.int .i64 (x.val : Int)]) (fun A B => B.heap[bx]? = A.heap[bx]?) (fun ys => ys = upB a m 8) (fun _ => True) 8 w := fun l J Jx W hW _ _ hY h0 =>
  bits1_in F n h6 hro hn l bx a m ha J Jx hY W ((hW.block bx (Array.getElem?_eq_some_iff.1 hb).1).trans hb) h0
theorem bits_in (F : Fence) (n : Nat) (h5 : F.fn 56) (hro : F.round = none) (v : Value) (w : World) (a m : Int) :
    CallsIn F n Try.prog 56 #[.agg #[.int .i64 a, .int .i64 m]] w fun e w' => e = .returned (.func (.func 75) #[] #[.pointer (some ⟨w.heap.size, 0, none⟩)]) ∧ w' = w.alloc (.cells #[.int .i64 a, .int .i64 m] 99) := by
  refine callsIn_of_wp Try.func56 rfl h5 ?_ hro
  simp only [Try.ntmps56, List.size_toArray, List.length_cons, List.length_nil, Nat.reduceAdd, Nat.reduceSub, Array.replicate_succ, Array.replicate_zero, List.push_toArray, List.append_toArray, List.nil_append, List.cons_append]
  gi_wp2
  go_ret
  exact ⟨rfl, rfl⟩
end Go.Proofs.Ytcmcgjjhbjlkpaa.Air
