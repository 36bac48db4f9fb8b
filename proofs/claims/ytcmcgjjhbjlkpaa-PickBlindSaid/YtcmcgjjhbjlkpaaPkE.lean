import Derived.RangeFuncNested
import Derived.RangeFuncBound
import Derived.RangeFuncCalls
import Derived.RangeFuncLeaves
import Derived.Shelf.Abstract
import Derived.Shelf.RegionOpen
import Derived.OwnWalkIn
import Derived.TacticsInMore
import Derived.LoopNIn
import Derived.LoopIn
import Derived.Test.YtcmcgjjhbjlkpaaPkD
namespace Go.Proofs.Ytcmcgjjhbjlkpaa.Pk
open Go.RowKit Go.Shelf Go.Proofs.YtcmcgjjhbjlkpaaW.PrintWords Go.Proofs.YtcmcgjjhbjlkpaaW.PrintLast Go.Proofs.YtcmcgjjhbjlkpaaW.PrintMore Go.Proofs.Ytcmcgjjhbjlkpaa.PPickPlays Go.Proofs.Ytcmcgjjhbjlkpaa.Air
set_option linter.unusedVariables false
set_option linter.unusedSimpArgs false
attribute [local go_sem] Oper.semAt_some
/-! ### The modes that are wanted -/
def inR (x : Int) : Bool := decide (1 ≤ x) && decide (x ≤ 28)
def fi (x : Int) : Fin 29 := ⟨x.toNat % 29, Nat.mod_lt _ (by decide)⟩
def ysOf (xs : List Int) : List (Fin 29) := (xs.filter inR).map fi
theorem fi_val {x : Int} (h1 : 1 ≤ x) (h2 : x ≤ 28) : ((fi x).val : Int) = x := by
  show ((x.toNat % 29 : Nat) : Int) = x
  omega
theorem inR_take {xs : List Int} {k : Nat} (h : k < xs.length) : ysOf (xs.take (k + 1)) = ysOf (xs.take k) ++ if inR (xs.getD k 0) then [fi (xs.getD k 0)] else [] := by
  unfold ysOf
  rw [List.take_succ_eq_append_getElem h, List.filter_append, List.map_append]
  congr 1
  simp only [List.getD_eq_getElem?_getD, h, List.filter_cons, List.filter_nil, List.getElem?_eq_getElem, Option.getD_some]
  split <;> rfl
theorem at_int {w : World} {A : Option Addr} {n : Nat} {xs : List Int} (h : Kd.C (Kd.int .i64) w A n xs) (i : Nat) (h1 : i < n) : ∃ ad, A = some ad ∧ w.cell? (ad.add i) = some (.int .i64 (xs.getD i 0)) := by
  obtain ⟨ad, c, e, _, hK, hc0⟩ := Kd.C_get h 0 (i : Int) (by omega) (by omega)
  have hc : ∀ j u, c[j]? = some u → w.cell? (ad.add (i * 1 + j)) = some u := hc0
  obtain rfl : c = [.int .i64 (xs.getD i 0)] := hK
  exact ⟨ad, e, by have := hc 0 _ rfl; rwa [Nat.mul_one, Nat.add_zero] at this⟩
/-- What the body of the range keeps: what lies below, and the box. -/
def KpM (base pb : Nat) (A B : World) : Prop := ∀ k, k < base ∨ k = pb → B.heap[k]? = A.heap[k]?
set_option maxRecDepth 100000 in
set_option maxHeartbeats 2000000 in
theorem modes1_in (F : Fence) (n : Nat) (h6 : F.fn 81) (hro : F.round = none) (hn : 1 ≤ n) (l base pb : Nat) (A : Option Addr) (c : Nat) (xs : List Int) (hlen : xs.length ≤ 9223372036854775806) (J Jx : List (Fin 29) → World → Prop)
    (hY : ∀ pre (x : Fin 29) W, J pre W → pre.length < xs.length → YieldAt F (n - 1) Try.prog l #[.int .i64 (x.val : Int)] W fun e W' =>
      (e = .returned (.bool true) ∧ J (pre ++ [x]) W' ∧ KpM base pb W W') ∨ (e = .returned (.bool false) ∧ Jx (pre ++ [x]) W'))
    (W : World) (hb : W.heap[pb]? = some (.cells #[.slice A xs.length c] 27 (0, 0))) (hr : Kd.C (Kd.int .i64) W A xs.length xs) (hA : ∀ ad, A = some ad → ad.block < base) (h0 : J [] W) :
    CallsIn F n Try.prog 81 #[.func (.yield l) #[] #[], .pointer (some ⟨pb, 0, none⟩)] W fun e W' => (∃ v, e = .returned v) ∧ ((∃ ys, ys = ysOf xs ∧ J ys W') ∨ (∃ pre, True ∧ Jx pre W')) := by
  have HR := Aside0.mk hr
  have hcell : W.cell? ⟨pb, 0, none⟩ = some (.slice A xs.length c) := by rw [cell_of_row W pb _ _ 27 (0, 0) hb]; rfl
  obtain ⟨m, hm⟩ : ∃ m, m = xs.length := ⟨_, rfl⟩
  have HM := Aside0.mk hm
  rw [← hm] at hlen hcell
  clear hr hm hb
  refine callsIn_of_wp Try.func81 rfl h6 ?_ hro
  simp only [Try.ntmps81, List.size_toArray, List.length_cons, List.length_nil, Nat.reduceAdd, Nat.reduceSub, Array.replicate_succ, Array.replicate_zero, List.push_toArray, List.append_toArray, List.nil_append, List.cons_append]
  gi_wp2
  gi_loopw [7] (fun i wr => ∃ k : Nat, k ≤ m ∧ i = .int .i64 k ∧ Aside0 (J (ysOf (xs.take k)) wr) ∧ Aside0 (KpM base pb W wr)) (fun i _ => m - (intOf i).toNat)
  case atStart => exact ⟨0, by omega, rfl, ⟨h0⟩, ⟨fun _ _ => rfl⟩⟩
  case round =>
    obtain ⟨k, hk, rfl, HJ, HX⟩ := hrel
    by_cases hlt : k < m
    · obtain ⟨ad, rfl, hx⟩ := at_int HR.out k (by rw [← HM.out]; exact hlt)
      have hbl := hA ad rfl
      have HT := Aside0.mk (inR_take (xs := xs) (k := k) (by rw [← HM.out]; exact hlt))
      obtain ⟨x, ex⟩ : ∃ x, x = xs.getD k 0 := ⟨_, rfl⟩
      rw [← ex] at hx HT
      clear ex
      replace hx := (World.cell?_of_block (w := W) (HX.out (ad.add k).block (.inl (by rw [show (ad.add k).block = ad.block by unfold Addr.add; split <;> rfl]; exact hbl)))).trans hx
      have HPL := Aside0.mk (show (ysOf (xs.take k)).length < xs.length by have := List.length_filter_le inR (xs.take k); have := HM.out; simp [ysOf] at *; omega)
      by_cases hx1 : 1 ≤ x
      · by_cases hx2 : x ≤ 28
        · have HI := Aside0.mk (show inR x = true by simp [inR, hx1, hx2])
          obtain ⟨fn, tmps, assign, body, hy, hR⟩ := hY _ (fi x) wr HJ.out HPL.out
          rw [fi_val hx1 hx2] at hy
          gi_wp2
          refine hR.mono ?_
          rintro e W3 (⟨rfl, hJ3, hk3⟩ | ⟨rfl, hJx3⟩)
          · have HJ3 := Aside0.mk hJ3
            have HX3 := Aside0.mk (show KpM base pb W W3 from fun j hj => (hk3 j hj).trans (HX.out j hj))
            clear hJ3 hk3
            gi_wp2
            go_roundw
            case rel => exact ⟨k + 1, by omega, by go_num, ⟨by rw [HT.out, HI.out]; exact HJ3.out⟩, HX3⟩
            case measure => simp [intOf]; omega
          · have HJx := Aside0.mk hJx3
            clear hJx3
            gi_wp2
            refine bodyPost_ret (results_none rfl _ _ _) rfl ?_
            exact ⟨⟨_, rfl⟩, .inr ⟨_, trivial, HJx.out⟩⟩
        · have HI := Aside0.mk (show inR x = false by simp [inR]; omega)
          gi_wp2_with fail
          refine ⟨fun _ h => (by cases h), ?_⟩
          gi_wp2
          go_roundw
          case rel => exact ⟨k + 1, by omega, by go_num, ⟨by rw [HT.out, HI.out]; simpa using HJ.out⟩, HX⟩
          case measure => simp [intOf]; omega
      · have HI := Aside0.mk (show inR x = false by simp [inR]; omega)
        gi_wp2_with fail
        refine ⟨fun _ h => (by cases h), ?_⟩
        gi_wp2
        go_roundw
        case rel => exact ⟨k + 1, by omega, by go_num, ⟨by rw [HT.out, HI.out]; simpa using HJ.out⟩, HX⟩
        case measure => simp [intOf]; omega
    · obtain rfl : k = m := by omega
      gi_wp2
      go_end0
      refine ⟨⟨_, rfl⟩, .inl ⟨_, rfl, ?_⟩⟩
      have := HJ.out
      rwa [HM.out, List.take_length] at this
theorem modes_stops (F : Fence) (n : Nat) (h6 : F.fn 81) (hro : F.round = none) (hn : 1 ≤ n) (base pb : Nat) (A : Option Addr) (c : Nat) (xs : List Int) (hlen : xs.length ≤ 9223372036854775806) (w : World)
    (hb : w.heap[pb]? = some (.cells #[.slice A xs.length c] 27 (0, 0))) (hr : Kd.C (Kd.int .i64) w A xs.length xs) (hA : ∀ ad, A = some ad → ad.block < base) :
    SeqStopsK F n Try.prog 81 #[.pointer (some ⟨pb, 0, none⟩)] (fun x : Fin 29 => #[Value.int .i64 (x.val : Int)]) (KpM base pb) (fun ys => ys = ysOf xs) (fun _ => True) xs.length w := fun l J Jx W hW _ _ hY h0 =>
  modes1_in F n h6 hro hn l base pb A c xs hlen J Jx hY W ((hW.block pb (Array.getElem?_eq_some_iff.1 hb).1).trans hb) (cells_below hr hW) hA h0
theorem modes_in (F : Fence) (n : Nat) (h5 : F.fn 76) (hro : F.round = none) (w : World) (A : Option Addr) (m c : Nat) :
    CallsIn F n Try.prog 76 #[.slice A m c] w fun e w' => e = .returned (.func (.func 81) #[] #[.pointer (some ⟨w.heap.size, 0, none⟩)]) ∧ w' = w.alloc (.cells #[.slice A m c] 27) := by
  refine callsIn_of_wp Try.func76 rfl h5 ?_ hro
  simp only [Try.ntmps76, List.size_toArray, List.length_cons, List.length_nil, Nat.reduceAdd, Nat.reduceSub, Array.replicate_succ, Array.replicate_zero, List.push_toArray, List.append_toArray, List.nil_append, List.cons_append]
  gi_wp2
  go_ret
  exact ⟨rfl, rfl⟩
end Go.Proofs.Ytcmcgjjhbjlkpaa.Pk
