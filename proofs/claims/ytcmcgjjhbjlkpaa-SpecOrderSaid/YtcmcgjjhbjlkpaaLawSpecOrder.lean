/- The law SpecOrder answers true for every list of what was given and every list of what was accepted; both read behind the call as they read before. No condition. -/
import Derived.Test.YtcmcgjjhbjlkpaaRows
import Derived.Test.YtcmcgjjhbjlkpaaSpx6
import Derived.Test.YtcmcgjjhbjlkpaaSpPure
import Derived.Test.YtcmcgjjhbjlkpaaOpen
import Derived.WalkKit
import Derived.ProofKit
import Derived.OpenShut
import Derived.ShutString
import Derived.ChangeOld
import Derived.Below
import Derived.SizedLaws
namespace Go.Proofs.Ytcmcgjjhbjlkpaa.specOrder
open Go.ChangeShapes Go.WideShapes Go.ChangeAt Go.RowKit
open Go.ChangeMaps (open_string shut_string)
open Go.Proofs.YtcmcgjjhbjlkpaaW.PrintWords Go.Proofs.Ytcmcgjjhbjlkpaa.Sp
set_option linter.unusedVariables false
set_option linter.unusedSimpArgs false
theorem own : ownKnob Try.prog.godebug = none := by kernel_rfl
theorem laidOut : laidOutB Try.prog = true := by kernel_rfl
theorem cells3 : Try.prog.cellsOf 3 = 1 := by kernel_rfl
theorem cells9 : Try.prog.cellsOf 9 = 1 := by kernel_rfl
theorem cells36 : Try.prog.cellsOf 36 = 1 := by kernel_rfl
def Wf35 (x : S35) : Prop := (Lit.int .i64 x.f0).wf = true ∧ (Lit.int .i64 x.f1).wf = true
set_option maxRecDepth 100000 in
theorem elem35 {H : Type} {enc : TypeId × Value → H} {w : World} {base : Nat} {spare : Nat → Bool} {held : Bool} (n : Nat) (cs : List Value) (y : DataW H × List MemPlace) (h : DataW.trod enc Try.prog w base spare held n 35 cs = some y) (hl : cs.length = 3) : ∃ x : S35, Kd.K k35 w x cs ∧ Wf35 x := by
  obtain ⟨xs, m, _, _, _, hlen, hf⟩ := DataW.trod_struct Try.underlying35 h
  match cs, hl, xs, hlen with
  | [c0, c1, c2], _, [x0, x1, x2], _ =>
    have f0 := hf 0 _ rfl
    simp [cells3] at f0
    obtain ⟨a0, e0, _, w0⟩ := DataW.trod_int Try.underlying3 f0
    simp only [List.cons.injEq, and_true] at e0
    subst e0
    have f1 := hf 1 _ rfl
    simp [cells3] at f1
    obtain ⟨a1, e1, _, w1⟩ := DataW.trod_int Try.underlying3 f1
    simp only [List.cons.injEq, and_true] at e1
    subst e1
    have f2 := hf 2 _ rfl
    simp [cells9] at f2
    obtain ⟨a2, e2, _, _⟩ := DataW.trod_string Try.underlying9 f2
    simp only [List.cons.injEq, and_true] at e2
    subst e2
    exact ⟨⟨a0, a1, a2⟩, k35_mk _ _, ⟨w0, w1⟩⟩
def Wf38 (x : S38) : Prop := (Lit.int .u64 x.f0).wf = true ∧ (Lit.int .i64 x.f1).wf = true ∧ (Lit.int .i64 x.f2).wf = true ∧ (Lit.int .u64 x.f4).wf = true
set_option maxRecDepth 100000 in
theorem elem38 {H : Type} {enc : TypeId × Value → H} {w : World} {base : Nat} {spare : Nat → Bool} {held : Bool} (n : Nat) (cs : List Value) (y : DataW H × List MemPlace) (h : DataW.trod enc Try.prog w base spare held n 38 cs = some y) (hl : cs.length = 5) : ∃ x : S38, Kd.K k38 w x cs ∧ Wf38 x := by
  obtain ⟨xs, m, _, _, _, hlen, hf⟩ := DataW.trod_struct Try.underlying38 h
  match cs, hl, xs, hlen with
  | [c0, c1, c2, c3, c4], _, [x0, x1, x2, x3, x4], _ =>
    have f0 := hf 0 _ rfl
    simp [cells36] at f0
    obtain ⟨a0, e0, _, w0⟩ := DataW.trod_int Try.underlying36 f0
    simp only [List.cons.injEq, and_true] at e0
    subst e0
    have f1 := hf 1 _ rfl
    simp [cells3] at f1
    obtain ⟨a1, e1, _, w1⟩ := DataW.trod_int Try.underlying3 f1
    simp only [List.cons.injEq, and_true] at e1
    subst e1
    have f2 := hf 2 _ rfl
    simp [cells3] at f2
    obtain ⟨a2, e2, _, w2⟩ := DataW.trod_int Try.underlying3 f2
    simp only [List.cons.injEq, and_true] at e2
    subst e2
    have f3 := hf 3 _ rfl
    simp [cells9] at f3
    obtain ⟨a3, e3, _, _⟩ := DataW.trod_string Try.underlying9 f3
    simp only [List.cons.injEq, and_true] at e3
    subst e3
    have f4 := hf 4 _ rfl
    simp [cells36] at f4
    obtain ⟨a4, e4, _, w4⟩ := DataW.trod_int Try.underlying36 f4
    simp only [List.cons.injEq, and_true] at e4
    subst e4
    exact ⟨⟨a0, a1, a2, a3, a4⟩, k38_mk _ _, ⟨w0, w1, w2, w4⟩⟩
set_option maxRecDepth 100000 in
theorem lifted (os : Os) (started : os.Started) (H : Type) (enc : TypeId × Value → H) :
    ReturnsInHanded {} Try.checked os 3 .any (Rows.specOrderSpec.pre6 enc Try.prog Try.f3 Rows.specOrderRow.domain false) (Rows.specOrderSpec.post enc Try.prog Try.f3 false true false false) := by
  refine returnsInHanded_of_change_sized (C := Try.checked) own started (by kernel_rfl) Try.func3
    (ChangeSpec.witness6 (enc := enc) (C := Try.checked) false ⟨#[], #[.slice none 0 0, .slice none 0 0], []⟩ 8 (by kernel_rfl) (by kernel_rfl) (by kernel_rfl) (by kernel_rfl)) ?_
  intro W base args ds gs before hval0 hW hcnd hsz0 _
  have hsz : (DataW.weightsEach Try.prog (Try.f3.params.toList ++ Rows.specOrderSpec.plain.varTypes Try.prog) (ds ++ gs)).all (· ≤ reachBytes) = true := hsz0
  have hval : ∀ (j : Nat) t v, Try.f3.params[j]? = some t → args[j]? = some v → Value.okWide Try.prog W .any base t v := hval0
  have hW' := hW
  obtain ⟨p, q, hA0, hV, rfl, hfz, hnd⟩ := hW
  have hA : DataW.TrodAll enc Try.prog W 0 (fun _ => true) true Try.f3.params.toList args.toList ds p := hA0
  rw [Try.params3] at hA hval hsz
  obtain ⟨v0, vs0, d0, ds0, p0, q0, hargs, rfl, rfl, h0, r0⟩ := trodAll_cons hA
  obtain ⟨v1, vs1, d1, ds1, p1, q1, rfl, rfl, rfl, h1, r1⟩ := trodAll_cons r0
  obtain ⟨rfl, rfl, rfl⟩ := trodAll_nil r1
  obtain rfl : args = #[v0, v1] := by cases args; simp_all
  obtain ⟨rfl, rfl⟩ := trodVars_none hV
  obtain ⟨A0, len0, cap0, rfl⟩ := okWide_slice Try.underlying22 (hval 0 22 v0 rfl rfl)
  have t0 := h0
  have lt0 : ∀ x ∈ p0, x.block < W.heap.size := by obtain ⟨m, hm⟩ := t0; exact DataW.trod_lt m _ _ _ hm
  obtain ⟨fuel0, hf0⟩ := h0
  obtain ⟨xs0, n0, le0, mx0, C0, wf0⟩ := Op.open_rows k35 Wf35 Try.underlying22 (by kernel_rfl) (fun n cs y h hl => elem35 n cs y h hl) hf0
  obtain ⟨A1, len1, cap1, rfl⟩ := okWide_slice Try.underlying23 (hval 1 23 v1 rfl rfl)
  have t1 := h1
  have lt1 : ∀ x ∈ p1, x.block < W.heap.size := by obtain ⟨m, hm⟩ := t1; exact DataW.trod_lt m _ _ _ hm
  obtain ⟨fuel1, hf1⟩ := h1
  obtain ⟨xs1, n1, le1, mx1, C1, wf1⟩ := Op.open_rows k38 Wf38 Try.underlying23 (by kernel_rfl) (fun n cs y h hl => elem38 n cs y h hl) hf1
  clear hA0 hval0 hsz0 hsz
  obtain rfl := n0
  obtain rfl := n1
  obtain ⟨k, hk⟩ := order_law xs0 xs1
  refine (aeriallaw30_SpecOrder.calls k A0 cap0 xs0 A1 cap1 xs1 true W C0 le0 C1 le1 hk).mono fun e W' ⟨he, bel⟩ => ?_
  subst he
  exact ⟨_, rfl, _, _, _, [], _, [], hW', trodAll_mk1 (shut_bool Try.underlying4 _), (trodAll_cons_mk (Below.trod laidOut (by kernel_rfl) (of_decide_eq_true (by kernel_rfl)) t0 bel lt0) (trodAll_cons_mk (Below.trod laidOut (by kernel_rfl) (of_decide_eq_true (by kernel_rfl)) t1 bel lt1) trodAll_mk0)), rfl, bel.frame _, fun h => by cases h⟩
theorem over : Rows.specOrderRow.holds Try.pinned (OpenSpec.ofChange Rows.specOrderSpec) :=
  OpenClaim.holds_of_wide 3 Try.f3 rfl rfl rfl rfl rfl rfl rfl ⟨rfl, rfl, rfl, rfl, rfl⟩ rfl rfl rfl rfl rfl (by kernel_rfl) Try.func3 (by kernel_rfl)
    (of_decide_eq_true (by kernel_rfl)) (by unfold Func.isWrapper; first | (rw [if_pos (by decide +kernel)]; kernel_rfl) | (rw [if_neg (by decide +kernel)]; exact ⟨rfl, rfl⟩))
    (fun os started H enc _ => lifted os started H enc)
theorem proved : Rows.SpecOrderSaid := over
#print axioms proved
end Go.Proofs.Ytcmcgjjhbjlkpaa.specOrder
namespace Go.Proofs.Ytcmcgjjhbjlkpaa
/-- The row, under a short name, for the claim. -/
theorem specOrder_holds : Rows.SpecOrderSaid := specOrder.proved
end Go.Proofs.Ytcmcgjjhbjlkpaa
