/- The law SpecWithin answers true for every list of packets that were accepted, whichever of them are given, and wherever the beginnings end; the list reads behind the call as it read before. No condition. -/
import Derived.Test.YtcmcgjjhbjlkpaaRows
import Derived.Test.YtcmcgjjhbjlkpaaSpWithin
import Derived.Test.YtcmcgjjhbjlkpaaSpPureWithin
import Derived.Test.YtcmcgjjhbjlkpaaOpen
import Derived.WalkKit
import Derived.ProofKit
import Derived.OpenShut
import Derived.ShutString
import Derived.ChangeOld
import Derived.Below
import Derived.SizedLaws
namespace Go.Proofs.Ytcmcgjjhbjlkpaa.specWithin
open Go.ChangeShapes Go.WideShapes Go.ChangeAt Go.RowKit
open Go.ChangeMaps (open_string shut_string)
open Go.Proofs.YtcmcgjjhbjlkpaaW.PrintWords Go.Proofs.Ytcmcgjjhbjlkpaa.Sp
set_option linter.unusedVariables false
set_option linter.unusedSimpArgs false
theorem own : ownKnob Try.prog.godebug = none := by kernel_rfl
theorem laidOut : laidOutB Try.prog = true := by kernel_rfl
theorem cells4 : Try.prog.cellsOf 4 = 1 := by kernel_rfl
theorem cells5 : Try.prog.cellsOf 5 = 1 := by kernel_rfl
def Wf32 (x : S32) : Prop := (Lit.int .u8 x.f0).wf = true ∧ (Lit.int .u8 x.f1).wf = true ∧ (Lit.int .u8 x.f2).wf = true
set_option maxRecDepth 100000 in
theorem elem32 {H : Type} {enc : TypeId × Value → H} {w : World} {base : Nat} {spare : Nat → Bool} {held : Bool} (n : Nat) (cs : List Value) (y : DataW H × List MemPlace) (h : DataW.trod enc Try.prog w base spare held n 32 cs = some y) (hl : cs.length = 4) : ∃ x : S32, Kd.K k32 w x cs ∧ Wf32 x := by
  obtain ⟨xs, m, _, _, _, hlen, hf⟩ := DataW.trod_struct Try.underlying32 h
  match cs, hl, xs, hlen with
  | [c0, c1, c2, c3], _, [x0, x1, x2, x3], _ =>
    have f0 := hf 0 _ rfl
    simp [cells5] at f0
    obtain ⟨a0, e0, _, w0⟩ := DataW.trod_int Try.underlying5 f0
    simp only [List.cons.injEq, and_true] at e0
    subst e0
    have f1 := hf 1 _ rfl
    simp [cells5] at f1
    obtain ⟨a1, e1, _, w1⟩ := DataW.trod_int Try.underlying5 f1
    simp only [List.cons.injEq, and_true] at e1
    subst e1
    have f2 := hf 2 _ rfl
    simp [cells5] at f2
    obtain ⟨a2, e2, _, w2⟩ := DataW.trod_int Try.underlying5 f2
    simp only [List.cons.injEq, and_true] at e2
    subst e2
    have f3 := hf 3 _ rfl
    simp [cells4] at f3
    obtain ⟨a3, e3, _⟩ := DataW.trod_bool Try.underlying4 f3
    simp only [List.cons.injEq, and_true] at e3
    subst e3
    exact ⟨⟨a0, a1, a2, a3⟩, k32_mk _ _, ⟨w0, w1, w2⟩⟩
set_option maxRecDepth 100000 in
theorem lifted (os : Os) (started : os.Started) (H : Type) (enc : TypeId × Value → H) :
    ReturnsInHanded {} Try.checked os 5 .any (Rows.specWithinSpec.pre6 enc Try.prog Try.f5 Rows.specWithinRow.domain false) (Rows.specWithinSpec.post enc Try.prog Try.f5 false true false false) := by
  refine returnsInHanded_of_change_sized (C := Try.checked) own started (by kernel_rfl) Try.func5
    (ChangeSpec.witness6 (enc := enc) (C := Try.checked) false ⟨#[], #[.slice none 0 0, .int .u8 0], []⟩ 8 (by kernel_rfl) (by kernel_rfl) (by kernel_rfl) (by kernel_rfl)) ?_
  intro W base args ds gs before hval0 hW hcnd hsz0 _
  have hsz : (DataW.weightsEach Try.prog (Try.f5.params.toList ++ Rows.specWithinSpec.plain.varTypes Try.prog) (ds ++ gs)).all (· ≤ reachBytes) = true := hsz0
  have hval : ∀ (j : Nat) t v, Try.f5.params[j]? = some t → args[j]? = some v → Value.okWide Try.prog W .any base t v := hval0
  have hW' := hW
  obtain ⟨p, q, hA0, hV, rfl, hfz, hnd⟩ := hW
  have hA : DataW.TrodAll enc Try.prog W 0 (fun _ => true) true Try.f5.params.toList args.toList ds p := hA0
  rw [Try.params5] at hA hval hsz
  obtain ⟨v0, vs0, d0, ds0, p0, q0, hargs, rfl, rfl, h0, r0⟩ := trodAll_cons hA
  obtain ⟨v1, vs1, d1, ds1, p1, q1, rfl, rfl, rfl, h1, r1⟩ := trodAll_cons r0
  obtain ⟨rfl, rfl, rfl⟩ := trodAll_nil r1
  obtain rfl : args = #[v0, v1] := by cases args; simp_all
  obtain ⟨rfl, rfl⟩ := trodVars_none hV
  obtain ⟨A0, len0, cap0, rfl⟩ := okWide_slice Try.underlying30 (hval 0 30 v0 rfl rfl)
  have t0 := h0
  have lt0 : ∀ x ∈ p0, x.block < W.heap.size := by obtain ⟨m, hm⟩ := t0; exact DataW.trod_lt m _ _ _ hm
  obtain ⟨fuel0, hf0⟩ := h0
  obtain ⟨xs0, n0, le0, mx0, C0, wf0⟩ := Op.open_rows k32 Wf32 Try.underlying30 (by kernel_rfl) (fun n cs y h hl => elem32 n cs y h hl) hf0
  obtain ⟨a1, rfl, rfl, rfl, wf1⟩ := open_int Try.underlying5 (hval 1 5 v1 rfl rfl) h1
  clear hA0 hval0 hsz0 hsz
  obtain rfl := n0
  obtain ⟨k, hk⟩ := within_law xs0 a1
  refine (aeriallaw30_SpecWithin.calls k A0 cap0 xs0 a1 true W C0 le0 hk).mono fun e W' ⟨he, bel⟩ => ?_
  subst he
  exact ⟨_, rfl, _, _, _, [], _, [], hW', trodAll_mk1 (shut_bool Try.underlying4 _), (trodAll_cons_mk (Below.trod laidOut (by kernel_rfl) (of_decide_eq_true (by kernel_rfl)) t0 bel lt0) (trodAll_cons_mk (shut_int Try.underlying5 wf1) trodAll_mk0)), rfl, bel.frame _, fun h => by cases h⟩
theorem over : Rows.specWithinRow.holds Try.pinned (OpenSpec.ofChange Rows.specWithinSpec) :=
  OpenClaim.holds_of_wide 5 Try.f5 rfl rfl rfl rfl rfl rfl rfl ⟨rfl, rfl, rfl, rfl, rfl⟩ rfl rfl rfl rfl rfl (by kernel_rfl) Try.func5 (by kernel_rfl)
    (of_decide_eq_true (by kernel_rfl)) (by unfold Func.isWrapper; first | (rw [if_pos (by decide +kernel)]; kernel_rfl) | (rw [if_neg (by decide +kernel)]; exact ⟨rfl, rfl⟩))
    (fun os started H enc _ => lifted os started H enc)
theorem proved : Rows.SpecWithinSaid := over
#print axioms proved
end Go.Proofs.Ytcmcgjjhbjlkpaa.specWithin
namespace Go.Proofs.Ytcmcgjjhbjlkpaa
/-- The row, under a short name, for the claim. -/
theorem specWithin_holds : Rows.SpecWithinSaid := specWithin.proved
end Go.Proofs.Ytcmcgjjhbjlkpaa
