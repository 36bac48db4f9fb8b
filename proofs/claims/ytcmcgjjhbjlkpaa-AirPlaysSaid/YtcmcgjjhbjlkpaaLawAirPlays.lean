/- The law AirPlays answers true for every number of terminals and every list of acts; the list reads behind the call as it read before. No condition. -/
import Derived.Test.YtcmcgjjhbjlkpaaRows
import Derived.Test.YtcmcgjjhbjlkpaaAirV
import Derived.Test.YtcmcgjjhbjlkpaaOpen
import Derived.WalkKit
import Derived.ProofKit
import Derived.OpenShut
import Derived.ShutString
import Derived.ChangeOld
import Derived.Below
import Derived.SizedLaws
namespace Go.Proofs.Ytcmcgjjhbjlkpaa.airPlays
open Go.ChangeShapes Go.WideShapes Go.ChangeAt Go.RowKit
open Go.ChangeMaps (open_string shut_string)
open Go.Proofs.YtcmcgjjhbjlkpaaW.PrintWords Go.Proofs.Ytcmcgjjhbjlkpaa.Air
set_option linter.unusedVariables false
set_option linter.unusedSimpArgs false
theorem own : ownKnob Try.prog.godebug = none := by kernel_rfl
theorem laidOut : laidOutB Try.prog = true := by kernel_rfl
theorem cells3 : Try.prog.cellsOf 3 = 1 := by kernel_rfl
theorem cells9 : Try.prog.cellsOf 9 = 1 := by kernel_rfl
def Wf46 (x : S46) : Prop := (Lit.int .i64 x.f0).wf = true ∧ (Lit.int .i64 x.f1).wf = true ∧ (Lit.int .i64 x.f2).wf = true
set_option maxRecDepth 100000 in
theorem elem46 {H : Type} {enc : TypeId × Value → H} {w : World} {base : Nat} {spare : Nat → Bool} {held : Bool} (n : Nat) (cs : List Value) (y : DataW H × List MemPlace) (h : DataW.trod enc Try.prog w base spare held n 46 cs = some y) (hl : cs.length = 4) : ∃ x : S46, Kd.K k46 w x cs ∧ Wf46 x := by
  obtain ⟨xs, m, _, _, _, hlen, hf⟩ := DataW.trod_struct Try.underlying46 h
  match cs, hl, xs, hlen with
  | [c0, c1, c2, c3], _, [x0, x1, x2, x3], _ =>
    have f0 := hf 0 _ rfl
    simp [cells3] at f0
    obtain ⟨a0, e0, _, w0⟩ := DataW.trod_int Try.underlying3 f0
    simp only [List.cons.injEq, and_true] at e0
    subst e0
    have f1 := hf 1 _ rfl
    simp [cells3] at f1
    obtain ⟨a1, e1, _, w1⟩ := DataW.trod_int Try.underlying3 f1
    simp only [List.cons.injEq, and_true] at e1
    subst e1
    have f2 := hf 2 _ rfl
    simp [cells3] at f2
    obtain ⟨a2, e2, _, w2⟩ := DataW.trod_int Try.underlying3 f2
    simp only [List.cons.injEq, and_true] at e2
    subst e2
    have f3 := hf 3 _ rfl
    simp [cells9] at f3
    obtain ⟨a3, e3, _, _⟩ := DataW.trod_string Try.underlying9 f3
    simp only [List.cons.injEq, and_true] at e3
    subst e3
    exact ⟨⟨a0, a1, a2, a3⟩, k46_mk _ _, ⟨w0, w1, w2⟩⟩
set_option maxRecDepth 100000 in
theorem lifted (os : Os) (started : os.Started) (H : Type) (enc : TypeId × Value → H) :
    ReturnsInHanded {} Try.checked os 6 .any (Rows.airPlaysSpec.pre6 enc Try.prog Try.f6 Rows.airPlaysRow.domain false) (Rows.airPlaysSpec.post enc Try.prog Try.f6 false true false false) := by
  refine returnsInHanded_of_change_sized (C := Try.checked) own started (by kernel_rfl) Try.func6
    (ChangeSpec.witness6 (enc := enc) (C := Try.checked) false ⟨#[], #[.int .i64 0, .slice none 0 0], []⟩ 8 (by kernel_rfl) (by kernel_rfl) (by kernel_rfl) (by kernel_rfl)) ?_
  intro W base args ds gs before hval0 hW hcnd hsz0 _
  have hsz : (DataW.weightsEach Try.prog (Try.f6.params.toList ++ Rows.airPlaysSpec.plain.varTypes Try.prog) (ds ++ gs)).all (· ≤ reachBytes) = true := hsz0
  have hval : ∀ (j : Nat) t v, Try.f6.params[j]? = some t → args[j]? = some v → Value.okWide Try.prog W .any base t v := hval0
  have hW' := hW
  obtain ⟨p, q, hA0, hV, rfl, hfz, hnd⟩ := hW
  have hA : DataW.TrodAll enc Try.prog W 0 (fun _ => true) true Try.f6.params.toList args.toList ds p := hA0
  rw [Try.params6] at hA hval hsz
  obtain ⟨v0, vs0, d0, ds0, p0, q0, hargs, rfl, rfl, h0, r0⟩ := trodAll_cons hA
  obtain ⟨v1, vs1, d1, ds1, p1, q1, rfl, rfl, rfl, h1, r1⟩ := trodAll_cons r0
  obtain ⟨rfl, rfl, rfl⟩ := trodAll_nil r1
  obtain rfl : args = #[v0, v1] := by cases args; simp_all
  obtain ⟨rfl, rfl⟩ := trodVars_none hV
  obtain ⟨a0, rfl, rfl, rfl, wf0⟩ := open_int Try.underlying3 (hval 0 3 v0 rfl rfl) h0
  obtain ⟨A1, len1, cap1, rfl⟩ := okWide_slice Try.underlying40 (hval 1 40 v1 rfl rfl)
  have t1 := h1
  have lt1 : ∀ x ∈ p1, x.block < W.heap.size := by obtain ⟨m, hm⟩ := t1; exact DataW.trod_lt m _ _ _ hm
  obtain ⟨fuel1, hf1⟩ := h1
  obtain ⟨xs1, n1, le1, mx1, C1, wf1⟩ := Op.open_rows k46 Wf46 Try.underlying40 (by kernel_rfl) (fun n cs y h hl => elem46 n cs y h hl) hf1
  clear hA0 hval0 hsz0 hsz
  obtain rfl := n1
  refine (law W a0 A1 _ cap1 xs1 C1).mono fun e W' ⟨he, bel⟩ => ?_
  subst he
  exact ⟨_, rfl, _, _, _, [], _, [], hW', trodAll_mk1 (shut_bool Try.underlying4 _), (trodAll_cons_mk (shut_int Try.underlying3 wf0) (trodAll_cons_mk (Below.trod laidOut (by kernel_rfl) (of_decide_eq_true (by kernel_rfl)) t1 bel lt1) trodAll_mk0)), rfl, bel.frame _, fun h => by cases h⟩
theorem over : Rows.airPlaysRow.holds Try.pinned (OpenSpec.ofChange Rows.airPlaysSpec) :=
  OpenClaim.holds_of_wide 6 Try.f6 rfl rfl rfl rfl rfl rfl rfl ⟨rfl, rfl, rfl, rfl, rfl⟩ rfl rfl rfl rfl rfl (by kernel_rfl) Try.func6 (by kernel_rfl)
    (of_decide_eq_true (by kernel_rfl)) (by unfold Func.isWrapper; first | (rw [if_pos (by decide +kernel)]; kernel_rfl) | (rw [if_neg (by decide +kernel)]; exact ⟨rfl, rfl⟩))
    (fun os started H enc _ => lifted os started H enc)
theorem proved : Rows.AirPlaysSaid := over
#print axioms proved
end Go.Proofs.Ytcmcgjjhbjlkpaa.airPlays
namespace Go.Proofs.Ytcmcgjjhbjlkpaa
/-- The row, under a short name, for the claim. -/
theorem airPlays_holds : Rows.AirPlaysSaid := airPlays.proved
end Go.Proofs.Ytcmcgjjhbjlkpaa
