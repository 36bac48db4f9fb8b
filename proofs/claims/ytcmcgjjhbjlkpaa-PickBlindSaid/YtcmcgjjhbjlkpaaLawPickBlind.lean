/- The law PickBlind answers true for every list of candidates, every list of turns and every last mode; the lists read behind the call as they read before. No condition. -/
import Derived.Test.YtcmcgjjhbjlkpaaRows
import Derived.Test.YtcmcgjjhbjlkpaaPkU
import Derived.Test.YtcmcgjjhbjlkpaaOpen
import Derived.WalkKit
import Derived.ProofKit
import Derived.OpenShut
import Derived.ShutString
import Derived.ChangeOld
import Derived.Below
import Derived.SizedLaws
namespace Go.Proofs.Ytcmcgjjhbjlkpaa.pickBlind
open Go.ChangeShapes Go.WideShapes Go.ChangeAt Go.RowKit
open Go.ChangeMaps (open_string shut_string)
open Go.Proofs.YtcmcgjjhbjlkpaaW.PrintWords Go.Proofs.Ytcmcgjjhbjlkpaa.Pk
set_option linter.unusedVariables false
set_option linter.unusedSimpArgs false
theorem own : ownKnob Try.prog.godebug = none := by kernel_rfl
theorem laidOut : laidOutB Try.prog = true := by kernel_rfl
theorem cells3 : Try.prog.cellsOf 3 = 1 := by kernel_rfl
theorem cells4 : Try.prog.cellsOf 4 = 1 := by kernel_rfl
theorem cells36 : Try.prog.cellsOf 36 = 1 := by kernel_rfl
def Wf74 (x : Go.Proofs.Ytcmcgjjhbjlkpaa.PPickPlays.S74) : Prop := (Lit.int .u64 x.f0).wf = true ∧ (Lit.int .i64 x.f1).wf = true
set_option maxRecDepth 100000 in
theorem elem74 {H : Type} {enc : TypeId × Value → H} {w : World} {base : Nat} {spare : Nat → Bool} {held : Bool} (n : Nat) (cs : List Value) (y : DataW H × List MemPlace) (h : DataW.trod enc Try.prog w base spare held n 74 cs = some y) (hl : cs.length = 4) : ∃ x : Go.Proofs.Ytcmcgjjhbjlkpaa.PPickPlays.S74, Kd.K Go.Proofs.Ytcmcgjjhbjlkpaa.PPickPlays.k74 w x cs ∧ Wf74 x := by
  obtain ⟨xs, m, _, _, _, hlen, hf⟩ := DataW.trod_struct Try.underlying74 h
  match cs, hl, xs, hlen with
  | [c0, c1, c2, c3], _, [x0, x1, x2, x3], _ =>
    have f0 := hf 0 _ rfl
    simp [cells36] at f0
    obtain ⟨a0, e0, _, w0⟩ := DataW.trod_int Try.underlying36 f0
    simp only [List.cons.injEq, and_true] at e0
    subst e0
    have f1 := hf 1 _ rfl
    simp [cells3] at f1
    obtain ⟨a1, e1, _, w1⟩ := DataW.trod_int Try.underlying3 f1
    simp only [List.cons.injEq, and_true] at e1
    subst e1
    have f2 := hf 2 _ rfl
    simp [cells4] at f2
    obtain ⟨a2, e2, _⟩ := DataW.trod_bool Try.underlying4 f2
    simp only [List.cons.injEq, and_true] at e2
    subst e2
    have f3 := hf 3 _ rfl
    simp [cells4] at f3
    obtain ⟨a3, e3, _⟩ := DataW.trod_bool Try.underlying4 f3
    simp only [List.cons.injEq, and_true] at e3
    subst e3
    exact ⟨⟨a0, a1, a2, a3⟩, Go.Proofs.Ytcmcgjjhbjlkpaa.PPickPlays.k74_mk _ _, ⟨w0, w1⟩⟩
set_option maxHeartbeats 2000000 in
set_option maxRecDepth 100000 in
theorem lifted (os : Os) (started : os.Started) (H : Type) (enc : TypeId × Value → H) :
    ReturnsInHanded {} Try.checked os 10 .any (Rows.pickBlindSpec.pre6 enc Try.prog Try.f10 Rows.pickBlindRow.domain false) (Rows.pickBlindSpec.post enc Try.prog Try.f10 false true false false) := by
  refine returnsInHanded_of_change_sized (C := Try.checked) own started (by kernel_rfl) Try.func10
    (ChangeSpec.witness6 (enc := enc) (C := Try.checked) false ⟨#[], #[.slice none 0 0, .slice none 0 0, .int .i64 0], []⟩ 8 (by kernel_rfl) (by kernel_rfl) (by kernel_rfl) (by kernel_rfl)) ?_
  intro W base args ds gs before hval0 hW hcnd hsz0 _
  have hsz : (DataW.weightsEach Try.prog (Try.f10.params.toList ++ Rows.pickBlindSpec.plain.varTypes Try.prog) (ds ++ gs)).all (· ≤ reachBytes) = true := hsz0
  have hval : ∀ (j : Nat) t v, Try.f10.params[j]? = some t → args[j]? = some v → Value.okWide Try.prog W .any base t v := hval0
  have hW' := hW
  obtain ⟨p, q, hA0, hV, rfl, hfz, hnd⟩ := hW
  have hA : DataW.TrodAll enc Try.prog W 0 (fun _ => true) true Try.f10.params.toList args.toList ds p := hA0
  rw [Try.params10] at hA hval hsz
  obtain ⟨v0, vs0, d0, ds0, p0, q0, hargs, rfl, rfl, h0, r0⟩ := trodAll_cons hA
  obtain ⟨v1, vs1, d1, ds1, p1, q1, rfl, rfl, rfl, h1, r1⟩ := trodAll_cons r0
  obtain ⟨v2, vs2, d2, ds2, p2, q2, rfl, rfl, rfl, h2, r2⟩ := trodAll_cons r1
  obtain ⟨rfl, rfl, rfl⟩ := trodAll_nil r2
  obtain rfl : args = #[v0, v1, v2] := by cases args; simp_all
  obtain ⟨rfl, rfl⟩ := trodVars_none hV
  obtain ⟨A0, len0, cap0, rfl⟩ := okWide_slice Try.underlying61 (hval 0 61 v0 rfl rfl)
  have t0 := h0
  have lt0 : ∀ x ∈ p0, x.block < W.heap.size := by obtain ⟨m, hm⟩ := t0; exact DataW.trod_lt m _ _ _ hm
  obtain ⟨fuel0, hf0⟩ := h0
  obtain ⟨xs0, n0, le0, mx0, C0, wf0⟩ := Op.open_rows Go.Proofs.Ytcmcgjjhbjlkpaa.PPickPlays.k74 Wf74 Try.underlying61 (by kernel_rfl) (fun n cs y h hl => elem74 n cs y h hl) hf0
  obtain ⟨A1, len1, cap1, rfl⟩ := okWide_slice Try.underlying33 (hval 1 33 v1 rfl rfl)
  have t1 := h1
  have lt1 : ∀ x ∈ p1, x.block < W.heap.size := by obtain ⟨m, hm⟩ := t1; exact DataW.trod_lt m _ _ _ hm
  obtain ⟨fuel1, hf1⟩ := h1
  obtain ⟨xs1, n1, le1, mx1, C1, wf1⟩ := Op.open_rows (Kd.int .u8) (fun x => (Lit.int .u8 x).wf = true) Try.underlying33 (by kernel_rfl) (fun n cs y h hl => by obtain ⟨a, e, _, w⟩ := DataW.trod_int Try.underlying5 h; exact ⟨a, e, w⟩) hf1
  obtain ⟨a2, rfl, rfl, rfl, wf2⟩ := open_int Try.underlying3 (hval 2 3 v2 rfl rfl) h2
  clear hA0 hval0 hsz0 hsz
  have hu8 : ∀ t ∈ xs1, 0 ≤ t ∧ t ≤ 255 := fun t ht => by have h1 := wf1 t ht; unfold Lit.wf at h1; rw [Bool.and_eq_true] at h1; exact ⟨of_decide_eq_true h1.1, of_decide_eq_true h1.2⟩
  obtain rfl := n0
  obtain rfl := n1
  refine (blind W A0 cap0 xs0 C0 (by unfold maxLen at mx0; omega) (fun x hx => by have h1 := (wf0 x hx).1; unfold Lit.wf at h1; rw [Bool.and_eq_true] at h1; exact of_decide_eq_true h1.1) A1 cap1 xs1 C1 (by unfold maxLen at mx1; omega) hu8 a2).mono fun e W' ⟨he, bel⟩ => ?_
  subst he
  exact ⟨_, rfl, _, _, _, [], _, [], hW', trodAll_mk1 (shut_bool Try.underlying4 _), (trodAll_cons_mk (Below.trod laidOut (by kernel_rfl) (of_decide_eq_true (by kernel_rfl)) t0 bel lt0) (trodAll_cons_mk (Below.trod laidOut (by kernel_rfl) (of_decide_eq_true (by kernel_rfl)) t1 bel lt1) (trodAll_cons_mk (shut_int Try.underlying3 wf2) trodAll_mk0))), rfl, bel.frame _, fun h => by cases h⟩
theorem over : Rows.pickBlindRow.holds Try.pinned (OpenSpec.ofChange Rows.pickBlindSpec) :=
  OpenClaim.holds_of_wide 10 Try.f10 rfl rfl rfl rfl rfl rfl rfl ⟨rfl, rfl, rfl, rfl, rfl⟩ rfl rfl rfl rfl rfl (by kernel_rfl) Try.func10 (by kernel_rfl)
    (of_decide_eq_true (by kernel_rfl)) (by unfold Func.isWrapper; first | (rw [if_pos (by decide +kernel)]; kernel_rfl) | (rw [if_neg (by decide +kernel)]; exact ⟨rfl, rfl⟩))
    (fun os started H enc _ => lifted os started H enc)
theorem proved : Rows.PickBlindSaid := over
#print axioms proved
end Go.Proofs.Ytcmcgjjhbjlkpaa.pickBlind
namespace Go.Proofs.Ytcmcgjjhbjlkpaa
/-- The row, under a short name, for the claim. -/
theorem pickBlind_holds : Rows.PickBlindSaid := pickBlind.proved
end Go.Proofs.Ytcmcgjjhbjlkpaa
