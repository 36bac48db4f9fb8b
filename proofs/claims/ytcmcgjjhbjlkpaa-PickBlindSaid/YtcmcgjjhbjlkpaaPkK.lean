import Derived.Test.YtcmcgjjhbjlkpaaPkJ
import Derived.Laws.EntriesVeiled
namespace Go.Proofs.Ytcmcgjjhbjlkpaa.Pk
open Go.RowKit Go.Shelf Go.Proofs.Ytcmcgjjhbjlkpaa.Rw Go.Proofs.YtcmcgjjhbjlkpaaW.PrintWords Go.Proofs.YtcmcgjjhbjlkpaaW.PrintLast Go.Proofs.YtcmcgjjhbjlkpaaW.PrintMore Go.Proofs.Ytcmcgjjhbjlkpaa.PPickPlays Go.Proofs.Ytcmcgjjhbjlkpaa.Air
set_option linter.unusedVariables false
set_option linter.unusedSimpArgs false
/-! ### Many new blocks -/
def allocs (w : World) : List Obj → World
  | [] => w
  | o :: os => allocs (w.alloc o) os
theorem allocs_size (w : World) (os : List Obj) : (allocs w os).heap.size = w.heap.size + os.length := by
  induction os generalizing w with
  | nil => rfl
  | cons o os ih => rw [allocs, ih, World.size_alloc, List.length_cons]; omega
theorem allocs_below (w : World) (os : List Obj) : Below w.heap.size w (allocs w os) := by
  induction os generalizing w with
  | nil => exact Below.refl _ _
  | cons o os ih => exact ((Below.refl _ w).alloc (Nat.le_refl _) o).trans ((ih (w.alloc o)).mono (by simp))
theorem allocs_get (w : World) (os : List Obj) (i : Nat) (o : Obj) (h : os[i]? = some o) : (allocs w os).heap[w.heap.size + i]? = some o := by
  induction os generalizing w i with
  | nil => simp at h
  | cons x os ih =>
    cases i with
    | zero =>
      obtain rfl : x = o := by simpa using h
      exact ((allocs_below (w.alloc x) os).block w.heap.size (by simp)).trans (blk_new w x)
    | succ i =>
      have := ih (w.alloc x) i (by simpa using h)
      rw [World.size_alloc] at this
      rw [show w.heap.size + (i + 1) = w.heap.size + 1 + i by omega]
      exact this
/-! ### What is first is there -/
theorem fstep_some (p : S74 → Bool) (l : List S74) (a : S74) : (l.foldl (fstep p) (some a)).isSome = true := by
  induction l generalizing a with
  | nil => rfl
  | cons x l ih =>
    rw [List.foldl_cons]
    unfold fstep
    split
    · exact ih x
    · exact ih a
theorem fst_isSome (p : S74 → Bool) (l : List S74) : (fst p l).isSome = l.any p := by
  unfold fst
  induction l with
  | nil => rfl
  | cons x l ih =>
    rw [List.foldl_cons, List.any_cons]
    cases hp : p x
    · rw [show fstep p none x = none by simp [fstep, hp], ih]; simp
    · rw [show fstep p none x = some x by simp [fstep, hp], fstep_some]; simp
theorem fst_mode0 (xs : List S74) : fst (qMode 0) xs = none := by
  have h : (fst (qMode 0) xs).isSome = false := by
    rw [fst_isSome, List.any_eq_false]
    intro x _
    simp [qMode, cnt]
    intros; omega
  cases hf : fst (qMode 0) xs
  · rfl
  · rw [hf] at h; cases h
theorem mode_some {xs : List S74} {a : Nat} (h : wdOf (ysOf (wantL xs)) a = true) : (fst (qMode (a : Int)) xs).isSome = true := by
  rw [fst_isSome, List.any_eq_true]
  unfold wdOf at h
  rw [List.any_eq_true] at h
  obtain ⟨y, hy, e⟩ := h
  unfold ysOf at hy
  obtain ⟨v, hv, rfl⟩ := List.mem_map.1 hy
  obtain ⟨hv1, hv2⟩ := List.mem_filter.1 hv
  unfold wantL at hv1
  obtain ⟨x, hx, rfl⟩ := List.mem_map.1 hv1
  obtain ⟨hx1, hx2⟩ := List.mem_filter.1 hx
  simp [inR] at hv2
  have := fi_val hv2.1 hv2.2
  have e' : (fi x.f1).val = a := by simpa using e
  refine ⟨x, hx1, ?_⟩
  simp [qMode, hx2]
  omega
def pickB (xs : List S74) (last : Int) : Bool := (fst qVoice xs).isSome && (decide (last ≠ 1) || !(fst qOld xs).isSome)
/-- What a pick answers. -/
def PickPost (w : World) (g : Nat) (q : Int) (s : St) (xs : List S74) (last : Int) (c wt : Int → Int) (e : Ending) (w' : World) : Prop :=
  Below w.heap.size w w' ∧ ((pickB xs last = true ∧ e = .returned (.agg (choice 1 (fst qVoice xs) (some ⟨g, 0, none⟩)))) ∨
    (pickB xs last = false ∧ (fst qOld xs).isSome = true ∧ e = .returned (.agg (choice 2 (fst qOld xs) (some ⟨g, 0, none⟩)))) ∨
    (pickB xs last = false ∧ (fst qOld xs).isSome = false ∧ ysOf (wantL xs) = [] ∧ e = .returned (.agg (choice 0 none (some ⟨g, 0, none⟩)))) ∨
    (pickB xs last = false ∧ (fst qOld xs).isSome = false ∧ ysOf (wantL xs) ≠ [] ∧ ∃ s' X, Res q (wdOf (ysOf (wantL xs))) c wt s s' ∧ (fst (qMode (s'.a : Int)) xs).isSome = true ∧
      e = .returned (.agg (choice 3 (fst (qMode (s'.a : Int)) xs) (some ⟨X, 0, none⟩))) ∧ Bk w' X 109 (dcells q s'.D (s'.a : Int) s'.f) ∧ w.heap.size ≤ X))
/-- The share's answer, as the first rule that answers sees it. -/
def ShareS (n : Nat) (g : Nat) (q : Int) (s : St) (xs : List S74) (c wt : Int → Int) (a : Option S74) (d : Option Addr) (b : Bool) (W : World) : Prop :=
  (ysOf (wantL xs) = [] ∧ b = false ∧ d = some ⟨g, 0, none⟩) ∨
  (ysOf (wantL xs) ≠ [] ∧ b = true ∧ ∃ s' X, Res q (wdOf (ysOf (wantL xs))) c wt s s' ∧ (fst (qMode (s'.a : Int)) xs).isSome = true ∧ a = fst (qMode (s'.a : Int)) xs ∧ d = some ⟨X, 0, none⟩ ∧ Bk W X 109 (dcells q s'.D (s'.a : Int) s'.f) ∧ n < X)
theorem ShareS.move {n g : Nat} {q : Int} {s : St} {xs : List S74} {c wt : Int → Int} {a : Option S74} {d : Option Addr} {b : Bool} {W W' : World} (h : ShareS n g q s xs c wt a d b W) (k : sameBut W W' n) : ShareS n g q s xs c wt a d b W' := by
  rcases h with h | ⟨h1, h2, s', X, h3, h4, h5, h6, h7, h8⟩
  · exact .inl h
  · exact .inr ⟨h1, h2, s', X, h3, h4, h5, h6, k.bk (by omega) h7, h8⟩
set_option maxHeartbeats 8000000 in
set_option maxRecDepth 100000 in
theorem Pick_ok (w : World) (A : Option Addr) (cc : Nat) (xs : List S74) (hr : Kd.C k74 w A xs.length xs) (hx : xs.length ≤ 1000000) (last : Int) (g : Nat) (q : Int) (hq : 1000 ≤ q ∧ q ≤ 1000000) (s : St) (hs : Inv s) (hd : Bk w g 109 (dcells q s.D (s.a : Int) s.f))
    (fc fw : Value) (c wt : Int → Int) (hf : FnP w fc fw c wt) :
    Calls Try.prog 31 #[.slice A xs.length cc, .int .i64 last, .pointer (some ⟨g, 0, none⟩), fc, fw] w (PickPost w g q s xs last c wt) := by
  obtain ⟨nc, pc, nw, pw, efc, efw⟩ := hf.form
  obtain ⟨W6, eW6⟩ : ∃ W6, W6 = allocs w [.cells #[.slice A xs.length cc] 61, .cells #[.int .i64 last] 3, .cells #[.pointer (some ⟨g, 0, none⟩)] 56, .cells #[fc] 60, .cells #[fw] 60, .cells chz 63, .cells #[.func (.func 57) #[] #[.pointer (some ⟨w.heap.size, 0, none⟩)]] 114] := ⟨_, rfl⟩
  have HB6 : Aside0 (Below w.heap.size w W6) := ⟨by rw [eW6]; exact allocs_below _ _⟩
  have hsz : W6.heap.size = w.heap.size + 7 := by rw [eW6, allocs_size]; rfl
  have k0 : Aside0 (Bk W6 w.heap.size 61 #[.slice A xs.length cc]) := ⟨by rw [eW6]; exact allocs_get _ _ 0 _ rfl⟩
  have k1 : Aside0 (Bk W6 (w.heap.size + 1) 3 #[.int .i64 last]) := ⟨by rw [eW6]; exact allocs_get _ _ 1 _ rfl⟩
  have k2 : Aside0 (Bk W6 (w.heap.size + 1 + 1) 56 #[.pointer (some ⟨g, 0, none⟩)]) := ⟨by rw [eW6]; exact allocs_get _ _ 2 _ rfl⟩
  have k3 : Aside0 (Bk W6 (w.heap.size + 1 + 1 + 1) 60 #[fc]) := ⟨by rw [eW6]; exact allocs_get _ _ 3 _ rfl⟩
  have k4 : Aside0 (Bk W6 (w.heap.size + 1 + 1 + 1 + 1) 60 #[fw]) := ⟨by rw [eW6]; exact allocs_get _ _ 4 _ rfl⟩
  have k5 : Aside0 (Bk W6 (w.heap.size + 1 + 1 + 1 + 1 + 1) 63 chz) := ⟨by rw [eW6]; exact allocs_get _ _ 5 _ rfl⟩
  have k6 : Aside0 (Bk W6 (w.heap.size + 1 + 1 + 1 + 1 + 1 + 1) 114 #[.func (.func 57) #[] #[.pointer (some ⟨w.heap.size, 0, none⟩)]]) := ⟨by rw [eW6]; exact allocs_get _ _ 6 _ rfl⟩
  have HCA := Aside0.mk (show Cands W6 w.heap.size (w.heap.size + 1 + 1 + 1 + 1 + 1 + 1) A cc xs from ⟨cells_below hr HB6.out, by omega, k0.out.cell 0, k6.out.cell 0⟩)
  have HF6 := Aside0.mk (hf.below HB6.out)
  have HD6 := Aside0.mk (hd.below HB6.out)
  have HW6 := Aside0.mk eW6
  clear eW6 hr hd hf
  subst efc efw
  go_enter Try.func31, Try.ntmps31
  go_wp2_with fail
  have hW6 := HW6.out
  simp only [allocs, chz] at hW6
  rw [← hW6]
  clear hW6 HW6
  refine (some_ok W6 A cc xs HCA.out.r HCA.out.m ⟨w.heap.size, 0, none⟩ HCA.out.l _ (fun x => x.f3) (.inl ⟨rfl, rfl⟩) rfl).mono ?_
  rintro e w1 ⟨rfl, hb1⟩
  rw [show (fun x => cnt x && (fun x : S74 => x.f3) x) = qOld from rfl]
  obtain ⟨old, eold⟩ : ∃ old, old = fst qOld xs := ⟨_, rfl⟩
  have HO := Aside0.mk eold
  rw [← eold]
  clear eold
  have hsz1 := hb1.size
  have HB61 := Aside0.mk hb1
  clear hb1
  rw [fcells]
  go_wp2_with fail
  obtain ⟨W9, eW9⟩ : ∃ W9, W9 = allocs w1 [.cells (fcells old) 74, .cells #[.bool old.isSome] 4, .cells #[.func (.func 63) #[] #[Value.pointer (some ⟨w.heap.size + 1 + 1 + 1 + 1 + 1 + 1, 0, none⟩), Value.pointer (some ⟨w.heap.size + 1 + 1, 0, none⟩), Value.pointer (some ⟨w.heap.size + 1, 0, none⟩), Value.pointer (some ⟨w1.heap.size + 1, 0, none⟩)],
    .func (.func 65) #[] #[Value.pointer (some ⟨w1.heap.size, 0, none⟩), Value.pointer (some ⟨w.heap.size + 1 + 1, 0, none⟩), Value.pointer (some ⟨w1.heap.size + 1, 0, none⟩)],
    .func (.func 66) #[] #[Value.pointer (some ⟨w.heap.size, 0, none⟩), Value.pointer (some ⟨w.heap.size + 1 + 1, 0, none⟩), Value.pointer (some ⟨w.heap.size + 1 + 1 + 1, 0, none⟩), Value.pointer (some ⟨w.heap.size + 1 + 1 + 1 + 1, 0, none⟩), Value.pointer (some ⟨w.heap.size + 1 + 1 + 1 + 1 + 1 + 1, 0, none⟩)],
    .func (.func 69) #[] #[Value.pointer (some ⟨w.heap.size + 1 + 1, 0, none⟩)]] 115] := ⟨_, rfl⟩
  have HB19 : Aside0 (Below w1.heap.size w1 W9) := ⟨by rw [eW9]; exact allocs_below _ _⟩
  have j0 : Aside0 (Bk W9 w1.heap.size 74 (fcells old)) := ⟨by rw [eW9]; exact allocs_get _ _ 0 _ rfl⟩
  have j1 : Aside0 (Bk W9 (w1.heap.size + 1) 4 #[.bool old.isSome]) := ⟨by rw [eW9]; exact allocs_get _ _ 1 _ rfl⟩
  have j2 : Aside0 (Bk W9 (w1.heap.size + 1 + 1) 115 _) := ⟨by rw [eW9]; exact allocs_get _ _ 2 _ rfl⟩
  have hsz9 : W9.heap.size = w1.heap.size + 3 := by rw [eW9, allocs_size]; rfl
  have HB69 := Aside0.mk (HB61.out.trans (HB19.out.mono HB61.out.size))
  simp only [allocs, fcells] at eW9
  rw [← eW9]
  clear eW9
  refine (of_ok W9 (w1.heap.size + 1 + 1) _ _ _ _ (fst qVoice xs) old (some ⟨g, 0, none⟩) ((fst qVoice xs).isSome && (decide (last ≠ 1) || !old.isSome)) old.isSome (ShareS W9.heap.size g q s xs c wt) (fun a d b W W' h k => h.move k) (j2.out.cell 0) (j2.out.cell 1) (j2.out.cell 2) (j2.out.cell 3)
    (fun W hB => voice_rule W _ _ _ _ _ A cc xs ((HCA.out.below HB69.out).below hB) _ (((k2.out.below HB69.out).below hB).cell 0) last (((k1.out.below HB69.out).below hB).cell 0) _ ((j1.out.below hB).cell 0))
    (fun W hB => old_rule W _ _ _ old (j0.out.below hB) _ (((k2.out.below HB69.out).below hB).cell 0) _ ((j1.out.below hB).cell 0))
    (fun W hB hlt => (share_rule W _ _ _ _ _ A cc xs ((HCA.out.below HB69.out).below hB) hx g (((k2.out.below HB69.out).below hB).cell 0) q hq s hs ((HD6.out.below HB69.out).below hB) _ _ c wt ((HF6.out.below HB69.out).below hB) (((k3.out.below HB69.out).below hB).cell 0) (((k4.out.below HB69.out).below hB).cell 0)).mono ?_)
    (fun W hB => none_rule W _ _ (((k2.out.below HB69.out).below hB).cell 0))).mono ?_
  · rintro e W' ⟨hb, ⟨hy, he⟩ | ⟨hy, s', X, hres, he, hbk, hX⟩⟩
    · exact ⟨_, _, _, he, hb, .inl ⟨hy, by rw [fst_mode0]; rfl, rfl⟩⟩
    · exact ⟨_, _, _, he, hb, .inr ⟨hy, mode_some hres.wanted, s', X, hres, mode_some hres.wanted, rfl, rfl, hbk, by omega⟩⟩
  rintro e w2 ⟨hb2, hpost⟩
  have HB92 := Aside0.mk hb2
  have HB62 := Aside0.mk (HB69.out.trans (hb2.mono HB69.out.size))
  have HC5 := Aside0.mk (k5.out.below HB62.out)
  have HB2 := Aside0.mk (HB6.out.trans (HB62.out.mono HB6.out.size))
  have HPB : Aside0 (((fst qVoice xs).isSome && (decide (last ≠ 1) || !old.isSome)) = pickB xs last) := ⟨by unfold pickB; rw [HO.out]⟩
  rw [HPB.out] at hpost
  rw [HO.out] at hpost
  clear hb2
  rcases hpost with ⟨hb, rfl⟩ | ⟨hb, ho, rfl⟩ | ⟨hb, ho, acc2, d2, b2, hs2, rfl⟩
  · have HPB := Aside0.mk hb
    clear hb
    obtain ⟨e0, e1, e2, e3, g0, g1, g2, g3⟩ := cells4 HC5.out
    have l5 := HC5.out.lt
    rw [choice]
    go_wp2
    obtain ⟨m0, m1, m2, m3, _⟩ := cells4 (set4 (a' := .int .i64 1) (b' := .int .u64 ((fst qVoice xs : Option S74).getD z74).f0) (c' := .int .i64 ((fst qVoice xs : Option S74).getD z74).f1) (d' := .pointer (some ⟨g, 0, none⟩)) HC5.out)
    skip
    refine bodyPost_ret (v := .agg (choice 1 (fst qVoice xs) (some ⟨g, 0, none⟩))) (by simp [results, Try.results31, go_sem, m0, m1, m2, m3, choice]) rfl ⟨set4b (t := 0) (a := undef) (b := undef) (c := undef) (d := undef) HB2.out (by omega), .inl ⟨HPB.out, rfl⟩⟩
  · have HPB := Aside0.mk hb
    have HPO := Aside0.mk ho
    clear hb ho
    obtain ⟨e0, e1, e2, e3, g0, g1, g2, g3⟩ := cells4 HC5.out
    have l5 := HC5.out.lt
    rw [choice]
    go_wp2
    obtain ⟨m0, m1, m2, m3, _⟩ := cells4 (set4 (a' := .int .i64 2) (b' := .int .u64 ((fst qOld xs : Option S74).getD z74).f0) (c' := .int .i64 ((fst qOld xs : Option S74).getD z74).f1) (d' := .pointer (some ⟨g, 0, none⟩)) HC5.out)
    skip
    refine bodyPost_ret (v := .agg (choice 2 (fst qOld xs) (some ⟨g, 0, none⟩))) (by simp [results, Try.results31, go_sem, m0, m1, m2, m3, choice]) rfl ⟨set4b (t := 0) (a := undef) (b := undef) (c := undef) (d := undef) HB2.out (by omega), .inr (.inl ⟨HPB.out, HPO.out, rfl⟩)⟩
  have HPB := Aside0.mk hb
  have HPO := Aside0.mk ho
  clear hb ho
  rcases hs2 with ⟨hy, rfl, rfl⟩ | ⟨hy, rfl, s', X, hres, hsm, rfl, rfl, hbk, hX⟩
  · have HY := Aside0.mk hy
    clear hy
    rw [if_neg (by simp)]
    obtain ⟨e0, e1, e2, e3, g0, g1, g2, g3⟩ := cells4 HC5.out
    have l5 := HC5.out.lt
    rw [choice]
    go_wp2
    obtain ⟨m0, m1, m2, m3, _⟩ := cells4 (set4 (a' := .int .i64 0) (b' := .int .u64 ((none : Option S74).getD z74).f0) (c' := .int .i64 ((none : Option S74).getD z74).f1) (d' := .pointer (some ⟨g, 0, none⟩)) HC5.out)
    simp only [Option.getD_none] at m0 m1 m2 m3
    refine bodyPost_ret (v := .agg (choice 0 (none) (some ⟨g, 0, none⟩))) (by simp [results, Try.results31, go_sem, m0, m1, m2, m3, choice]) rfl ⟨set4b (t := 0) (a := undef) (b := undef) (c := undef) (d := undef) HB2.out (by omega), .inr (.inr (.inl ⟨HPB.out, HPO.out, HY.out, rfl⟩))⟩
  · have HY := Aside0.mk hy
    have HRES := Aside0.mk hres
    have HSM := Aside0.mk hsm
    have HBK := Aside0.mk hbk
    clear hy hres hsm hbk
    rw [if_pos rfl]
    obtain ⟨e0, e1, e2, e3, g0, g1, g2, g3⟩ := cells4 HC5.out
    have l5 := HC5.out.lt
    rw [choice]
    go_wp2
    obtain ⟨m0, m1, m2, m3, _⟩ := cells4 (set4 (a' := .int .i64 3) (b' := .int .u64 ((fst (qMode (s'.a : Int)) xs : Option S74).getD z74).f0) (c' := .int .i64 ((fst (qMode (s'.a : Int)) xs : Option S74).getD z74).f1) (d' := .pointer (some ⟨X, 0, none⟩)) HC5.out)
    skip
    refine bodyPost_ret (v := .agg (choice 3 (fst (qMode (s'.a : Int)) xs) (some ⟨X, 0, none⟩))) (by simp [results, Try.results31, go_sem, m0, m1, m2, m3, choice]) rfl ⟨set4b (t := 0) (a := undef) (b := undef) (c := undef) (d := undef) HB2.out (by omega), .inr (.inr (.inr ⟨HPB.out, HPO.out, HY.out, s', X, HRES.out, HSM.out, rfl, (((HBK.out.set_other (by omega) _ _).set_other (by omega) _ _).set_other (by omega) _ _).set_other (by omega) _ _, by omega⟩))⟩
end Go.Proofs.Ytcmcgjjhbjlkpaa.Pk
