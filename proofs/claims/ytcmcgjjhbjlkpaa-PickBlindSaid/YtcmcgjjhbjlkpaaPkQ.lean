import Derived.Test.YtcmcgjjhbjlkpaaPkP
namespace Go.Proofs.Ytcmcgjjhbjlkpaa.Pk
open Go.RowKit Go.Shelf Go.Proofs.Ytcmcgjjhbjlkpaa.Rw Go.Proofs.YtcmcgjjhbjlkpaaW.PrintWords Go.Proofs.YtcmcgjjhbjlkpaaW.PrintLast Go.Proofs.YtcmcgjjhbjlkpaaW.PrintMore Go.Proofs.Ytcmcgjjhbjlkpaa.PPickPlays Go.Proofs.Ytcmcgjjhbjlkpaa.Air
set_option linter.unusedVariables false
set_option linter.unusedSimpArgs false
/-! ### The reference's pick -/
def allL (xs : List S74) : List Int := (xs.filter (fun x => decide (0 < x.f0))).map (·.f1)
theorem allL_take {xs : List S74} {k : Nat} (h : k < xs.length) : allL (xs.take (k + 1)) = allL (xs.take k) ++ if 0 < (rd_T74 xs (k : Int)).f0 then [(rd_T74 xs (k : Int)).f1] else [] := by
  unfold allL rd_T74
  rw [List.take_succ_eq_append_getElem h, List.filter_append, List.map_append]
  congr 1
  simp only [List.getD_eq_getElem?_getD, h, List.filter_cons, List.filter_nil, List.getElem?_eq_getElem, Option.getD_some, Int.toNat_natCast, decide_eq_true_eq]
  split <;> rfl
theorem allL_len (xs : List S74) (k : Nat) : (allL (xs.take k)).length ≤ k := by
  have := List.length_filter_le (fun x : S74 => decide (0 < x.f0)) (xs.take k)
  simp [allL] at *
  omega
theorem ys_all (xs : List S74) : ysOf (allL xs) = ysOf (wantL xs) := by
  unfold ysOf
  congr 1
  induction xs with
  | nil => rfl
  | cons x xs ih =>
    unfold allL wantL at *
    by_cases h0 : 0 < x.f0
    · by_cases h1 : 1 ≤ x.f1 ∧ x.f1 ≤ 28
      · rw [List.filter_cons, if_pos (by simpa using h0), List.filter_cons, if_pos (by simp [cnt, h0, h1.1, h1.2]), List.map_cons, List.map_cons, List.filter_cons, List.filter_cons, ih]
      · rw [List.filter_cons, if_pos (by simpa using h0), List.filter_cons, if_neg (by simp [cnt]; omega), List.map_cons, List.filter_cons, if_neg (by simp [inR]; omega), ih]
    · rw [List.filter_cons, if_neg (by simpa using h0), List.filter_cons, if_neg (by simp [cnt]; omega), ih]
theorem fst_memQ {p : S74 → Bool} {l : List S74} {y : S74} (h : fst p l = some y) : y ∈ l ∧ p y = true := by
  have key : ∀ (l : List S74) (acc : Option S74), (∀ z, acc = some z → z ∈ l ∧ p z = true ∨ True) → ∀ y, l.foldl (fstep p) acc = some y → acc = some y ∨ (y ∈ l ∧ p y = true) := by
    intro l
    induction l with
    | nil => intro acc _ y h; exact .inl h
    | cons x l ih =>
      intro acc _ y h
      rw [List.foldl_cons] at h
      rcases ih _ (fun _ _ => .inr trivial) y h with h | ⟨h1, h2⟩
      · unfold fstep at h
        split at h
        · rename_i hp
          obtain rfl := Option.some.inj h
          exact .inr ⟨List.mem_cons_self, by simp at hp; exact hp.1⟩
        · exact .inl h
      · exact .inr ⟨List.mem_cons_of_mem _ h1, h2⟩
  rcases key l none (fun _ _ => .inr trivial) y h with h | h
  · cases h
  · exact h
def rchoice (pick : Int) (acc : Option S74) (d : Option Addr) : Array Value := choice pick acc d
def PickPostR (w : World) (g : Nat) (q : Int) (s : St) (xs : List S74) (last : Int) (c wt : Int → Int) (e : Ending) (w' : World) : Prop :=
  Below w.heap.size w w' ∧ ((pickB xs last = true ∧ e = .returned (.agg (choice 1 (fst qVoice xs) (some ⟨g, 0, none⟩)))) ∨
    (pickB xs last = false ∧ (fst qOld xs).isSome = true ∧ e = .returned (.agg (choice 2 (fst qOld xs) (some ⟨g, 0, none⟩)))) ∨
    (pickB xs last = false ∧ (fst qOld xs).isSome = false ∧ ysOf (wantL xs) = [] ∧ e = .returned (.agg (choice 0 none (some ⟨g, 0, none⟩)))) ∨
    (pickB xs last = false ∧ (fst qOld xs).isSome = false ∧ ysOf (wantL xs) ≠ [] ∧ ∃ s' X, Res q (wdOf (ysOf (wantL xs))) c wt s s' ∧ (fst (qMode (s'.a : Int)) xs).isSome = true ∧
      e = .returned (.agg (choice 3 (fst (qMode (s'.a : Int)) xs) (some ⟨X, 0, none⟩))) ∧ Bk w' X 71 (dcells q s'.D (s'.a : Int) s'.f) ∧ w.heap.size ≤ X))
set_option maxHeartbeats 8000000 in
set_option maxRecDepth 100000 in
theorem rPick_ok (w : World) (A : Option Addr) (cc : Nat) (xs : List S74) (hr : Kd.C k74 w A xs.length xs) (hx : xs.length ≤ 1000000) (hcc : xs.length ≤ cc) (hw : ∀ x ∈ xs, 0 ≤ x.f0) (last : Int) (g : Nat) (q : Int) (hq : 1000 ≤ q ∧ q ≤ 1000000) (s : St) (hs : Inv s) (hd : Bk w g 71 (dcells q s.D (s.a : Int) s.f))
    (C T : Nat → Int) (c wt : Int → Int) (hc : ∀ a : Nat, 1 ≤ a ∧ a ≤ 28 → C a = c (a : Int)) (ht : ∀ a : Nat, 1 ≤ a ∧ a ≤ 28 → T a = wt (a : Int)) :
    Calls Try.prog 32 #[.slice A xs.length cc, .int .i64 last, .pointer (some ⟨g, 0, none⟩), .agg (rcells C), .agg (rcells T)] w (PickPostR w g q s xs last c wt) := by
  obtain ⟨W3, eW3⟩ : ∃ W3, W3 = allocs w [.cells (rcells C) 68, .cells (rcells T) 68, .cells chz 66] := ⟨_, rfl⟩
  have HB3 : Aside0 (Below w.heap.size w W3) := ⟨by rw [eW3]; exact allocs_below _ _⟩
  have K0 : Aside0 (Bk W3 w.heap.size 68 (rcells C)) := ⟨by rw [eW3]; exact allocs_get _ _ 0 _ rfl⟩
  have K1 : Aside0 (Bk W3 (w.heap.size + 1) 68 (rcells T)) := ⟨by rw [eW3]; exact allocs_get _ _ 1 _ rfl⟩
  have K2 : Aside0 (Bk W3 (w.heap.size + 1 + 1) 66 chz) := ⟨by rw [eW3]; exact allocs_get _ _ 2 _ rfl⟩
  have hsz3 : W3.heap.size = w.heap.size + 3 := by rw [eW3, allocs_size]; rfl
  have HD3 := Aside0.mk (hd.below HB3.out)
  have HR3 := Aside0.mk (cells_below hr HB3.out)
  simp only [allocs, chz] at eW3
  have HWX := Aside0.mk hw
  have HCC := Aside0.mk hc
  have HTT := Aside0.mk ht
  obtain ⟨n, hn⟩ : ∃ n, n = xs.length := ⟨_, rfl⟩
  have HN := Aside0.mk hn
  rw [← hn] at hx hcc ⊢
  clear hr hd hw hc ht hn
  go_enter Try.func32, Try.ntmps32
  go_wp2_with fail
  rw [← eW3]
  clear eW3
  rw [HN.out]
  refine (first_voice W3 A cc xs HR3.out (by have := HN.out; omega) HWX.out).mono ?_
  rintro e w1 ⟨⟨iv, rfl, hiv⟩, hb1⟩
  have HR1 := Aside0.mk (cells_below HR3.out hb1)
  have HB31 := Aside0.mk hb1
  have HIV := Aside0.mk hiv
  clear hb1 hiv
  go_wp2_with fail
  refine (first_old w1 A cc xs HR1.out (by have := HN.out; omega) HWX.out).mono ?_
  rintro e w2 ⟨⟨io, rfl, hio⟩, hb2⟩
  rw [← HN.out]
  have HR2 := Aside0.mk (cells_below HR1.out hb2)
  have HB32 := Aside0.mk (HB31.out.trans (hb2.mono HB31.out.size))
  have HIO := Aside0.mk hio
  have HK2 := Aside0.mk (K2.out.below HB32.out)
  have HB2 := Aside0.mk (HB3.out.trans (HB32.out.mono HB3.out.size))
  clear hb2 hio HR1 HB31
  have hsz2 := HB32.out.size
  cases hpb : pickB xs last
  · have HPB := Aside0.mk hpb
    cases ho : (fst qOld xs).isSome
    · have HO := Aside0.mk ho
      have hio : io < 0 := by
        rcases HIO.out with ⟨h, _⟩ | ⟨j, hj, _, hf⟩
        · omega
        · rw [hf] at ho; cases ho
      have hiv : iv < 0 := by
        rcases HIV.out with ⟨h, _⟩ | ⟨j, hj, _, hf⟩
        · omega
        · unfold pickB at hpb; rw [hf, ho] at hpb; simp at hpb
      have hvb : ¬ (0 ≤ iv) := by omega
      have hob2 : ¬ (0 ≤ io) := by omega
      clear hpb ho
      go_wp2_with fail
      go_loopw [13, 14] (fun v13 v14 wr => ∃ i : Nat, i ≤ n ∧ v14 = .int .i64 i ∧ Aside0 (Kd.R (Kd.int .i64) 3 wr w2.heap.size (fun _ => True) v13 (allL (xs.take i))) ∧ Aside0 (Below w2.heap.size w2 wr)) (fun _ v14 _ => n - (intOf v14).toNat)
      case atStart => exact ⟨0, by omega, rfl, ⟨Kd.R_nil _ _ _ _ _⟩, ⟨Below.refl _ _⟩⟩
      case round =>
        obtain ⟨i, hi, rfl, HRi, HBi⟩ := hrel
        by_cases hlt : i < n
        · obtain ⟨ad, rfl, h0, h1, h2, h3⟩ := at_T74 HR2.out (i : Int) (by omega) (by rw [← HN.out]; omega)
          rw [Int.toNat_natCast] at h0 h1 h2 h3
          have HT := Aside0.mk (allL_take (xs := xs) (k := i) (by rw [← HN.out]; exact hlt))
          have hwl := allL_len xs i
          have hmx : rd_T74 xs (i : Int) ∈ xs := by
            have : i < xs.length := by rw [← HN.out]; exact hlt
            unfold rd_T74
            rw [List.getD_eq_getElem?_getD, Int.toNat_natCast, List.getElem?_eq_getElem this]; exact List.getElem_mem this
          have hx0 := HWX.out _ hmx
          obtain ⟨x, hxx⟩ : ∃ x, x = rd_T74 xs (i : Int) := ⟨_, rfl⟩
          rw [← hxx] at h0 h1 HT hx0
          clear hxx h2 h3 hmx
          replace h0 := cell_below h0 HBi.out
          replace h1 := cell_below h1 HBi.out
          obtain ⟨L, hL⟩ : ∃ L, L = allL (xs.take i) := ⟨_, rfl⟩
          rw [← hL] at HRi HT hwl
          clear hL
          by_cases hc : 0 < x.f0
          · have HS := Aside0.mk (show (if 0 < x.f0 then [x.f1] else []) = [x.f1] from if_pos hc)
            go_wp2_with ((with_reducible refine gate_builtin (b := .append) (xs := #[.tmp 70, .tmp 76]) rfl ?_); at_builtin; apply Aside0.out)
            refine ⟨?_⟩
            refine Kd.R_append (Kd.int .i64) (w0 := w2) w2.heap.size rfl (.tmp 70) (.tmp 76) 27 3 (.int .i64 0) 8 rfl Try.underlying27 info3' rfl (by decide) (by omega) u13 L x.f1 [.int .i64 x.f1] (fun _ => True) (fun _ => False) rfl rfl rfl (fun _ hk => hk.elim) (fun _ _ => trivial) HRi.out HBi.out HBi.out.size (by omega) ?_
            intro v1 w3 ho3 hb3 hg3 hat3
            have HR3' := Aside0.mk ho3
            have HB3' := Aside0.mk hb3
            clear ho3 hb3 hg3 hat3 h0 h1
            go_wp2
            refine ⟨⟨i + 1, by omega, by go_num, ⟨by rw [HT.out, HS.out]; exact HR3'.out⟩, HB3'⟩, ?_⟩
            simp [intOf]
            omega
          · have HS := Aside0.mk (show (if 0 < x.f0 then [x.f1] else []) = ([] : List Int) from if_neg hc)
            go_wp2
            refine ⟨⟨i + 1, by omega, by go_num, ⟨by rw [HT.out, HS.out, List.append_nil]; exact HRi.out⟩, HBi⟩, ?_⟩
            simp [intOf]
            omega
        · obtain rfl : i = n := by omega
          rw [HN.out, List.take_length] at HRi
          obtain ⟨A2, c2, rfl, hc2, hC2⟩ := Kd.R_reads HRi.out
          have HBW := Aside0.mk (HB32.out.trans (HBi.out.mono HB32.out.size))
          have HNX := Aside0.mk (rNext_ok wr g q hq s hs (HD3.out.below HBW.out) A2 c2 (allL xs) (by have := allL_len xs xs.length; rw [List.take_length] at this; have := HN.out; omega) hC2 C T c wt HCC.out HTT.out)
          rw [ys_all] at HNX
          have HKC := Aside0.mk (K0.out.below HBW.out)
          have HKT := Aside0.mk (K1.out.below HBW.out)
          have HK2r := Aside0.mk (HK2.out.below HBi.out)
          have HBr := Aside0.mk (HB2.out.trans (HBi.out.mono HB2.out.size))
          have HRr := Aside0.mk (cells_below HR2.out HBi.out)
          clear hC2 HRi
          go_wp2_with (first | (refine wpList_load_row rfl 68 (.tmp 8) rfl w.heap.size rfl 68 (rcells C) (0, 0) _ HKC.out Try.underlying68 rfl size68 ?_) | (refine wpList_load_row rfl 68 (.tmp 9) rfl (w.heap.size + 1) rfl 68 (rcells T) (0, 0) _ HKT.out Try.underlying68 rfl size68 ?_))
          refine HNX.out.mono ?_
          rintro e w4 ⟨hb4, hpost⟩
          have HB4 := Aside0.mk hb4
          have HK4 := Aside0.mk (HK2r.out.below hb4)
          have HBf := Aside0.mk (HBr.out.trans (hb4.mono HBr.out.size))
          have HR4 := Aside0.mk (cells_below HRr.out hb4)
          have hwr : w.heap.size + 1 + 1 < wr.heap.size := HK2r.out.lt
          clear hb4 HNX
          rcases hpost with ⟨hy, rfl⟩ | ⟨hy, s', X, hres, rfl, hbk, hX⟩
          · have HY := Aside0.mk hy
            clear hy
            obtain ⟨e0, e1, e2, e3, g0, g1, g2, g3⟩ := cells4 HK4.out
            go_wp2
            obtain ⟨m0, m1, m2, m3, _⟩ := cells4 (set4 (a' := .int .i64 0) (b' := .int .u64 0) (c' := .int .i64 0) (d' := .pointer (some ⟨g, 0, none⟩)) HK4.out)
            refine bodyPost_ret (v := .agg (choice 0 none (some ⟨g, 0, none⟩))) (by simp [results, Try.results32, go_sem, m0, m1, m2, m3, choice, z74]) rfl ⟨(set4b (t := 0) (a := undef) (b := undef) (c := undef) (d := undef) HBf.out (by omega)), .inr (.inr (.inl ⟨HPB.out, HO.out, HY.out, rfl⟩))⟩
          · have HY := Aside0.mk hy
            have HRES := Aside0.mk hres
            have HBK := Aside0.mk hbk
            have hsa : 1 ≤ s'.a ∧ s'.a ≤ 28 := (hres.inv hq hs).1
            have HSM := Aside0.mk (mode_some hres.wanted)
            have hs0 : ((s'.a : Int) == 0) = false := beq_eq_false_iff_ne.2 (by omega)
            clear hy hres hbk
            go_wp2_with fail
            rw [HN.out]
            refine (first_mode w4 A cc xs HR4.out (by have := HN.out; omega) HWX.out (s'.a : Int) (by omega)).mono ?_
            rintro e w5 ⟨⟨im, rfl, him⟩, hb5⟩
            rw [← HN.out]
            rcases him with ⟨_, hn⟩ | ⟨j, hj, hjl, hf⟩
            · have := HSM.out; rw [hn] at this; cases this
            subst hj
            have HK5 := Aside0.mk (HK4.out.below hb5)
            have HB5 := Aside0.mk (HBf.out.trans (hb5.mono HBf.out.size))
            have HBK5 := Aside0.mk (HBK.out.below hb5)
            obtain ⟨ad, rfl, h0, h1, _, _⟩ := at_T74 (cells_below HR4.out hb5) (j : Int) (by omega) (by omega)
            rw [Int.toNat_natCast] at h0 h1
            have hj0 : (0 : Int) ≤ (j : Int) := by omega
            have hj1 : (j : Int) < (i : Int) := by have := HN.out; omega
            have hfm := fst_memQ hf
            obtain ⟨x, hxx⟩ : ∃ x, x = rd_T74 xs (j : Int) := ⟨_, rfl⟩
            rw [← hxx] at h0 h1 hf hfm
            have hxm : x.f1 = (s'.a : Int) := by
              have := hfm.2
              unfold qMode at this
              rw [Bool.and_eq_true] at this
              exact of_decide_eq_true this.2
            have HFF := Aside0.mk hf
            have HXM := Aside0.mk hxm
            clear hb5 hf hxx hfm hxm h1
            obtain ⟨e0, e1, e2, e3, g0, g1, g2, g3⟩ := cells4 HK5.out
            go_wp2
            obtain ⟨m0, m1, m2, m3, _⟩ := cells4 (set4 (a' := .int .i64 3) (b' := .int .u64 x.f0) (c' := .int .i64 (s'.a : Int)) (d' := .pointer (some ⟨X, 0, none⟩)) HK5.out)
            refine bodyPost_ret (v := .agg #[.int .i64 3, .int .u64 x.f0, .int .i64 (s'.a : Int), .pointer (some ⟨X, 0, none⟩)]) (by simp [results, Try.results32, go_sem, m0, m1, m2, m3]) rfl ⟨(set4b (t := 0) (a := undef) (b := undef) (c := undef) (d := undef) HB5.out (by omega)), .inr (.inr (.inr ⟨HPB.out, HO.out, HY.out, s', X, HRES.out, HSM.out, ?_, ((((HBK5.out.set_other (by omega) _ _).set_other (by omega) _ _).set_other (by omega) _ _).set_other (by omega) _ _), by omega⟩))⟩
            rw [HFF.out, choice, ← HXM.out]
            rfl
    · have HO := Aside0.mk ho
      have hio : 0 ≤ io := by
        rcases HIO.out with ⟨_, hn⟩ | ⟨j, hj, _, _⟩
        · rw [hn] at ho; cases ho
        · omega
      have hvl : iv < 0 ∨ last = 1 := by
        rcases HIV.out with ⟨h, _⟩ | ⟨j, hj, _, hf⟩
        · left; omega
        · right; unfold pickB at hpb; rw [hf, ho] at hpb; simpa using hpb
      clear hpb ho
      rcases hvl with hl | hl
      · have hvb : ¬ (0 ≤ iv) := by omega
        rcases HIO.out with ⟨hneg, _⟩ | ⟨j, hj, hjl, hf⟩
        · omega
        subst hj
        obtain ⟨ad, rfl, h0, h1, _, _⟩ := at_T74 HR2.out (j : Int) (by omega) (by omega)
        rw [Int.toNat_natCast] at h0 h1
        have hj0 : (0 : Int) ≤ (j : Int) := by omega
        have hj1 : (j : Int) < (n : Int) := by have := HN.out; omega
        obtain ⟨x, hxx⟩ : ∃ x, x = rd_T74 xs (j : Int) := ⟨_, rfl⟩
        rw [← hxx] at h0 h1 hf
        have HF := Aside0.mk hf
        clear hf hxx
        obtain ⟨e0, e1, e2, e3, g0, g1, g2, g3⟩ := cells4 HK2.out
        go_wp2_with fail
        go_still_tail 12, (by kernel_rfl)
        change wpList _ _ _ _ _ w2.drew
        go_wp2
        obtain ⟨m0, m1, m2, m3, _⟩ := cells4 (set4 (a' := .int .i64 2) (b' := .int .u64 x.f0) (c' := .int .i64 x.f1) (d' := .pointer (some ⟨g, 0, none⟩)) HK2.out)
        refine bodyPost_ret (v := .agg (choice 2 (some x) (some ⟨g, 0, none⟩))) (by simp [results, Try.results32, go_sem, m0, m1, m2, m3, choice]) rfl ⟨(set4b (t := 0) (a := undef) (b := undef) (c := undef) (d := undef) HB2.out (by omega)).drew, ?_⟩
        rw [HF.out]
        exact .inr (.inl ⟨HPB.out, rfl, rfl⟩)
      · subst hl
        by_cases hv : 0 ≤ iv
        · rcases HIO.out with ⟨hneg, _⟩ | ⟨j, hj, hjl, hf⟩
          · omega
          subst hj
          obtain ⟨ad, rfl, h0, h1, _, _⟩ := at_T74 HR2.out (j : Int) (by omega) (by omega)
          rw [Int.toNat_natCast] at h0 h1
          have hj0 : (0 : Int) ≤ (j : Int) := by omega
          have hj1 : (j : Int) < (n : Int) := by have := HN.out; omega
          obtain ⟨x, hxx⟩ : ∃ x, x = rd_T74 xs (j : Int) := ⟨_, rfl⟩
          rw [← hxx] at h0 h1 hf
          have HF := Aside0.mk hf
          clear hf hxx
          obtain ⟨e0, e1, e2, e3, g0, g1, g2, g3⟩ := cells4 HK2.out
          go_wp2_with fail
          go_still_tail 12, (by kernel_rfl)
          change wpList _ _ _ _ _ w2.drew
          go_wp2
          obtain ⟨m0, m1, m2, m3, _⟩ := cells4 (set4 (a' := .int .i64 2) (b' := .int .u64 x.f0) (c' := .int .i64 x.f1) (d' := .pointer (some ⟨g, 0, none⟩)) HK2.out)
          refine bodyPost_ret (v := .agg (choice 2 (some x) (some ⟨g, 0, none⟩))) (by simp [results, Try.results32, go_sem, m0, m1, m2, m3, choice]) rfl ⟨(set4b (t := 0) (a := undef) (b := undef) (c := undef) (d := undef) HB2.out (by omega)).drew, ?_⟩
          rw [HF.out]
          exact .inr (.inl ⟨HPB.out, rfl, rfl⟩)
        · rcases HIO.out with ⟨hneg, _⟩ | ⟨j, hj, hjl, hf⟩
          · omega
          subst hj
          obtain ⟨ad, rfl, h0, h1, _, _⟩ := at_T74 HR2.out (j : Int) (by omega) (by omega)
          rw [Int.toNat_natCast] at h0 h1
          have hj0 : (0 : Int) ≤ (j : Int) := by omega
          have hj1 : (j : Int) < (n : Int) := by have := HN.out; omega
          obtain ⟨x, hxx⟩ : ∃ x, x = rd_T74 xs (j : Int) := ⟨_, rfl⟩
          rw [← hxx] at h0 h1 hf
          have HF := Aside0.mk hf
          clear hf hxx
          obtain ⟨e0, e1, e2, e3, g0, g1, g2, g3⟩ := cells4 HK2.out
          go_wp2_with fail
          go_still_tail 12, (by kernel_rfl)
          change wpList _ _ _ _ _ w2.drew
          go_wp2
          obtain ⟨m0, m1, m2, m3, _⟩ := cells4 (set4 (a' := .int .i64 2) (b' := .int .u64 x.f0) (c' := .int .i64 x.f1) (d' := .pointer (some ⟨g, 0, none⟩)) HK2.out)
          refine bodyPost_ret (v := .agg (choice 2 (some x) (some ⟨g, 0, none⟩))) (by simp [results, Try.results32, go_sem, m0, m1, m2, m3, choice]) rfl ⟨(set4b (t := 0) (a := undef) (b := undef) (c := undef) (d := undef) HB2.out (by omega)).drew, ?_⟩
          rw [HF.out]
          exact .inr (.inl ⟨HPB.out, rfl, rfl⟩)
  · have HPB := Aside0.mk hpb
    have hv : 0 ≤ iv := by
      rcases HIV.out with ⟨_, hn⟩ | ⟨j, hj, _, _⟩
      · unfold pickB at hpb; rw [hn] at hpb; simp at hpb
      · omega
    have hlo : last ≠ 1 ∨ io < 0 := by
      rcases HIO.out with ⟨h, _⟩ | ⟨j, hj, _, hf⟩
      · right; omega
      · left; unfold pickB at hpb; rw [hf] at hpb; simp at hpb; exact hpb.2
    clear hpb
    rcases hlo with hl | hl
    · have hlb : (last == 1) = false := by simpa using hl
      clear hl
      rcases HIV.out with ⟨hneg, _⟩ | ⟨j, hj, hjl, hf⟩
      · omega
      subst hj
      obtain ⟨ad, rfl, h0, h1, _, _⟩ := at_T74 HR2.out (j : Int) (by omega) (by omega)
      rw [Int.toNat_natCast] at h0 h1
      have hj0 : (0 : Int) ≤ (j : Int) := by omega
      have hj1 : (j : Int) < (n : Int) := by have := HN.out; omega
      obtain ⟨x, hxx⟩ : ∃ x, x = rd_T74 xs (j : Int) := ⟨_, rfl⟩
      rw [← hxx] at h0 h1 hf
      have HF := Aside0.mk hf
      clear hf hxx
      obtain ⟨e0, e1, e2, e3, g0, g1, g2, g3⟩ := cells4 HK2.out
      go_wp2_with fail
      go_still_tail 12, (by kernel_rfl)
      change wpList _ _ _ _ _ w2.drew
      go_wp2
      obtain ⟨m0, m1, m2, m3, _⟩ := cells4 (set4 (a' := .int .i64 1) (b' := .int .u64 x.f0) (c' := .int .i64 x.f1) (d' := .pointer (some ⟨g, 0, none⟩)) HK2.out)
      refine bodyPost_ret (v := .agg (choice 1 (some x) (some ⟨g, 0, none⟩))) (by simp [results, Try.results32, go_sem, m0, m1, m2, m3, choice]) rfl ⟨(set4b (t := 0) (a := undef) (b := undef) (c := undef) (d := undef) HB2.out (by omega)).drew, ?_⟩
      rw [HF.out]
      exact .inl ⟨HPB.out, rfl⟩
    · by_cases hl1 : last = 1
      · subst hl1
        have hob : decide (0 ≤ io) = false := decide_eq_false (by omega)
        have hob2 : ¬ (0 ≤ io) := by omega
        rcases HIV.out with ⟨hneg, _⟩ | ⟨j, hj, hjl, hf⟩
        · omega
        subst hj
        obtain ⟨ad, rfl, h0, h1, _, _⟩ := at_T74 HR2.out (j : Int) (by omega) (by omega)
        rw [Int.toNat_natCast] at h0 h1
        have hj0 : (0 : Int) ≤ (j : Int) := by omega
        have hj1 : (j : Int) < (n : Int) := by have := HN.out; omega
        obtain ⟨x, hxx⟩ : ∃ x, x = rd_T74 xs (j : Int) := ⟨_, rfl⟩
        rw [← hxx] at h0 h1 hf
        have HF := Aside0.mk hf
        clear hf hxx
        obtain ⟨e0, e1, e2, e3, g0, g1, g2, g3⟩ := cells4 HK2.out
        go_wp2_with fail
        go_still_tail 12, (by kernel_rfl)
        change wpList _ _ _ _ _ w2.drew
        go_wp2
        obtain ⟨m0, m1, m2, m3, _⟩ := cells4 (set4 (a' := .int .i64 1) (b' := .int .u64 x.f0) (c' := .int .i64 x.f1) (d' := .pointer (some ⟨g, 0, none⟩)) HK2.out)
        refine bodyPost_ret (v := .agg (choice 1 (some x) (some ⟨g, 0, none⟩))) (by simp [results, Try.results32, go_sem, m0, m1, m2, m3, choice]) rfl ⟨(set4b (t := 0) (a := undef) (b := undef) (c := undef) (d := undef) HB2.out (by omega)).drew, ?_⟩
        rw [HF.out]
        exact .inl ⟨HPB.out, rfl⟩
      · have hlb : (last == 1) = false := by simpa using hl1
        clear hl1
        rcases HIV.out with ⟨hneg, _⟩ | ⟨j, hj, hjl, hf⟩
        · omega
        subst hj
        obtain ⟨ad, rfl, h0, h1, _, _⟩ := at_T74 HR2.out (j : Int) (by omega) (by omega)
        rw [Int.toNat_natCast] at h0 h1
        have hj0 : (0 : Int) ≤ (j : Int) := by omega
        have hj1 : (j : Int) < (n : Int) := by have := HN.out; omega
        obtain ⟨x, hxx⟩ : ∃ x, x = rd_T74 xs (j : Int) := ⟨_, rfl⟩
        rw [← hxx] at h0 h1 hf
        have HF := Aside0.mk hf
        clear hf hxx
        obtain ⟨e0, e1, e2, e3, g0, g1, g2, g3⟩ := cells4 HK2.out
        go_wp2_with fail
        go_still_tail 12, (by kernel_rfl)
        change wpList _ _ _ _ _ w2.drew
        go_wp2
        obtain ⟨m0, m1, m2, m3, _⟩ := cells4 (set4 (a' := .int .i64 1) (b' := .int .u64 x.f0) (c' := .int .i64 x.f1) (d' := .pointer (some ⟨g, 0, none⟩)) HK2.out)
        refine bodyPost_ret (v := .agg (choice 1 (some x) (some ⟨g, 0, none⟩))) (by simp [results, Try.results32, go_sem, m0, m1, m2, m3, choice]) rfl ⟨(set4b (t := 0) (a := undef) (b := undef) (c := undef) (d := undef) HB2.out (by omega)).drew, ?_⟩
        rw [HF.out]
        exact .inl ⟨HPB.out, rfl⟩
end Go.Proofs.Ytcmcgjjhbjlkpaa.Pk
