import Derived.Test.YtcmcgjjhbjlkpaaPkL
namespace Go.Proofs.Ytcmcgjjhbjlkpaa.Pk
open Go.RowKit Go.Shelf Go.Proofs.Ytcmcgjjhbjlkpaa.Rw Go.Proofs.YtcmcgjjhbjlkpaaW.PrintWords Go.Proofs.YtcmcgjjhbjlkpaaW.PrintLast Go.Proofs.YtcmcgjjhbjlkpaaW.PrintMore Go.Proofs.Ytcmcgjjhbjlkpaa.PPickPlays Go.Proofs.Ytcmcgjjhbjlkpaa.Air
set_option linter.unusedVariables false
set_option linter.unusedSimpArgs false
/-! ### PickFair -/
theorem at_turn {w : World} {A : Option Addr} {n : Nat} {ls : List (List S74)} (h : Kd.C (Kd.slice 74 k74) w A n ls) (i : Nat) (h1 : i < n) : ∃ ad A0 c0, A = some ad ∧ w.cell? (ad.add i) = some (.slice A0 (ls.getD i []).length c0) ∧ (ls.getD i []).length ≤ c0 ∧ Kd.C k74 w A0 (ls.getD i []).length (ls.getD i []) := by
  obtain ⟨ad, c, e, _, hK, hc0⟩ := Kd.C_get h ([] : List S74) (i : Int) (by omega) (by omega)
  have hc : ∀ j u, c[j]? = some u → w.cell? (ad.add (i * 1 + j)) = some u := hc0
  obtain ⟨A0, c0, rfl, l0, g0⟩ := hK
  exact ⟨ad, A0, c0, e, by have hq := hc 0 _ rfl; rwa [Nat.mul_one, Nat.add_zero] at hq, l0, g0⟩
def norm (x : S74) : S74 := ⟨1 + x.f0 % 50, 1 + x.f1.tmod 28 % 28, x.f2, x.f3⟩
theorem norm_take {xs : List S74} {k : Nat} (h : k < xs.length) : (xs.take (k + 1)).map norm = (xs.take k).map norm ++ [norm (rd_T74 xs (k : Int))] := by
  unfold rd_T74
  rw [List.take_succ_eq_append_getElem h, List.map_append]
  simp [List.getD_eq_getElem?_getD, h]
theorem tmod28 (x : Int) : -27 ≤ x.tmod 28 ∧ x.tmod 28 ≤ 27 := by
  have h1 := Int.tmod_lt_of_pos x (show (0 : Int) < 28 by decide)
  have h2 := Int.lt_tmod_of_pos x (show (0 : Int) < 28 by decide)
  omega
theorem norm_ok {x : S74} (h : 0 ≤ x.f0) : cnt (norm x) = true ∧ 1 ≤ (norm x).f0 := by
  have := tmod28 x.f1
  have h1 : 0 < 1 + x.f0 % 50 := by omega
  have h2 : 1 ≤ 1 + x.f1.tmod 28 % 28 := by omega
  have h3 : 1 + x.f1.tmod 28 % 28 ≤ 28 := by omega
  refine ⟨?_, by show 1 ≤ 1 + x.f0 % 50; omega⟩
  show (decide (0 < 1 + x.f0 % 50) && (decide (1 ≤ 1 + x.f1.tmod 28 % 28) && decide (1 + x.f1.tmod 28 % 28 ≤ 28))) = true
  rw [decide_eq_true h1, decide_eq_true h2, decide_eq_true h3]
  rfl
theorem fst_mem {p : S74 → Bool} {l : List S74} {y : S74} (h : fst p l = some y) : y ∈ l ∧ p y = true := by
  have key : ∀ (l : List S74) (acc : Option S74), (∀ z, acc = some z → z ∈ l ∧ p z = true ∨ True) → ∀ y, l.foldl (fstep p) acc = some y → acc = some y ∨ (y ∈ l ∧ p y = true) := by
    intro l
    induction l with
    | nil => intro acc _ y h; exact .inl h
    | cons x l ih =>
      intro acc _ y h
      rw [List.foldl_cons] at h
      rcases ih _ (fun _ _ => .inr trivial) y h with h | ⟨h1, h2⟩
      · unfold fstep at h
        split at h
        · rename_i hp
          obtain rfl := Option.some.inj h
          exact .inr ⟨List.mem_cons_self, by simp at hp; exact hp.1⟩
        · exact .inl h
      · exact .inr ⟨List.mem_cons_of_mem _ h1, h2⟩
  rcases key l none (fun _ _ => .inr trivial) y h with h | h
  · cases h
  · exact h
def isB (L : List S74) (no mode : Int) : Bool := L.any (fun x => decide (x.f0 = no) && decide (x.f1 = mode))
def noOf (acc : Option S74) : Int := (acc.getD z74).f0
/-- What is fair in a pick. -/
def FairOk (L : List S74) (last pk no mode : Int) : Prop :=
  (pk = 0 ∧ L = [] ∧ noOf (fst qVoice L) = 0 ∧ noOf (fst qOld L) = 0) ∨
  (pk = 1 ∧ L ≠ [] ∧ isB L no mode = true ∧ no = noOf (fst qVoice L) ∧ 0 < noOf (fst qVoice L) ∧ (0 < noOf (fst qOld L) → last ≠ 1)) ∨
  (pk = 2 ∧ L ≠ [] ∧ isB L no mode = true ∧ no = noOf (fst qOld L) ∧ 0 < noOf (fst qOld L) ∧ (0 < noOf (fst qVoice L) → last = 1)) ∨
  (pk = 3 ∧ L ≠ [] ∧ isB L no mode = true ∧ noOf (fst qVoice L) = 0 ∧ noOf (fst qOld L) = 0)
theorem isB_of {L : List S74} {p : S74 → Bool} {y : S74} (h : fst p L = some y) : isB L y.f0 y.f1 = true := by
  unfold isB
  rw [List.any_eq_true]
  exact ⟨y, (fst_mem h).1, by simp⟩
theorem noOf_pos {L : List S74} {p : S74 → Bool} (hL : ∀ x ∈ L, cnt x = true ∧ 1 ≤ x.f0) : 0 < noOf (fst p L) ↔ (fst p L).isSome = true := by
  cases h : fst p L with
  | none => simp [noOf, z74]
  | some y => have := (hL y (fst_mem h).1).2; simp [noOf]; omega
theorem noOf_zero {L : List S74} {p : S74 → Bool} (h : (fst p L).isSome = false) : noOf (fst p L) = 0 := by
  cases h' : fst p L with
  | none => rfl
  | some y => rw [h'] at h; cases h
theorem fair_sum {W w3 : World} {g : Nat} {s : St} {L : List S74} {last : Int} {c wt : Int → Int} {e : Ending} (hs : Inv s) (hd : Bk W g 109 (dcells 5000 s.D (s.a : Int) s.f)) (hL : ∀ x ∈ L, cnt x = true ∧ 1 ≤ x.f0) (h : PickPost W g 5000 s L last c wt e w3) :
    ∃ pk no mode g' s', e = .returned (.agg #[.int .i64 pk, .int .u64 no, .int .i64 mode, .pointer (some ⟨g', 0, none⟩)]) ∧ Inv s' ∧ Bk w3 g' 109 (dcells 5000 s'.D (s'.a : Int) s'.f) ∧ Below W.heap.size W w3 ∧ FairOk L last pk no mode := by
  obtain ⟨hb, ⟨h1, rfl⟩ | ⟨h1, h2, rfl⟩ | ⟨h1, h2, h3, rfl⟩ | ⟨h1, h2, h3, s', X, hres, hsm, rfl, hbk, hX⟩⟩ := h
  · refine ⟨_, _, _, g, s, rfl, hs, hd.below hb, hb, .inr (.inl ?_)⟩
    unfold pickB at h1
    rw [Bool.and_eq_true] at h1
    obtain ⟨h1, h2⟩ := h1
    obtain ⟨y, hy⟩ := Option.isSome_iff_exists.1 h1
    have hp := (noOf_pos (p := qVoice) hL).2 h1
    refine ⟨rfl, ?_, ?_, rfl, hp, fun ho => ?_⟩
    · intro e; rw [e] at hy; cases hy
    · rw [hy]; exact isB_of hy
    · have := (noOf_pos (p := qOld) hL).1 ho
      rw [this] at h2
      simpa using h2
  · refine ⟨_, _, _, g, s, rfl, hs, hd.below hb, hb, .inr (.inr (.inl ?_))⟩
    obtain ⟨y, hy⟩ := Option.isSome_iff_exists.1 h2
    have hp := (noOf_pos (p := qOld) hL).2 h2
    refine ⟨rfl, ?_, ?_, rfl, hp, fun hv => ?_⟩
    · intro e; rw [e] at hy; cases hy
    · rw [hy]; exact isB_of hy
    · have := (noOf_pos (p := qVoice) hL).1 hv
      unfold pickB at h1
      rw [this, h2] at h1
      simpa using h1
  · refine ⟨_, _, _, g, s, rfl, hs, hd.below hb, hb, .inl ?_⟩
    have hLn : L = [] := by
      cases L with
      | nil => rfl
      | cons x L =>
        have hx := (hL x List.mem_cons_self).1
        have hc := hx
        unfold ysOf wantL at h3
        rw [List.filter_cons, if_pos hx, List.map_cons, List.filter_cons] at h3
        unfold cnt at hc
        simp at hc
        rw [if_pos (by simp [inR]; omega)] at h3
        simp at h3
    subst hLn
    exact ⟨rfl, rfl, rfl, rfl⟩
  · refine ⟨_, _, _, X, s', rfl, hres.inv (by decide) hs, hbk, hb, .inr (.inr (.inr ?_))⟩
    obtain ⟨y, hy⟩ := Option.isSome_iff_exists.1 hsm
    refine ⟨rfl, ?_, ?_, ?_, noOf_zero h2⟩
    · intro e; rw [e] at hy; cases hy
    · rw [hy]; exact isB_of hy
    · refine noOf_zero ?_
      unfold pickB at h1
      rw [h2] at h1
      simpa using h1
theorem info74 : (Try.prog.info? 74).map (fun i => (i.zero, i.size, i.bytes)) = some (some (.agg #[.int .u64 0, .int .i64 0, .bool false, .bool false]), 4, 24) := by kernel_rfl
set_option maxHeartbeats 8000000 in
set_option maxRecDepth 100000 in
theorem fair (w : World) (A0 : Option Addr) (m c : Nat) (ls : List (List S74)) (hr : Kd.C (Kd.slice 74 k74) w A0 m ls) (hm : m ≤ 9223372036854775807) (hw : ∀ l ∈ ls, ∀ x ∈ l, 0 ≤ x.f0) (hlen : ∀ l ∈ ls, l.length ≤ 9223372036854775807) :
    Calls Try.prog 8 #[.slice A0 m c] w fun e w' => e = .returned (.bool true) ∧ Below w.heap.size w w' := by
  have HR := Aside0.mk hr
  have HW := Aside0.mk hw
  have HLN := Aside0.mk hlen
  have hml := hr.1
  have HML := Aside0.mk hml
  clear hr hw hlen hml
  go_enter Try.func8, Try.ntmps8
  go_wp2_with fail
  refine (New_ok w).mono ?_
  rintro e w1 ⟨rfl, rfl⟩
  have HD0 := Aside0.mk (Bk.new w 109 (dcells 5000 s0.D (s0.a : Int) s0.f))
  have HB0 := Aside0.mk ((Below.refl w.heap.size w).alloc (Nat.le_refl _) (.cells (dcells 5000 (fun _ => 0) 1 false) 109))
  go_wp2_with fail
  go_loopw [3, 4, 5, 6] (fun v3 v4 v5 v6 wr => ∃ (i g : Nat) (last : Int) (wt : Bool), i ≤ m ∧ v6 = .int .i64 i ∧ v3 = .pointer (some ⟨g, 0, none⟩) ∧ v4 = .int .i64 last ∧ v5 = .bool wt ∧ Aside0 (∃ s, Inv s ∧ Bk wr g 109 (dcells 5000 s.D (s.a : Int) s.f)) ∧ Aside0 (wt = true → last = 1) ∧ Aside0 (Below w.heap.size w wr)) (fun _ _ _ v6 _ => m - (intOf v6).toNat)
  case atStart => exact ⟨0, w.heap.size, 0, false, by omega, rfl, rfl, rfl, rfl, ⟨s0, s0_inv, HD0.out⟩, ⟨by simp⟩, HB0⟩
  case round =>
    obtain ⟨i, g, last, wt, hi, rfl, rfl, rfl, rfl, HS, HWL, HB⟩ := hrel
    by_cases hlt : i < m
    · by_cases h20 : i < 20
      · obtain ⟨wo, rfl⟩ : ∃ wo : World, wo = wr := ⟨_, rfl⟩
        have h20i : decide ((i : Int) < 20) = true := by simp; omega
        obtain ⟨ad, B0, c0, rfl, hsl, hc0, hC⟩ := at_turn HR.out i hlt
        have hmem : ls.getD i [] ∈ ls := by
          have : i < ls.length := by rw [HML.out]; exact hlt
          rw [List.getD_eq_getElem?_getD, List.getElem?_eq_getElem this]; exact List.getElem_mem this
        have HX0 := Aside0.mk (HW.out _ hmem)
        have hxl := HLN.out _ hmem
        obtain ⟨xs, hxs⟩ : ∃ xs, xs = ls.getD i [] := ⟨_, rfl⟩
        rw [← hxs] at hsl hc0 hC HX0 hxl
        clear hmem hxs
        obtain ⟨n, hn⟩ : ∃ n, n = xs.length := ⟨_, rfl⟩
        have HN := Aside0.mk hn
        have HC := Aside0.mk (cells_below hC HB.out)
        replace hsl := cell_below hsl HB.out
        rw [← hn] at hsl hc0 hxl
        clear hC hn
        go_upto_block 2 with (fail)
        go_cut [7] (fun v7 wc => ∃ k : Nat, k ≤ n ∧ k ≤ 12 ∧ Aside0 (Kd.R k74 74 wc wo.heap.size (fun _ => True) v7 ((xs.take k).map norm)) ∧ Aside0 (Below wo.heap.size wo wc))
        case first => as_aux_lemma =>
          go_wp2_with fail
          go_loopw [7, 8] (fun v7 v8 wr => ∃ k : Nat, k ≤ n ∧ k ≤ 12 ∧ v8 = .int .i64 k ∧ Aside0 (Kd.R k74 74 wr wo.heap.size (fun _ => True) v7 ((xs.take k).map norm)) ∧ Aside0 (Below wo.heap.size wo wr)) (fun _ v8 _ => 12 - (intOf v8).toNat)
          case atStart => exact ⟨0, by omega, by omega, rfl, ⟨Kd.R_nil _ _ _ _ _⟩, ⟨Below.refl _ _⟩⟩
          case round =>
            obtain ⟨k, hkn, hk12, rfl, HRk, HBk⟩ := hrel
            have hsl2 := cell_below hsl HBk.out
            by_cases hkl : k < n
            · by_cases hk2 : k < 12
              · have hk2i : decide ((k : Int) < 12) = true := by simp; omega
                obtain ⟨ae, rfl, h0, h1, h2, h3⟩ := at_T74 HC.out (k : Int) (by omega) (by rw [← HN.out]; omega)
                rw [Int.toNat_natCast] at h0 h1 h2 h3
                have HT := Aside0.mk (norm_take (xs := xs) (k := k) (by rw [← HN.out]; exact hkl))
                have hmx : rd_T74 xs (k : Int) ∈ xs := by
                  have : k < xs.length := by rw [← HN.out]; exact hkl
                  unfold rd_T74
                  rw [List.getD_eq_getElem?_getD, Int.toNat_natCast, List.getElem?_eq_getElem this]; exact List.getElem_mem this
                have hx0 := HX0.out _ hmx
                obtain ⟨x, hx⟩ : ∃ x, x = rd_T74 xs (k : Int) := ⟨_, rfl⟩
                rw [← hx] at h0 h1 h2 h3 HT hx0
                clear hx hmx
                replace h0 := cell_below h0 HBk.out
                replace h1 := cell_below h1 HBk.out
                replace h2 := cell_below h2 HBk.out
                replace h3 := cell_below h3 HBk.out
                have htm := tmod28 x.f1
                obtain ⟨L, hL⟩ : ∃ L, L = (xs.take k).map norm := ⟨_, rfl⟩
                have hLl : L.length ≤ 12 := by rw [hL]; simp; omega
                rw [← hL] at HRk HT
                clear hL
                go_wp2_with ((with_reducible refine gate_builtin (b := .append) (xs := #[.tmp 60, .tmp 62]) rfl ?_); at_builtin; apply Aside0.out)
                refine ⟨?_⟩
                refine Kd.R_append k74 (w0 := wo) wo.heap.size rfl (.tmp 60) (.tmp 62) 61 74 (.agg #[.int .u64 0, .int .i64 0, .bool false, .bool false]) 24 rfl Try.underlying61 info74 rfl (by decide) (by omega) u7 L (norm x) [.int .u64 (1 + x.f0 % 50), .int .i64 (1 + x.f1.tmod 28 % 28), .bool x.f2, .bool x.f3] (fun _ => True) (fun _ => False) rfl ?aX (k74_mkM _ _ _ (norm x)) (fun _ hk => hk.elim) (fun _ _ => trivial) (Kd.R_alloc HRk.out _) (HBk.out.alloc HBk.out.size _) (by have := HBk.out.size; simp; omega) (by omega) ?_
                case aX => rw [World.size_alloc]; rfl
                intro v1 w2 ho hb2 hg2 hat2
                have HR2 := Aside0.mk ho
                have HB2 := Aside0.mk hb2
                clear ho hb2 hg2 hat2 h0 h1 h2 h3
                go_wp2
                go_roundw
                case rel => exact ⟨k + 1, by omega, by omega, by go_num, ⟨by rw [HT.out]; exact HR2.out⟩, HB2⟩
                case measure => simp [intOf]; omega
              · go_wp2_with fail
                go_meet
                exact ⟨k, hkn, hk12, HRk, HBk⟩
            · go_wp2_with fail
              go_meet
              exact ⟨k, hkn, hk12, HRk, HBk⟩
        case rest =>
          obtain ⟨k, hkn, hk12, HRk, HBk⟩ := hcut
          obtain ⟨s, hsi, hsd⟩ := HS.out
          obtain ⟨L, hL⟩ : ∃ L, L = (xs.take k).map norm := ⟨_, rfl⟩
          have hLl : L.length ≤ 12 := by rw [hL]; simp; omega
          have HLA := Aside0.mk (show ∀ x ∈ L, cnt x = true ∧ 1 ≤ x.f0 from fun x hx => by
            rw [hL] at hx
            obtain ⟨y, hy, rfl⟩ := List.mem_map.1 hx
            exact norm_ok (HX0.out y (List.mem_of_mem_take hy)))
          rw [← hL] at HRk
          have HSI := Aside0.mk hsi
          have HSD := Aside0.mk (hsd.below HBk.out)
          obtain ⟨A7, c7, rfl, hc7, hC7⟩ := Kd.R_reads HRk.out
          have HBc := Aside0.mk (HB.out.trans (HBk.out.mono HB.out.size))
          obtain ⟨kk, hkk⟩ : ∃ kk, kk = L.length := ⟨_, rfl⟩
          have HKK := Aside0.mk hkk
          have HC7 := Aside0.mk hC7
          rw [← hkk] at hc7 hLl ⊢
          clear hsi hsd hL hC7 hkk HRk HC HX0 hsl hc0 hxl
          go_wp2_with fail
          refine (same_new _ _).mono ?_
          rintro e w2 ⟨rfl, rfl⟩
          go_wp2_with fail
          refine (same_new _ _).mono ?_
          rintro e w2 ⟨rfl, rfl⟩
          go_wp2_with fail
          obtain ⟨W2, eW2⟩ : ∃ W2, W2 = allocs wc [.cells #[.int .i64 2000] 3, .cells #[.int .i64 2] 3] := ⟨_, rfl⟩
          have HBW : Aside0 (Below wc.heap.size wc W2) := ⟨by rw [eW2]; exact allocs_below _ _⟩
          have HP0 : Aside0 (Bk W2 wc.heap.size 3 _) := ⟨by rw [eW2]; exact allocs_get _ _ 0 _ rfl⟩
          have HP1 : Aside0 (Bk W2 (wc.heap.size + 1) 3 _) := ⟨by rw [eW2]; exact allocs_get _ _ 1 _ rfl⟩
          simp only [allocs] at eW2
          rw [← eW2]
          clear eW2
          rw [HKK.out]
          refine (Pick_ok W2 A7 c7 L (cells_below HC7.out HBW.out) (by have := HKK.out; omega) last g 5000 (by decide) s HSI.out (HSD.out.below HBW.out) _ _ (fun _ => 2000) (fun _ => 2) (.inl ⟨_, _, _, _, rfl, rfl, HP0.out.cell 0, HP1.out.cell 0, rfl, rfl⟩)).mono ?_
          rintro e w3 hp
          obtain ⟨pk, no, mode, g', s', he, hi', hbk', hb3, hfo⟩ := fair_sum HSI.out (HSD.out.below HBW.out) HLA.out hp
          subst he
          clear hp
          rw [← HKK.out]
          have HBK' := Aside0.mk hbk'
          have HI' := Aside0.mk hi'
          have HB3 := Aside0.mk (HBc.out.trans ((HBW.out.trans (hb3.mono HBW.out.size)).mono HBc.out.size))
          have HC3 := Aside0.mk (cells_below (cells_below HC7.out HBW.out) hb3)
          have HFO := Aside0.mk hfo
          clear hbk' hi' hb3 hfo HP0 HP1 HBW HC7 HBc HSD HSI
          go_upto_block 4 with (fail)
          obtain ⟨W4, eW4⟩ : ∃ W4, W4 = w3.alloc (.cells #[.int .i64 pk, .int .u64 no, .int .i64 mode, .pointer (some ⟨g', 0, none⟩)] 63) := ⟨_, rfl⟩
          have HB34 : Aside0 (Below w3.heap.size w3 W4) := ⟨by rw [eW4]; exact (Below.refl _ _).alloc (Nat.le_refl _) _⟩
          have HP4 : Aside0 (Bk W4 w3.heap.size 63 #[.int .i64 pk, .int .u64 no, .int .i64 mode, .pointer (some ⟨g', 0, none⟩)]) := ⟨by rw [eW4]; exact Bk.new _ _ _⟩
          have HC4 := Aside0.mk (cells_below HC3.out HB34.out)
          rw [← eW4]
          clear eW4 HC3
          go_cut [11, 12, 13] (fun v11 v12 v13 wx => v11 = .int .u64 (noOf (fst qOld L)) ∧ v12 = .int .u64 (noOf (fst qVoice L)) ∧ v13 = .bool (isB L no mode) ∧ Aside0 (Below W4.heap.size W4 wx))
          case first => as_aux_lemma =>
            go_wp2_with fail
            go_loopw [11, 12, 13, 14] (fun v11 v12 v13 v14 wr => ∃ j : Nat, j ≤ kk ∧ v14 = .int .i64 j ∧ v11 = .int .u64 (noOf (fst qOld (L.take j))) ∧ v12 = .int .u64 (noOf (fst qVoice (L.take j))) ∧ v13 = .bool (isB (L.take j) no mode) ∧ Aside0 (Below W4.heap.size W4 wr)) (fun _ _ _ v14 _ => kk - (intOf v14).toNat)
            case atStart => exact ⟨0, by omega, rfl, rfl, rfl, rfl, ⟨Below.refl _ _⟩⟩
            case round =>
              obtain ⟨j, hj, rfl, rfl, rfl, rfl, HBj⟩ := hrel
              by_cases hjl : j < kk
              · obtain ⟨ae, rfl, h0, h1, h2, h3⟩ := at_T74 HC4.out (j : Int) (by omega) (by rw [← HKK.out]; omega)
                rw [Int.toNat_natCast] at h0 h1 h2 h3
                have hmx : rd_T74 L (j : Int) ∈ L := by
                  have : j < L.length := by rw [← HKK.out]; exact hjl
                  unfold rd_T74
                  rw [List.getD_eq_getElem?_getD, Int.toNat_natCast, List.getElem?_eq_getElem this]; exact List.getElem_mem this
                have HXC := Aside0.mk (HLA.out _ hmx).1
                obtain ⟨x, hx⟩ : ∃ x, x = rd_T74 L (j : Int) := ⟨_, rfl⟩
                have HXX := Aside0.mk hx
                rw [← hx] at h0 h1 h2 h3 HXC
                clear hx hmx
                replace h0 := cell_below h0 HBj.out
                replace h1 := cell_below h1 HBj.out
                replace h2 := cell_below h2 HBj.out
                replace h3 := cell_below h3 HBj.out
                go_upto_block 5 with (fail)
                go_step
                go_step
                go_cut [11] (fun v11 wx => v11 = .int .u64 (noOf (fst qOld (L.take (j + 1)))) ∧ wx = wr)
                case first =>
                  have HT := Aside0.mk (fst_take (p := qOld) (l := L) (i := j) (by rw [← HKK.out]; exact hjl))
                  rw [← HXX.out] at HT
                  obtain ⟨acc, hacc⟩ : ∃ acc, acc = fst qOld (L.take j) := ⟨_, rfl⟩
                  have HAC := Aside0.mk (show ∀ y, acc = some y → 1 ≤ y.f0 from fun y hy => (HLA.out y (List.mem_of_mem_take (fst_mem (by rw [← hacc]; exact hy)).1)).2)
                  rw [← hacc] at HT ⊢
                  clear hacc
                  cases hf : x.f3
                  · have HQ := Aside0.mk (show fstep qOld acc x = acc by simp [fstep, qOld, hf])
                    rw [hf] at h3
                    go_wp2_with fail
                    go_meet
                    exact ⟨by rw [HT.out, HQ.out], rfl⟩
                  · rw [hf] at h3
                    rcases acc with _ | y
                    · have HQ := Aside0.mk (show fstep qOld none x = some x by simp [fstep, qOld, hf, HXC.out])
                      rw [show noOf none = 0 from rfl]
                      go_wp2_with fail
                      go_meet
                      exact ⟨by rw [HT.out, HQ.out]; rfl, rfl⟩
                    · have hy1 := HAC.out y rfl
                      rw [show noOf (some y) = y.f0 from rfl]
                      have hy0 : (y.f0 == 0) = false := beq_eq_false_iff_ne.2 (by omega)
                      by_cases hxy : x.f0 < y.f0
                      · have HQ := Aside0.mk (show fstep qOld (some y) x = some x by simp [fstep, qOld, hf, HXC.out, hxy])
                        go_wp2_with fail
                        go_meet
                        exact ⟨by rw [HT.out, HQ.out]; rfl, rfl⟩
                      · have HQ := Aside0.mk (show fstep qOld (some y) x = some y by simp [fstep, qOld, hf, HXC.out, hxy])
                        go_wp2_with fail
                        go_meet
                        exact ⟨by rw [HT.out, HQ.out]; rfl, rfl⟩
                case rest =>
                  obtain ⟨rfl, hwx⟩ := hcut
                  subst hwx
                  rename_i hKc
                  refine hKc _ _ ?_
                  clear hKc
                  go_step
                  go_cut [12] (fun v12 wx => v12 = .int .u64 (noOf (fst qVoice (L.take (j + 1)))) ∧ wx = wc)
                  case first =>
                    have HT := Aside0.mk (fst_take (p := qVoice) (l := L) (i := j) (by rw [← HKK.out]; exact hjl))
                    rw [← HXX.out] at HT
                    obtain ⟨acc, hacc⟩ : ∃ acc, acc = fst qVoice (L.take j) := ⟨_, rfl⟩
                    have HAC := Aside0.mk (show ∀ y, acc = some y → 1 ≤ y.f0 from fun y hy => (HLA.out y (List.mem_of_mem_take (fst_mem (by rw [← hacc]; exact hy)).1)).2)
                    rw [← hacc] at HT ⊢
                    clear hacc
                    cases hf : x.f2
                    · have HQ := Aside0.mk (show fstep qVoice acc x = acc by simp [fstep, qVoice, hf])
                      rw [hf] at h2
                      go_wp2_with fail
                      go_meet
                      exact ⟨by rw [HT.out, HQ.out], rfl⟩
                    · rw [hf] at h2
                      rcases acc with _ | y
                      · have HQ := Aside0.mk (show fstep qVoice none x = some x by simp [fstep, qVoice, hf, HXC.out])
                        rw [show noOf none = 0 from rfl]
                        go_wp2_with fail
                        go_meet
                        exact ⟨by rw [HT.out, HQ.out]; rfl, rfl⟩
                      · have hy1 := HAC.out y rfl
                        rw [show noOf (some y) = y.f0 from rfl]
                        have hy0 : (y.f0 == 0) = false := beq_eq_false_iff_ne.2 (by omega)
                        by_cases hxy : x.f0 < y.f0
                        · have HQ := Aside0.mk (show fstep qVoice (some y) x = some x by simp [fstep, qVoice, hf, HXC.out, hxy])
                          go_wp2_with fail
                          go_meet
                          exact ⟨by rw [HT.out, HQ.out]; rfl, rfl⟩
                        · have HQ := Aside0.mk (show fstep qVoice (some y) x = some y by simp [fstep, qVoice, hf, HXC.out, hxy])
                          go_wp2_with fail
                          go_meet
                          exact ⟨by rw [HT.out, HQ.out]; rfl, rfl⟩
                  case rest =>
                    obtain ⟨rfl, hwx⟩ := hcut
                    subst hwx
                    go_upto_region 25 with (fail)
                    have HT := Aside0.mk (show isB (L.take (j + 1)) no mode = (isB (L.take j) no mode || (decide (x.f0 = no) && decide (x.f1 = mode))) from by
                      rw [HXX.out]
                      unfold isB rd_T74
                      rw [List.take_succ_eq_append_getElem (by rw [← HKK.out]; exact hjl), List.any_append]
                      have : j < L.length := by rw [← HKK.out]; exact hjl
                      simp [List.getD_eq_getElem?_getD, this])
                    obtain ⟨b, hb⟩ : ∃ b, b = isB (L.take j) no mode := ⟨_, rfl⟩
                    rw [← hb] at HT ⊢
                    clear hb
                    have p1 : wc.cell? ⟨w3.heap.size, 1, none⟩ = some (Value.int .u64 no) := cell_below (HP4.out.cell 1) HBj.out
                    have p2 : wc.cell? ⟨w3.heap.size, 2, none⟩ = some (Value.int .i64 mode) := cell_below (HP4.out.cell 2) HBj.out
                    have hj0 : (0 : Int) ≤ (j : Int) := by omega
                    have hj1 : (j : Int) < (kk : Int) := by omega
                    cases b
                    · by_cases e1 : x.f0 = no
                      · have e1b : (x.f0 == no) = true := by simpa using e1
                        by_cases e2 : x.f1 = mode
                        · have e2b : (x.f1 == mode) = true := by simpa using e2
                          have HE := Aside0.mk (show (false || (decide (x.f0 = no) && decide (x.f1 = mode))) = true by simp [e1, e2])
                          clear e1 e2
                          go_quiet (fail)
                          go_wp2_with fail
                          refine ⟨⟨j + 1, by omega, by go_num, rfl, rfl, by rw [HT.out, HE.out], ⟨pw_below_drewN HBj.out _⟩⟩, ?_⟩
                          simp [intOf]
                          omega
                        · have e2b : (x.f1 == mode) = false := by simpa using e2
                          have HE := Aside0.mk (show (false || (decide (x.f0 = no) && decide (x.f1 = mode))) = false by simp [e1, e2])
                          clear e1 e2
                          go_quiet (fail)
                          go_wp2_with fail
                          refine ⟨⟨j + 1, by omega, by go_num, rfl, rfl, by rw [HT.out, HE.out], ⟨pw_below_drewN HBj.out _⟩⟩, ?_⟩
                          simp [intOf]
                          omega
                      · have e1b : (x.f0 == no) = false := by simpa using e1
                        have HE := Aside0.mk (show (false || (decide (x.f0 = no) && decide (x.f1 = mode))) = false by simp [e1])
                        clear e1
                        go_quiet (fail)
                        go_wp2_with fail
                        refine ⟨⟨j + 1, by omega, by go_num, rfl, rfl, by rw [HT.out, HE.out], ⟨pw_below_drewN HBj.out _⟩⟩, ?_⟩
                        simp [intOf]
                        omega
                    · clear h0 h1 h2 h3 p1 p2
                      go_quiet (fail)
                      go_wp2_with fail
                      refine ⟨⟨j + 1, by omega, by go_num, rfl, rfl, by rw [HT.out]; rfl, ⟨pw_below_drewN HBj.out _⟩⟩, ?_⟩
                      simp [intOf]
                      omega
              · go_wp2_with fail
                go_meet
                obtain rfl : j = kk := by omega
                rw [HKK.out, List.take_length]
                exact ⟨rfl, rfl, rfl, HBj⟩
          case rest =>
            obtain ⟨rfl, rfl, rfl, HBx⟩ := hcut
            have p0 : wc.cell? ⟨w3.heap.size, 0, none⟩ = some (Value.int .i64 pk) := cell_below (HP4.out.cell 0) HBx.out
            have p1 : wc.cell? ⟨w3.heap.size, 1, none⟩ = some (Value.int .u64 no) := cell_below (HP4.out.cell 1) HBx.out
            have p3 : wc.cell? ⟨w3.heap.size, 3, none⟩ = some (Value.pointer (some ⟨g', 0, none⟩)) := cell_below (HP4.out.cell 3) HBx.out
            have HBF := Aside0.mk (HB3.out.trans ((HB34.out.trans (HBx.out.mono HB34.out.size)).mono HB3.out.size))
            have HBK := Aside0.mk ((HBK'.out.below HB34.out).below HBx.out)
            have hfo := HFO.out
            unfold FairOk at hfo
            obtain ⟨V, eV⟩ : ∃ V, V = noOf (fst qVoice L) := ⟨_, rfl⟩
            obtain ⟨O, eO⟩ : ∃ O, O = noOf (fst qOld L) := ⟨_, rfl⟩
            obtain ⟨bi, ebi⟩ : ∃ bi, bi = isB L no mode := ⟨_, rfl⟩
            rw [← eV, ← eO, ← ebi] at hfo ⊢
            clear eV eO ebi HFO HC4 HLA
            rcases hfo with ⟨rfl, hL, rfl, rfl⟩ | ⟨rfl, hL, rfl, rfl, hV, hO⟩ | ⟨rfl, hL, rfl, rfl, hO, hV⟩ | ⟨rfl, hL, rfl, rfl, rfl⟩
            · obtain rfl : kk = 0 := by rw [HKK.out, hL]; rfl
              clear hL
              cases wt
              · as_aux_lemma =>
                  go_wp2_with fail
                  refine ⟨⟨i + 1, g', 0, false, by omega, by go_num, rfl, rfl, rfl, ⟨s', HI'.out, HBK.out⟩, ⟨by simp⟩, HBF⟩, ?_⟩
                  simp [intOf]
                  omega
              · as_aux_lemma =>
                  go_wp2_with fail
                  refine ⟨⟨i + 1, g', 0, false, by omega, by go_num, rfl, rfl, rfl, ⟨s', HI'.out, HBK.out⟩, ⟨by simp⟩, HBF⟩, ?_⟩
                  simp [intOf]
                  omega
            · have hk0 : 0 < kk := by
                have : 0 < L.length := List.length_pos_iff.2 hL
                rw [HKK.out]; exact this
              have hk1 : ((kk : Int) == 0) = false := beq_eq_false_iff_ne.2 (by omega)
              clear hL
              by_cases hO0 : 0 < O
              · cases wt
                · as_aux_lemma =>
                    go_wp2_with fail
                    refine ⟨⟨i + 1, g', 1, true, by omega, by go_num, rfl, rfl, rfl, ⟨s', HI'.out, HBK.out⟩, ⟨by simp⟩, HBF⟩, ?_⟩
                    simp [intOf]
                    omega
                · exact absurd (HWL.out rfl) (hO hO0)
              · cases wt
                · as_aux_lemma =>
                    go_wp2_with fail
                    refine ⟨⟨i + 1, g', 1, false, by omega, by go_num, rfl, rfl, rfl, ⟨s', HI'.out, HBK.out⟩, ⟨by simp⟩, HBF⟩, ?_⟩
                    simp [intOf]
                    omega
                · as_aux_lemma =>
                    go_wp2_with fail
                    refine ⟨⟨i + 1, g', 1, false, by omega, by go_num, rfl, rfl, rfl, ⟨s', HI'.out, HBK.out⟩, ⟨by simp⟩, HBF⟩, ?_⟩
                    simp [intOf]
                    omega
            · have hk0 : 0 < kk := by
                have : 0 < L.length := List.length_pos_iff.2 hL
                rw [HKK.out]; exact this
              have hk1 : ((kk : Int) == 0) = false := beq_eq_false_iff_ne.2 (by omega)
              clear hL
              by_cases hV0 : 0 < V
              · have hl1 := hV hV0
                subst hl1
                cases wt
                · as_aux_lemma =>
                    go_wp2_with fail
                    refine ⟨⟨i + 1, g', 2, false, by omega, by go_num, rfl, rfl, rfl, ⟨s', HI'.out, HBK.out⟩, ⟨by simp⟩, HBF⟩, ?_⟩
                    simp [intOf]
                    omega
                · as_aux_lemma =>
                    go_wp2_with fail
                    refine ⟨⟨i + 1, g', 2, false, by omega, by go_num, rfl, rfl, rfl, ⟨s', HI'.out, HBK.out⟩, ⟨by simp⟩, HBF⟩, ?_⟩
                    simp [intOf]
                    omega
              · cases wt
                · as_aux_lemma =>
                    go_wp2_with fail
                    refine ⟨⟨i + 1, g', 2, false, by omega, by go_num, rfl, rfl, rfl, ⟨s', HI'.out, HBK.out⟩, ⟨by simp⟩, HBF⟩, ?_⟩
                    simp [intOf]
                    omega
                · as_aux_lemma =>
                    go_wp2_with fail
                    refine ⟨⟨i + 1, g', 2, false, by omega, by go_num, rfl, rfl, rfl, ⟨s', HI'.out, HBK.out⟩, ⟨by simp⟩, HBF⟩, ?_⟩
                    simp [intOf]
                    omega
            · have hk0 : 0 < kk := by
                have : 0 < L.length := List.length_pos_iff.2 hL
                rw [HKK.out]; exact this
              have hk1 : ((kk : Int) == 0) = false := beq_eq_false_iff_ne.2 (by omega)
              clear hL
              cases wt
              · as_aux_lemma =>
                  go_wp2_with fail
                  refine ⟨⟨i + 1, g', 3, false, by omega, by go_num, rfl, rfl, rfl, ⟨s', HI'.out, HBK.out⟩, ⟨by simp⟩, HBF⟩, ?_⟩
                  simp [intOf]
                  omega
              · as_aux_lemma =>
                  go_wp2_with fail
                  refine ⟨⟨i + 1, g', 3, false, by omega, by go_num, rfl, rfl, rfl, ⟨s', HI'.out, HBK.out⟩, ⟨by simp⟩, HBF⟩, ?_⟩
                  simp [intOf]
                  omega
      · have HBW := Aside0.mk HB.out
        go_wp2_with fail
        refine (works wr).mono ?_
        rintro e w3 ⟨rfl, hB⟩
        have HB3 := Aside0.mk (HBW.out.trans (hB.mono HBW.out.size))
        clear hB
        go_wp2
        go_ret
        exact ⟨rfl, HB3.out⟩
    · have HBW := Aside0.mk HB.out
      go_wp2_with fail
      refine (works wr).mono ?_
      rintro e w3 ⟨rfl, hB⟩
      have HB3 := Aside0.mk (HBW.out.trans (hB.mono HBW.out.size))
      clear hB
      go_wp2
      go_ret
      exact ⟨rfl, HB3.out⟩
end Go.Proofs.Ytcmcgjjhbjlkpaa.Pk
