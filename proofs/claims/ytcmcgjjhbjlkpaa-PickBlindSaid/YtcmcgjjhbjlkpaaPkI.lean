import Derived.Test.YtcmcgjjhbjlkpaaPkH
namespace Go.Proofs.Ytcmcgjjhbjlkpaa.Pk
open Go.RowKit Go.Shelf Go.Proofs.Ytcmcgjjhbjlkpaa.Rw Go.Proofs.YtcmcgjjhbjlkpaaW.PrintWords Go.Proofs.YtcmcgjjhbjlkpaaW.PrintLast Go.Proofs.YtcmcgjjhbjlkpaaW.PrintMore Go.Proofs.Ytcmcgjjhbjlkpaa.PPickPlays Go.Proofs.Ytcmcgjjhbjlkpaa.Air
set_option linter.unusedVariables false
set_option linter.unusedSimpArgs false
set_option maxHeartbeats 4000000 in
set_option maxRecDepth 100000 in
theorem old_rule (w : World) (p12 p7 p13 : Nat) (acc : Option S74) (h12 : Bk w p12 74 (fcells acc)) (d : Option Addr) (h7 : w.cell? ⟨p7, 0, none⟩ = some (.pointer d)) (wt : Bool) (h13 : w.cell? ⟨p13, 0, none⟩ = some (.bool wt)) :
    Calls Try.prog 65 #[.pointer (some ⟨p12, 0, none⟩), .pointer (some ⟨p7, 0, none⟩), .pointer (some ⟨p13, 0, none⟩)] w fun e w' =>
      e = .returned (.tuple #[.agg (choice 2 acc d), .bool wt]) ∧ Below w.heap.size w w' := by
  obtain ⟨c0, c1, _, _, _⟩ := cells4 h12
  have m12 := h12.lt
  have m7 : p7 < w.heap.size := World.block_lt_of_cell? w _ h7
  have m13 : p13 < w.heap.size := World.block_lt_of_cell? w _ h13
  clear h12
  go_enter Try.func65, Try.ntmps65
  go_wp2_with fail
  go_region
  go_wp2
  refine bodyPost_ret (v := .tuple #[.agg (choice 2 acc d), .bool wt]) (by simp [results, Try.results65, go_sem, choice]) rfl ⟨rfl, ?_⟩
  exact ((Below.refl _ _).alloc (Nat.le_refl _) _).drew
set_option maxHeartbeats 4000000 in
set_option maxRecDepth 100000 in
theorem none_rule (w : World) (p7 : Nat) (d : Option Addr) (h7 : w.cell? ⟨p7, 0, none⟩ = some (.pointer d)) :
    Calls Try.prog 69 #[.pointer (some ⟨p7, 0, none⟩)] w fun e w' =>
      e = .returned (.tuple #[.agg (choice 0 none d), .bool true]) ∧ Below w.heap.size w w' := by
  have m7 : p7 < w.heap.size := World.block_lt_of_cell? w _ h7
  go_enter Try.func69, Try.ntmps69
  go_wp2
  refine bodyPost_ret (v := .tuple #[.agg (choice 0 none d), .bool true]) (by simp [results, Try.results69, go_sem, choice, z74]) rfl ⟨rfl, ?_⟩
  exact (Below.refl _ _).alloc (Nat.le_refl _) _
/-! ### The share -/
def wantL (xs : List S74) : List Int := (xs.filter cnt).map (·.f1)
theorem wantL_take {xs : List S74} {k : Nat} (h : k < xs.length) : wantL (xs.take (k + 1)) = wantL (xs.take k) ++ if cnt (rd_T74 xs (k : Int)) then [(rd_T74 xs (k : Int)).f1] else [] := by
  unfold wantL rd_T74
  rw [List.take_succ_eq_append_getElem h, List.filter_append, List.map_append]
  congr 1
  simp only [List.getD_eq_getElem?_getD, h, List.filter_cons, List.filter_nil, List.getElem?_eq_getElem, Option.getD_some, Int.toNat_natCast]
  split <;> rfl
theorem wantL_len (xs : List S74) (k : Nat) : (wantL (xs.take k)).length ≤ k := by
  have := List.length_filter_le cnt (xs.take k)
  simp [wantL] at *
  omega
theorem info3' : (Try.prog.info? 3).map (fun i => (i.zero, i.size, i.bytes)) = some (some (.int .i64 0), 1, 8) := by kernel_rfl
def SharePost (w : World) (g : Nat) (q : Int) (s : St) (xs : List S74) (c wt : Int → Int) (e : Ending) (w' : World) : Prop :=
  Below w.heap.size w w' ∧ ((ysOf (wantL xs) = [] ∧ e = .returned (.tuple #[.agg (choice 3 (fst (qMode 0) xs) (some ⟨g, 0, none⟩)), .bool (fst (qMode 0) xs).isSome])) ∨
    (ysOf (wantL xs) ≠ [] ∧ ∃ s' X, Res q (wdOf (ysOf (wantL xs))) c wt s s' ∧ e = .returned (.tuple #[.agg (choice 3 (fst (qMode (s'.a : Int)) xs) (some ⟨X, 0, none⟩)), .bool (fst (qMode (s'.a : Int)) xs).isSome]) ∧ Bk w' X 109 (dcells q s'.D (s'.a : Int) s'.f) ∧ w.heap.size ≤ X))
set_option maxHeartbeats 4000000 in
set_option maxRecDepth 100000 in
theorem share_rule (w : World) (pl p11 p7 p8 p9 : Nat) (A : Option Addr) (cc : Nat) (xs : List S74) (h : Cands w pl p11 A cc xs) (hx : xs.length ≤ 1000000) (g : Nat) (h7 : w.cell? ⟨p7, 0, none⟩ = some (.pointer (some ⟨g, 0, none⟩)))
    (q : Int) (hq : 1000 ≤ q ∧ q ≤ 1000000) (s : St) (hs : Inv s) (hd : Bk w g 109 (dcells q s.D (s.a : Int) s.f)) (fc fw : Value) (c wt : Int → Int) (hf : FnP w fc fw c wt) (h8 : w.cell? ⟨p8, 0, none⟩ = some fc) (h9 : w.cell? ⟨p9, 0, none⟩ = some fw) :
    Calls Try.prog 66 #[.pointer (some ⟨pl, 0, none⟩), .pointer (some ⟨p7, 0, none⟩), .pointer (some ⟨p8, 0, none⟩), .pointer (some ⟨p9, 0, none⟩), .pointer (some ⟨p11, 0, none⟩)] w (SharePost w g q s xs c wt) := by
  have HC0 := Aside0.mk (Bk.new w 63 chz)
  have HB0 := Aside0.mk ((Below.refl w.heap.size w).alloc (Nat.le_refl _) (.cells chz 63))
  have HL := Aside0.mk h
  have hl := h.l
  have ml : pl < w.heap.size := World.block_lt_of_cell? w _ hl
  obtain ⟨n, hn⟩ : ∃ n, n = xs.length := ⟨_, rfl⟩
  have HN := Aside0.mk hn
  rw [← hn] at hl hx
  have H7 := Aside0.mk h7
  have H8 := Aside0.mk h8
  have H9 := Aside0.mk h9
  have HF := Aside0.mk hf
  have HD := Aside0.mk hd
  clear h h7 h8 h9 hf hd hn
  go_enter Try.func66, Try.ntmps66
  go_wp2_with fail
  go_loopw [7, 16] (fun v7 v16 wr => ∃ i : Nat, i ≤ n ∧ v16 = .int .i64 i ∧ Aside0 (Kd.R (Kd.int .i64) 3 wr w.heap.size (fun _ => True) v7 (wantL (xs.take i))) ∧ Aside0 (Below w.heap.size w wr) ∧ Aside0 (Bk wr w.heap.size 63 chz)) (fun _ v16 _ => n - (intOf v16).toNat)
  case atStart => exact ⟨0, by omega, rfl, ⟨Kd.R_nil _ _ _ _ _⟩, HB0, HC0⟩
  case round =>
    obtain ⟨i, hi, rfl, HR, HB, HC⟩ := hrel
    by_cases hlt : i < n
    · obtain ⟨ad, rfl, h0, h1, h2, h3⟩ := at_T74 HL.out.r (i : Int) (by omega) (by rw [← HN.out]; omega)
      rw [Int.toNat_natCast] at h0 h1 h2 h3
      have HT := Aside0.mk (wantL_take (xs := xs) (k := i) (by rw [← HN.out]; exact hlt))
      have hwl := wantL_len xs i
      obtain ⟨x, hx⟩ : ∃ x, x = rd_T74 xs (i : Int) := ⟨_, rfl⟩
      rw [← hx] at h0 h1 h2 h3 HT
      clear hx
      have hb := HB.out
      replace h0 := cell_below h0 hb
      replace h1 := cell_below h1 hb
      replace h2 := cell_below h2 hb
      replace h3 := cell_below h3 hb
      obtain ⟨L, hL⟩ : ∃ L, L = wantL (xs.take i) := ⟨_, rfl⟩
      rw [← hL] at HR HT hwl
      clear hb hL
      go_wp2_with fail
      refine (counts_ok x.f0 x.f1 x.f2 x.f3 _).mono ?_
      rintro e w1 ⟨rfl, hb1⟩
      obtain ⟨a0, a1, a2, a3, _⟩ := cells4 ((Bk.new wr 74 #[Value.int IntKind.u64 x.f0, Value.int IntKind.i64 x.f1, Value.bool x.f2, Value.bool x.f3]).below hb1)
      have HC1 := Aside0.mk ((HC.out.alloc (Obj.cells #[Value.int IntKind.u64 x.f0, Value.int IntKind.i64 x.f1, Value.bool x.f2, Value.bool x.f3] 74)).below hb1)
      have HR1 := Aside0.mk (Kd.R_below (Kd.R_alloc HR.out (Obj.cells #[Value.int IntKind.u64 x.f0, Value.int IntKind.i64 x.f1, Value.bool x.f2, Value.bool x.f3] 74)) hb1)
      have HB1 := Aside0.mk (HB.out.trans (((Below.refl _ wr).alloc (Nat.le_refl _) (Obj.cells #[Value.int IntKind.u64 x.f0, Value.int IntKind.i64 x.f1, Value.bool x.f2, Value.bool x.f3] 74)).trans (hb1.mono (by simp)) |>.mono HB.out.size))
      have hws : wr.heap.size < w1.heap.size := World.block_lt_of_cell? _ _ a0
      clear h0 h1 h2 h3 hb1 HC HR
      rw [show (⟨x.f0, x.f1, x.f2, x.f3⟩ : S74) = x from rfl]
      cases hc : cnt x
      · have HS := Aside0.mk (show (if cnt x = true then [x.f1] else []) = ([] : List Int) by rw [hc]; rfl)
        clear a0 a1 a2 a3 hc
        go_wp2
        refine ⟨⟨i + 1, by omega, by go_num, ⟨by rw [HT.out, HS.out, List.append_nil]; exact HR1.out⟩, HB1, HC1⟩, ?_⟩
        simp [intOf]
        omega
      · have HS := Aside0.mk (show (if cnt x = true then [x.f1] else []) = [x.f1] by rw [hc]; rfl)
        clear hc
        go_wp2_with ((with_reducible refine gate_builtin (b := .append) (xs := #[.tmp 22, .tmp 25]) rfl ?_); at_builtin; apply Aside0.out)
        refine ⟨?_⟩
        refine Kd.R_append (Kd.int .i64) (w0 := w) w.heap.size rfl (.tmp 22) (.tmp 25) 27 3 (.int .i64 0) 8 rfl Try.underlying27 info3' rfl (by decide) (by omega) u7 L x.f1 [.int .i64 x.f1] (fun _ => True) (fun _ => False) rfl rfl rfl (fun _ hk => hk.elim) (fun _ _ => trivial) HR1.out HB1.out HB1.out.size (by omega) ?_
        intro v1 w2 ho hb2 hg2 hat2
        have HR2 := Aside0.mk ho
        have HB2 := Aside0.mk hb2
        have HC2 := Aside0.mk (show Bk w2 w.heap.size 63 chz from (hg2.block _ HC1.out.lt (fun e => by have hq := Kd.R_ne HR1.out HC1.out (by decide); exact hq e)).trans HC1.out)
        clear ho hb2 hg2 hat2
        go_wp2
        refine ⟨⟨i + 1, by omega, by go_num, ⟨by rw [HT.out, HS.out]; exact HR2.out⟩, HB2, HC2⟩, ?_⟩
        simp [intOf]
        omega
    · obtain rfl : i = n := by omega
      rw [HN.out, List.take_length] at HR
      obtain ⟨A2, c2, rfl, hc2, hC2⟩ := Kd.R_reads HR.out
      have HNX := Aside0.mk (Next_ok wr g q hq s hs (HD.out.below HB.out) A2 c2 (wantL xs) (by have := wantL_len xs xs.length; rw [List.take_length] at this; have := HN.out; omega) hC2 (fun ad e => Kd.R_lt HR.out ad.block (by rw [e]; rfl)) fc fw c wt (HF.out.below HB.out))
      have h7 := cell_below H7.out HB.out
      have h8 := cell_below H8.out HB.out
      have h9 := cell_below H9.out HB.out
      have HL2 := Aside0.mk (HL.out.below HB.out)
      clear hC2 HR
      go_wp2_with fail
      refine HNX.out.mono ?_
      rintro e w1 ⟨hb, hpost⟩
      have HB1 := Aside0.mk (HB.out.trans (hb.mono HB.out.size))
      have HC1 := Aside0.mk (HC.out.below hb)
      have HL1 := Aside0.mk (HL2.out.below hb)
      have hwr : w.heap.size < wr.heap.size := HC.out.lt
      clear hb h7 h8 h9 HNX HC HB HL2
      rcases hpost with ⟨hy, rfl⟩ | ⟨hy, s', X, hres, rfl, hbk, hX⟩
      · have HY := Aside0.mk hy
        clear hy
        obtain ⟨W2, eW2⟩ : ∃ W2, W2 = w1.alloc (.cells #[.int .i64 (0)] 3) := ⟨_, rfl⟩
        have HB2 : Aside0 (Below w1.heap.size w1 W2) := ⟨by rw [eW2]; exact (Below.refl _ w1).alloc (Nat.le_refl _) _⟩
        have HM : Aside0 (W2.cell? ⟨w1.heap.size, 0, none⟩ = some (.int .i64 (0))) := ⟨by rw [eW2]; exact World.cell?_alloc_new ..⟩
        have hf := HL1.out.f
        have hfl : p11 < w1.heap.size := World.block_lt_of_cell? _ _ hf
        have HW2 := Aside0.mk eW2
        clear eW2
        go_wp2_with fail
        rw [← HW2.out]
        refine (some_ok W2 A cc xs (HL1.out.below HB2.out).r (HL1.out.below HB2.out).m ⟨pl, 0, none⟩ (HL1.out.below HB2.out).l _ (fun x => decide (x.f1 = (0))) (.inr (.inr ⟨_, _, rfl, HM.out, rfl⟩)) rfl).mono ?_
        rintro e w3 ⟨rfl, hb3⟩
        rw [show (fun x => cnt x && (fun x : S74 => decide (x.f1 = (0))) x) = qMode (0) from rfl]
        obtain ⟨acc, eacc⟩ : ∃ acc, acc = fst (qMode (0)) xs := ⟨_, rfl⟩
        have HA := Aside0.mk eacc
        rw [← eacc]
        have HB3 := Aside0.mk (HB1.out.trans ((HB2.out.trans (hb3.mono HB2.out.size)).mono HB1.out.size))
        have HBX := Aside0.mk (HB2.out.trans (hb3.mono HB2.out.size))
        have HC3 := Aside0.mk (HC1.out.below HBX.out)
        clear hb3 hf hfl eacc
        obtain ⟨c0, c1, c2, c3, f0, f1, f2, f3⟩ := cells4 HC3.out
        have l0 := HC3.out.lt
        rw [fcells]
        go_wp2
        obtain ⟨d0, d1, d2, d3, _⟩ := cells4 (((set4 (a' := .int .i64 3) (b' := .int .u64 (acc.getD z74).f0) (c' := .int .i64 (acc.getD z74).f1) (d' := .pointer (some ⟨g, 0, none⟩)) HC3.out).alloc (.cells #[Value.int IntKind.u64 (acc.getD z74).f0, Value.int IntKind.i64 (acc.getD z74).f1, Value.bool (acc.getD z74).f2, Value.bool (acc.getD z74).f3] 74)))
        refine bodyPost_ret (v := .tuple #[.agg (choice 3 acc (some ⟨g, 0, none⟩)), .bool acc.isSome]) (by simp [results, Try.results66, go_sem, d0, d1, d2, d3, choice]) rfl ⟨((set4b (t := 0) (a := undef) (b := undef) (c := undef) (d := undef) HB3.out (Nat.le_refl _)).alloc (by simp [World.setCell]; omega) _), ?_⟩
        exact .inl ⟨HY.out, by rw [← HA.out]⟩
      · have HY := Aside0.mk hy
        have HRES := Aside0.mk hres
        have HBK := Aside0.mk hbk
        have hXw : w.heap.size < X := by omega
        clear hy hres hbk
        obtain ⟨W2, eW2⟩ : ∃ W2, W2 = w1.alloc (.cells #[.int .i64 ((s'.a : Int))] 3) := ⟨_, rfl⟩
        have HB2 : Aside0 (Below w1.heap.size w1 W2) := ⟨by rw [eW2]; exact (Below.refl _ w1).alloc (Nat.le_refl _) _⟩
        have HM : Aside0 (W2.cell? ⟨w1.heap.size, 0, none⟩ = some (.int .i64 ((s'.a : Int)))) := ⟨by rw [eW2]; exact World.cell?_alloc_new ..⟩
        have hf := HL1.out.f
        have hfl : p11 < w1.heap.size := World.block_lt_of_cell? _ _ hf
        have HW2 := Aside0.mk eW2
        clear eW2
        go_wp2_with fail
        rw [← HW2.out]
        refine (some_ok W2 A cc xs (HL1.out.below HB2.out).r (HL1.out.below HB2.out).m ⟨pl, 0, none⟩ (HL1.out.below HB2.out).l _ (fun x => decide (x.f1 = ((s'.a : Int)))) (.inr (.inr ⟨_, _, rfl, HM.out, rfl⟩)) rfl).mono ?_
        rintro e w3 ⟨rfl, hb3⟩
        rw [show (fun x => cnt x && (fun x : S74 => decide (x.f1 = ((s'.a : Int)))) x) = qMode ((s'.a : Int)) from rfl]
        obtain ⟨acc, eacc⟩ : ∃ acc, acc = fst (qMode ((s'.a : Int))) xs := ⟨_, rfl⟩
        have HA := Aside0.mk eacc
        rw [← eacc]
        have HB3 := Aside0.mk (HB1.out.trans ((HB2.out.trans (hb3.mono HB2.out.size)).mono HB1.out.size))
        have HBX := Aside0.mk (HB2.out.trans (hb3.mono HB2.out.size))
        have HC3 := Aside0.mk (HC1.out.below HBX.out)
        clear hb3 hf hfl eacc
        obtain ⟨c0, c1, c2, c3, f0, f1, f2, f3⟩ := cells4 HC3.out
        have l0 := HC3.out.lt
        rw [fcells]
        go_wp2
        obtain ⟨d0, d1, d2, d3, _⟩ := cells4 (((set4 (a' := .int .i64 3) (b' := .int .u64 (acc.getD z74).f0) (c' := .int .i64 (acc.getD z74).f1) (d' := .pointer (some ⟨X, 0, none⟩)) HC3.out).alloc (.cells #[Value.int IntKind.u64 (acc.getD z74).f0, Value.int IntKind.i64 (acc.getD z74).f1, Value.bool (acc.getD z74).f2, Value.bool (acc.getD z74).f3] 74)))
        refine bodyPost_ret (v := .tuple #[.agg (choice 3 acc (some ⟨X, 0, none⟩)), .bool acc.isSome]) (by simp [results, Try.results66, go_sem, d0, d1, d2, d3, choice]) rfl ⟨((set4b (t := 0) (a := undef) (b := undef) (c := undef) (d := undef) HB3.out (Nat.le_refl _)).alloc (by simp [World.setCell]; omega) _), ?_⟩
        refine .inr ⟨HY.out, s', X, HRES.out, by rw [← HA.out], ?_, by omega⟩
        exact ((((((HBK.out.below HBX.out).set_other (by omega) _ _).set_other (by omega) _ _).set_other (by omega) _ _).set_other (by omega) _ _).alloc _)
end Go.Proofs.Ytcmcgjjhbjlkpaa.Pk
