import Derived.Test.YtcmcgjjhbjlkpaaPkT
namespace Go.Proofs.Ytcmcgjjhbjlkpaa.Pk
open Go.RowKit Go.Shelf Go.Proofs.Ytcmcgjjhbjlkpaa.Rw Go.Proofs.YtcmcgjjhbjlkpaaW.PrintWords Go.Proofs.YtcmcgjjhbjlkpaaW.PrintLast Go.Proofs.YtcmcgjjhbjlkpaaW.PrintMore Go.Proofs.Ytcmcgjjhbjlkpaa.PPickPlays Go.Proofs.Ytcmcgjjhbjlkpaa.Air
set_option linter.unusedVariables false
set_option linter.unusedSimpArgs false
/-! ### PickBlind -/
def renum (i : Nat) (x : S74) : S74 := ⟨1 + x.f0 % 40 * 20 + (i : Int), x.f1, x.f2, x.f3⟩
def blindL (xs : List S74) (k : Nat) : List S74 := (List.range k).map (fun i => renum i (rd_T74 xs (i : Int)))
theorem blindL_succ (xs : List S74) (k : Nat) : blindL xs (k + 1) = blindL xs k ++ [renum k (rd_T74 xs (k : Int))] := by
  unfold blindL; rw [List.range_succ, List.map_append]; rfl
theorem blindL_len (xs : List S74) (k : Nat) : (blindL xs k).length = k := by simp [blindL]
theorem blind_alike (xs : List S74) (k : Nat) (hk : k ≤ 12) : Alike (blindL xs k) (blindL xs k) := by
  refine ⟨fun _ => Iff.rfl, fun x hx y hy e => ?_⟩
  unfold blindL at hx hy
  obtain ⟨i, hi, rfl⟩ := List.mem_map.1 hx
  obtain ⟨j, hj, rfl⟩ := List.mem_map.1 hy
  have h1 := List.mem_range.1 hi
  have h2 := List.mem_range.1 hj
  simp only [renum] at e
  have : i = j := by omega
  rw [this]
theorem info74' : (Try.prog.info? 74).map (fun i => (i.zero, i.size, i.bytes)) = some (some (.agg #[.int .u64 0, .int .i64 0, .bool false, .bool false]), 4, 24) := by kernel_rfl
theorem size74 : (Try.prog.info? 74).map (·.size) = some 4 := by kernel_rfl
theorem empty_row (w : World) : Kd.R k74 74 (w.alloc (.cells #[] 74)) w.heap.size (fun _ => True) (.slice (some ⟨w.heap.size, 0, none⟩) 0 0) [] := by
  have h2 := World.ownsRow_lit (base := w.heap.size) (e := 74) (size := 4) w #[] 0 (Nat.le_refl _) (by unfold maxLen; omega) rfl
  exact ⟨fun _ _ => trivial, [], (by simpa using h2 : (w.alloc (.cells #[] 74)).ownsRow w.heap.size 74 4 (.slice (some ⟨w.heap.size, 0, none⟩) 0 0) 0 []), Reps.none _ _⟩
theorem at_u8 {w : World} {A : Option Addr} {n : Nat} {xs : List Int} (h : Kd.C (Kd.int .u8) w A n xs) (i : Nat) (h1 : i < n) : ∃ ad, A = some ad ∧ w.cell? (ad.add i) = some (.int .u8 (xs.getD i 0)) := by
  obtain ⟨ad, c, e, _, hK, hc0⟩ := Kd.C_get h 0 (i : Int) (by omega) (by omega)
  have hc : ∀ j u, c[j]? = some u → w.cell? (ad.add (i * 1 + j)) = some u := hc0
  obtain rfl : c = [.int .u8 (xs.getD i 0)] := hK
  exact ⟨ad, e, by have := hc 0 _ rfl; rwa [Nat.mul_one, Nat.add_zero] at this⟩
theorem Pick_ok' (w : World) (A : Option Addr) (n cc : Nat) (xs : List S74) (hn : xs.length = n) (hr : Kd.C k74 w A xs.length xs) (hx : xs.length ≤ 1000000) (last : Int) (g : Nat) (q : Int) (hq : 1000 ≤ q ∧ q ≤ 1000000) (s : St) (hs : Inv s) (hd : Bk w g 109 (dcells q s.D (s.a : Int) s.f))
    (fc fw : Value) (c wt : Int → Int) (hf : FnP w fc fw c wt) :
    Calls Try.prog 31 #[.slice A n cc, .int .i64 last, .pointer (some ⟨g, 0, none⟩), fc, fw] w (PickPost w g q s xs last c wt) := by
  subst hn
  exact Pick_ok w A cc xs hr hx last g q hq s hs hd fc fw c wt hf
theorem Deficit0 (w : World) (g : Nat) (h : Bk w g 109 (dcells 5000 s0.D (s0.a : Int) s0.f)) (m : Nat) (h1 : 1 ≤ m) (h2 : m ≤ 28) :
    Calls Try.prog 34 #[.pointer (some ⟨g, 0, none⟩), .int .i64 (m : Int)] w fun e w' => e = .returned (.int .i64 0) ∧ w' = w := Deficit_ok w g 5000 s0.D (s0.a : Int) s0.f h m h1 h2
theorem Def3 (w : World) (g : Nat) (s : St) (m : Nat) (h1 : 1 ≤ m) (h2 : m ≤ 28) (v : Int) (h : (Bk w g 109 (dcells 5000 s.D (s.a : Int) s.f) ∧ v = s.D m) ∨ (Bk w g 109 (dcells 5000 s0.D (s0.a : Int) s0.f) ∧ v = 0)) :
    Calls Try.prog 34 #[.pointer (some ⟨g, 0, none⟩), .int .i64 (m : Int)] w fun e w' => e = .returned (.int .i64 v) ∧ w' = w := by
  rcases h with ⟨h, rfl⟩ | ⟨h, rfl⟩
  · exact Deficit_ok w g 5000 s.D (s.a : Int) s.f h m h1 h2
  · exact Deficit0 w g h m h1 h2
theorem R_put74 {ops : Array Oper} {rest : List Oper} {o : Oper} {a : Act} {Q : Exit → Act → World → Prop} {w0 W : World} (base : Nat) (hN : o.dst = none) (hgd : o.guard = none) (p x : Operand) (ho : o.op = .store 74 p x) {g n cap : Nat} (j : Nat) (L : List S74) (Y : S74)
    (haddr : a.eval p = .pointer (some ⟨g, j * 4, none⟩)) (hx : a.eval x = .agg #[.int .u64 Y.f0, .int .i64 Y.f1, .bool Y.f2, .bool Y.f3])
    (HO : Kd.R k74 74 W base (fun _ => True) (.slice (some ⟨g, 0, none⟩) n cap) L) (hj : j < n) (HB : Below base w0 W)
    (h : ∀ w1, Kd.R k74 74 w1 base (fun _ => True) (.slice (some ⟨g, 0, none⟩) n cap) (L.set j Y) → Below base w0 w1 → W.grownBy w1 (some g) → wpList Try.prog ops Q rest a w1) : wpList Try.prog ops Q (o :: rest) a W := by
  obtain ⟨c, hcl, hcm, hcc, _⟩ := Kd.R_elem HO z74 (j : Int) (by omega) (by omega)
  obtain rfl := k74_openM hcm
  refine Kd.R_store k74 (w0 := w0) base hN hgd 74 p x ho 74 (o' := j * 4) (j : Int) 0 L Y (.agg #[.int .u64 Y.f0, .int .i64 Y.f1, .bool Y.f2, .bool Y.f3]) [.int .u64 Y.f0, .int .i64 Y.f1, .bool Y.f2, .bool Y.f3] _ (fun _ => True) (fun _ => False) haddr rfl hx rfl size74 ?_ HO (by omega) (by omega) hcl hcc (Nat.le_refl _) (k74_mkM _ _ _ Y) (fun _ hk => hk.elim) HB h
  intro q hq
  simp at hq
  rcases hq with rfl | rfl | rfl | rfl <;> rfl
theorem Bk.grown {w W : World} {g b : Nat} {t : Nat} {cs : Array Value} (h : Bk w g t cs) (k : w.grownBy W (some b)) (hb : g ≠ b) : Bk W g t cs := (k.block g h.lt (fun e => hb (by injection e with e))).trans h
theorem getD_rd {L : List S74} {j : Nat} (h : j < L.length) : rd_T74 L (j : Int) = L[j] := by
  unfold rd_T74
  rw [Int.toNat_natCast, List.getD_eq_getElem?_getD, List.getElem?_eq_getElem h]; rfl
set_option maxHeartbeats 8000000 in
set_option maxRecDepth 100000 in
theorem blind (w : World) (A0 : Option Addr) (cm : Nat) (xs : List S74) (hr : Kd.C k74 w A0 xs.length xs) (hm : xs.length ≤ 9223372036854775807) (hw : ∀ x ∈ xs, 0 ≤ x.f0)
    (A1 : Option Addr) (c1 : Nat) (ts : List Int) (hr1 : Kd.C (Kd.int .u8) w A1 ts.length ts) (hm1 : ts.length ≤ 9223372036854775807) (hts : ∀ t ∈ ts, 0 ≤ t ∧ t ≤ 255) (last : Int) :
    Calls Try.prog 10 #[.slice A0 xs.length cm, .slice A1 ts.length c1, .int .i64 last] w fun e w' => e = .returned (.bool true) ∧ Below w.heap.size w w' := by
  have HW := Aside0.mk hw
  have HTS := Aside0.mk hts
  obtain ⟨W1, eW1⟩ : ∃ W1, W1 = w.alloc (.cells (dcells 5000 s0.D (s0.a : Int) s0.f) 109) := ⟨_, rfl⟩
  have HB1 : Aside0 (Below w.heap.size w W1) := ⟨by rw [eW1]; exact (Below.refl _ _).alloc (Nat.le_refl _) _⟩
  have HD1 : Aside0 (Bk W1 w.heap.size 109 (dcells 5000 s0.D (s0.a : Int) s0.f)) := ⟨by rw [eW1]; exact Bk.new _ _ _⟩
  have HC1 := Aside0.mk (cells_below hr HB1.out)
  have HT1 := Aside0.mk (cells_below hr1 HB1.out)
  obtain ⟨g, eg⟩ : ∃ g, g = w.heap.size := ⟨_, rfl⟩
  have HG := Aside0.mk eg
  rw [← eg] at HD1
  obtain ⟨m, em⟩ : ∃ m, m = xs.length := ⟨_, rfl⟩
  have HM := Aside0.mk em
  obtain ⟨m1, em1⟩ : ∃ m1, m1 = ts.length := ⟨_, rfl⟩
  have HM1 := Aside0.mk em1
  rw [← em] at hm ⊢
  rw [← em1] at hm1 ⊢
  have HW1 := Aside0.mk eW1
  clear hr hw hr1 hts em em1 eW1
  go_enter Try.func10, Try.ntmps10
  go_wp2_with fail
  refine (New_ok _).mono ?_
  rintro e w1 ⟨rfl, rfl⟩
  rw [show (dcells 5000 (fun _ => 0) 1 false) = dcells 5000 s0.D (s0.a : Int) s0.f from rfl, ← HW1.out, ← eg]
  clear HW1 eg
  go_upto_block 0 with (fail)
  go_cut [8] (fun v8 wc => ∃ k : Nat, k ≤ m ∧ k ≤ 12 ∧ Aside0 (Kd.R k74 74 wc W1.heap.size (fun _ => True) v8 (blindL xs k)) ∧ Aside0 (Below W1.heap.size W1 wc))
  case first => as_aux_lemma =>
    go_wp2_with fail
    go_loopw [8, 9] (fun v8 v9 wr => ∃ k : Nat, k ≤ m ∧ k ≤ 12 ∧ v9 = .int .i64 k ∧ Aside0 (Kd.R k74 74 wr W1.heap.size (fun _ => True) v8 (blindL xs k)) ∧ Aside0 (Below W1.heap.size W1 wr)) (fun _ v9 _ => 12 - (intOf v9).toNat)
    case atStart => exact ⟨0, by omega, by omega, rfl, ⟨Kd.R_nil _ _ _ _ _⟩, ⟨Below.refl _ _⟩⟩
    case round =>
      obtain ⟨k, hkm, hk12, rfl, HRk, HBk⟩ := hrel
      by_cases hkl : k < m
      · by_cases hk2 : k < 12
        · have hk2i : decide ((k : Int) < 12) = true := by simp; omega
          obtain ⟨ae, rfl, h0, h1, h2, h3⟩ := at_T74 HC1.out (k : Int) (by omega) (by rw [← HM.out]; omega)
          rw [Int.toNat_natCast] at h0 h1 h2 h3
          have hmx : rd_T74 xs (k : Int) ∈ xs := by
            have : k < xs.length := by rw [← HM.out]; exact hkl
            unfold rd_T74
            rw [List.getD_eq_getElem?_getD, Int.toNat_natCast, List.getElem?_eq_getElem this]; exact List.getElem_mem this
          have hx0 := HW.out _ hmx
          have HT := Aside0.mk (blindL_succ xs k)
          obtain ⟨x, hx⟩ : ∃ x, x = rd_T74 xs (k : Int) := ⟨_, rfl⟩
          rw [← hx] at h0 h1 h2 h3 HT hx0
          clear hx hmx
          replace h0 := cell_below h0 HBk.out
          replace h1 := cell_below h1 HBk.out
          replace h2 := cell_below h2 HBk.out
          replace h3 := cell_below h3 HBk.out
          obtain ⟨L, hL⟩ : ∃ L, L = blindL xs k := ⟨_, rfl⟩
          have hLl : L.length ≤ 12 := by rw [hL, blindL_len]; omega
          rw [← hL] at HRk HT
          clear hL
          go_wp2_with ((with_reducible refine gate_builtin (b := .append) (xs := #[.tmp 45, .tmp 47]) rfl ?_); at_builtin; apply Aside0.out)
          refine ⟨?_⟩
          refine Kd.R_append k74 (w0 := W1) W1.heap.size rfl (.tmp 45) (.tmp 47) 61 74 (.agg #[.int .u64 0, .int .i64 0, .bool false, .bool false]) 24 rfl Try.underlying61 info74' rfl (by decide) (by omega) u8 L (renum k x) [.int .u64 (1 + x.f0 % 40 * 20 + (k : Int)), .int .i64 x.f1, .bool x.f2, .bool x.f3] (fun _ => True) (fun _ => False) rfl ?aX (k74_mkM _ _ _ (renum k x)) (fun _ hk => hk.elim) (fun _ _ => trivial) (Kd.R_alloc HRk.out _) (HBk.out.alloc HBk.out.size _) (by have := HBk.out.size; simp; omega) (by omega) ?_
          case aX => rw [World.size_alloc]; rfl
          intro v1 w2 ho hb2 hg2 hat2
          have HR2 := Aside0.mk ho
          have HB2 := Aside0.mk hb2
          clear ho hb2 hg2 hat2 h0 h1 h2 h3
          go_wp2
          go_roundw
          case rel => exact ⟨k + 1, by omega, by omega, by go_num, ⟨by rw [HT.out]; exact HR2.out⟩, HB2⟩
          case measure => simp [intOf]; omega
        · go_wp2_with fail
          go_meet
          exact ⟨k, hkm, hk12, HRk, HBk⟩
      · go_wp2_with fail
        go_meet
        exact ⟨k, hkm, hk12, HRk, HBk⟩
  case rest =>
    obtain ⟨k, hkm, hk12, HRk, HBk⟩ := hcut
    have HAL := Aside0.mk (blind_alike xs k hk12)
    obtain ⟨L, hL⟩ : ∃ L, L = blindL xs k := ⟨_, rfl⟩
    have HLl : Aside0 (L.length = k) := ⟨by rw [hL, blindL_len]⟩
    rw [← hL] at HRk HAL
    clear hL
    obtain ⟨A8, c8, rfl, hc8, hC8⟩ := Kd.R_reads HRk.out
    have HC8 := Aside0.mk hC8
    rw [HLl.out] at hc8 ⊢
    clear hC8
    go_wp2_with (at_builtin; apply Aside0.out)
    refine ⟨?_⟩
    refine Kd.R_append_rows k74 (Rr := k74.K (wc.alloc (.cells #[] 74))) (w0 := wc) wc.heap.size rfl (.tmp 49) (.tmp 50) 61 74 (.agg #[.int .u64 0, .int .i64 0, .bool false, .bool false]) 24 rfl Try.underlying61 info74' rfl (by decide) (by omega) (.slice (some ⟨wc.heap.size, 0, none⟩) 0 0) [] L A8 k c8 (fun _ => True) (fun _ => False) rfl rfl (empty_row wc) (by have := cells_below HC8.out ((Below.refl _ wc).alloc (Nat.le_refl _) (.cells #[] 74)); rw [HLl.out] at this; exact this) (fun x cs h => by rw [k74_open h]; exact k74_mkM _ _ _ x) (fun _ hk => hk.elim) (fun _ _ => trivial) ((Below.refl _ wc).alloc (Nat.le_refl _) _) (by simp) (by simp; omega) ?_
    intro v1 w2 ho hb2 hg2 hat2
    rw [List.nil_append] at ho
    have HRb := Aside0.mk ho
    have HBb := Aside0.mk hb2
    clear ho hb2 hg2 hat2
    obtain ⟨Ab, cb, rfl, hcb, _⟩ := Kd.R_reads HRb.out
    rw [HLl.out] at HRb hcb ⊢
    obtain ⟨wb, ewb⟩ : ∃ wb : World, wb = wc := ⟨_, rfl⟩
    subst ewb
    go_upto_block 2 with (fail)
    go_cut [12] (fun v12 wx => ∃ L', Aside0 (Kd.R k74 74 wx wb.heap.size (fun _ => True) (.slice Ab k cb) L') ∧ Aside0 (Alike L L' ∧ L'.length = k) ∧ Aside0 (Below wb.heap.size wb wx))
    case first => as_aux_lemma =>
      go_wp2_with fail
      go_loopw [12] (fun v12 wr => ∃ i : Nat, i ≤ m1 ∧ v12 = .int .i64 i ∧ ∃ L', Aside0 (Kd.R k74 74 wr wb.heap.size (fun _ => True) (.slice Ab k cb) L') ∧ Aside0 (Alike L L' ∧ L'.length = k) ∧ Aside0 (Below wb.heap.size wb wr)) (fun v12 _ => m1 - (intOf v12).toNat)
      case atStart => exact ⟨0, by omega, rfl, L, HRb, ⟨HAL.out, HLl.out⟩, HBb⟩
      case round =>
        obtain ⟨i, hi, rfl, L', HRi, HAi, HBi⟩ := hrel
        by_cases hlt : i < m1
        · by_cases h30 : i < 30
          · by_cases hk0 : 0 < k
            · have h30i : decide ((i : Int) < 30) = true := by simp; omega
              have hk0i : decide ((0 : Int) < (k : Int)) = true := by simp; omega
              have HBwr := Aside0.mk (HBk.out.trans (HBi.out.mono HBk.out.size))
              obtain ⟨a1, rfl, ht⟩ := at_u8 (cells_below HT1.out HBwr.out) i (by rw [← HM1.out]; exact hlt)
              have htb : 0 ≤ ts.getD i 0 ∧ ts.getD i 0 ≤ 255 := by
                have : i < ts.length := by rw [← HM1.out]; exact hlt
                rw [List.getD_eq_getElem?_getD, List.getElem?_eq_getElem this]
                exact HTS.out _ (List.getElem_mem this)
              obtain ⟨t, et⟩ : ∃ t : Nat, ts.getD i 0 = (t : Int) := ⟨(ts.getD i 0).toNat, by omega⟩
              rw [et] at ht htb
              have hi0 : (0 : Int) ≤ (i : Int) := by omega
              have hi1 : (i : Int) < (m1 : Int) := by omega
              have hkp : (0 : Int) < (k : Int) := by omega
              clear et
              go_upto_region 15 with (fail)
              go_cut [13, 14] (fun v13 v14 wx => v13 = .int .i64 ((i % k : Nat) : Int) ∧ v14 = .int .i64 ((t % k : Nat) : Int) ∧ Aside0 (Below wr.heap.size wr wx))
              case first =>
                go_region
                all_goals
                  go_wp2_with fail
                  go_meet
                  exact ⟨by rw [Int.natCast_emod], by rw [Int.natCast_emod], ⟨below_drew (Below.refl _ _)⟩⟩
              case rest =>
                obtain ⟨rfl, rfl, HBx⟩ := hcut
                have hj : i % k < k := Nat.mod_lt _ hk0
                have hq : t % k < k := Nat.mod_lt _ hk0
                obtain ⟨j, ej⟩ : ∃ j, j = i % k := ⟨_, rfl⟩
                obtain ⟨q, eq⟩ : ∃ q, q = t % k := ⟨_, rfl⟩
                rw [← ej] at hj ⊢
                rw [← eq] at hq ⊢
                clear ej eq ht
                have HRx := Aside0.mk (Kd.R_below HRi.out HBx.out)
                obtain ⟨hal, hll⟩ := HAi.out
                have HAl := Aside0.mk hal
                have HLL := Aside0.mk hll
                obtain ⟨gb, cap, es, hgb, hgl, cells, hcells⟩ := Kd.R_form HRx.out (by rw [hll]; exact hk0)
                rw [hll] at es
                injection es with e1 _ e3
                subst e3
                obtain ⟨ab, eab⟩ : ∃ ab : Addr, ab = ⟨gb, 0, none⟩ := ⟨_, rfl⟩
                have HAB := Aside0.mk eab
                rw [← eab] at e1
                subst e1
                have HRg : Aside0 (Kd.R k74 74 wc wb.heap.size (fun _ => True) (.slice (some ⟨gb, 0, none⟩) k cb) L') := ⟨by rw [← HAB.out]; exact HRx.out⟩
                have hadd : ∀ n : Nat, ab.add (n * 4) = ⟨gb, n * 4, none⟩ := fun n => by rw [HAB.out]; unfold Addr.add; split <;> simp_all
                have HADD := Aside0.mk hadd
                have hCx := (Kd.R_reads' HRx.out).2.2
                obtain ⟨_, e2, x0, x1, x2, x3⟩ := at_T74 hCx (j : Int) (by omega) (by omega)
                obtain rfl := Option.some.inj e2
                obtain ⟨_, e2, y0, y1, y2, y3⟩ := at_T74 hCx (q : Int) (by omega) (by omega)
                obtain rfl := Option.some.inj e2
                rw [Int.toNat_natCast] at x0 x1 x2 x3 y0 y1 y2 y3
                obtain ⟨X, eX⟩ : ∃ X, X = rd_T74 L' (j : Int) := ⟨_, rfl⟩
                obtain ⟨Y, eY⟩ : ∃ Y, Y = rd_T74 L' (q : Int) := ⟨_, rfl⟩
                have HX := Aside0.mk eX
                have HY := Aside0.mk eY
                rw [← eX] at x0 x1 x2 x3
                rw [← eY] at y0 y1 y2 y3
                have hj0 : (0 : Int) ≤ (j : Int) := by omega
                have hj1 : (j : Int) < (k : Int) := by omega
                have hq0 : (0 : Int) ≤ (q : Int) := by omega
                have hq1 : (q : Int) < (k : Int) := by omega
                have ly := World.block_lt_of_cell? _ _ y0
                have HXL : Aside0 (Alike L ((L'.set j Y).set q X) ∧ ((L'.set j Y).set q X).length = k) := ⟨by
                  have h1 : j < L'.length := by rw [hll]; exact hj
                  have h2 : q < L'.length := by rw [hll]; exact hq
                  rw [HX.out, HY.out, getD_rd h1, getD_rd h2]
                  exact ⟨alike_swap hal h1 h2, by simp [hll]⟩⟩
                clear eab eX eY hcells hadd hCx hal hll
                go_wp2_with ((with_reducible refine gate_ (.store 74 (.tmp 89) (.tmp 88)) rfl ?_); apply Aside0.out)
                refine ⟨?_⟩
                obtain ⟨wa, ewa⟩ : ∃ wa, wa = wc.alloc (.cells #[.int .u64 X.f0, .int .i64 X.f1, .bool X.f2, .bool X.f3] 74) := ⟨_, rfl⟩
                have HKX : Aside0 (Bk wa wc.heap.size 74 #[.int .u64 X.f0, .int .i64 X.f1, .bool X.f2, .bool X.f3]) := ⟨by rw [ewa]; exact Bk.new _ _ _⟩
                have HRa : Aside0 (Kd.R k74 74 wa wb.heap.size (fun _ => True) (.slice (some ⟨gb, 0, none⟩) k cb) L') := ⟨by rw [ewa]; exact Kd.R_alloc HRg.out _⟩
                have HBa : Aside0 (Below wb.heap.size wb wa) := ⟨by rw [ewa]; exact (HBi.out.trans (HBx.out.mono HBi.out.size)).alloc (by have := HBi.out.size; have := HBx.out.size; omega) _⟩
                rw [← ewa]
                clear ewa x0 x1 x2 x3 y0 y1 y2 y3 ly
                refine R_put74 (w0 := wb) wb.heap.size rfl rfl (.tmp 89) (.tmp 88) rfl j L' Y (by show Value.pointer (some (ab.add (j * 4))) = _; rw [HADD.out]) rfl HRa.out hj HBa.out ?_
                intro w5 hr5 hb5 hg5
                have HR5 := Aside0.mk hr5
                have HB5 := Aside0.mk hb5
                have HK5 := Aside0.mk (HKX.out.grown hg5 (by omega))
                clear hr5 hb5 hg5
                have z0 : w5.cell? ⟨wc.heap.size, 0, none⟩ = some (.int .u64 X.f0) := HK5.out.cell 0
                have z1 : w5.cell? ⟨wc.heap.size, 1, none⟩ = some (.int .i64 X.f1) := HK5.out.cell 1
                have z2 : w5.cell? ⟨wc.heap.size, 2, none⟩ = some (.bool X.f2) := HK5.out.cell 2
                have z3 : w5.cell? ⟨wc.heap.size, 3, none⟩ = some (.bool X.f3) := HK5.out.cell 3
                go_wp2_with ((with_reducible refine gate_ (.store 74 (.tmp 93) (.tmp 92)) rfl ?_); apply Aside0.out)
                refine ⟨?_⟩
                refine R_put74 (w0 := wb) wb.heap.size rfl rfl (.tmp 93) (.tmp 92) rfl q (L'.set j Y) X (by show Value.pointer (some (ab.add (q * 4))) = _; rw [HADD.out]) rfl HR5.out hq HB5.out ?_
                intro w6 hr6 hb6 hg6
                rw [← HAB.out] at hr6
                have HR6 := Aside0.mk hr6
                have HB6 := Aside0.mk hb6
                clear hr6 hb6 hg6 z0 z1 z2 z3
                go_wp2
                go_roundw
                case rel => exact ⟨i + 1, by omega, by go_num, (L'.set j Y).set q X, HR6, HXL, HB6⟩
                case measure => simp [intOf]; omega
            · obtain rfl : k = 0 := by omega
              go_wp2_with fail
              go_meet
              exact ⟨L', HRi, HAi, HBi⟩
          · go_wp2_with fail
            go_meet
            exact ⟨L', HRi, HAi, HBi⟩
        · go_wp2_with fail
          go_meet
          exact ⟨L', HRi, HAi, HBi⟩
    case rest =>
      obtain ⟨L', HRi, HAi, HBi⟩ := hcut
      have HBwc := Aside0.mk (HBk.out.trans (HBi.out.mono HBk.out.size))
      have HDc := Aside0.mk (HD1.out.below HBwc.out)
      have HBw := Aside0.mk (HB1.out.trans (HBwc.out.mono HB1.out.size))
      have HCa : Aside0 (Kd.C k74 wc A8 L.length L) := ⟨cells_below HC8.out HBi.out⟩
      have HCb : Aside0 (Kd.C k74 wc Ab L'.length L') := ⟨by have := (Kd.R_reads' HRi.out).2.2; first | exact this | (rw [HAi.out.2]; exact this)⟩
      go_wp2_with fail
      refine (same_new _ 700).mono ?_
      rintro e w1 ⟨rfl, rfl⟩
      obtain ⟨w3, ew3⟩ : ∃ w3, w3 = wc.alloc (.cells #[.int .i64 700] 3) := ⟨_, rfl⟩
      have B3 : Aside0 (Below wc.heap.size wc w3) := ⟨by rw [ew3]; exact (Below.refl _ _).alloc (Nat.le_refl _) _⟩
      have K3 : Aside0 (Bk w3 wc.heap.size 3 #[.int .i64 700]) := ⟨by rw [ew3]; exact Bk.new _ _ _⟩
      rw [← ew3]
      clear ew3
      go_wp2_with fail
      refine (same_new _ 3).mono ?_
      rintro e w1 ⟨rfl, rfl⟩
      obtain ⟨w4, ew4⟩ : ∃ w4, w4 = w3.alloc (.cells #[.int .i64 3] 3) := ⟨_, rfl⟩
      have B4 : Aside0 (Below w3.heap.size w3 w4) := ⟨by rw [ew4]; exact (Below.refl _ _).alloc (Nat.le_refl _) _⟩
      have K4 : Aside0 (Bk w4 w3.heap.size 3 #[.int .i64 3]) := ⟨by rw [ew4]; exact Bk.new _ _ _⟩
      have BC4 := Aside0.mk (B3.out.trans (B4.out.mono B3.out.size))
      rw [← ew4]
      clear ew4
      go_wp2_with fail
      have HD4 := Aside0.mk (HDc.out.below BC4.out)
      refine (Pick_ok' w4 A8 k c8 L HLl.out (cells_below HCa.out BC4.out) (by have := HLl.out; omega) last g 5000 (by decide) s0 s0_inv HD4.out _ _ (fun _ => 700) (fun _ => 3) (.inl ⟨⟨wc.heap.size, 0, none⟩, ⟨w3.heap.size, 0, none⟩, 700, 3, rfl, rfl, (K3.out.below B4.out).cell 0, K4.out.cell 0, rfl, rfl⟩)).mono ?_
      rintro e w5 hp
      obtain ⟨pk, acc, dA, s', rfl, hi', hbk', hb5, hok⟩ := plays_a s0_inv HD4.out hp
      clear hp
      have HBK' := Aside0.mk hbk'
      have HOK := Aside0.mk hok
      have BC5 := Aside0.mk (BC4.out.trans (hb5.mono BC4.out.size))
      clear hbk' hi' hb5 hok
      rw [choice]
      obtain ⟨no, eno⟩ : ∃ no, no = (acc.getD z74).f0 := ⟨_, rfl⟩
      obtain ⟨mo, emo⟩ : ∃ mo, mo = (acc.getD z74).f1 := ⟨_, rfl⟩
      have HNO := Aside0.mk eno
      have HMO := Aside0.mk emo
      rw [← eno, ← emo]
      clear eno emo
      obtain ⟨W6, eW6⟩ : ∃ W6, W6 = w5.alloc (.cells #[.int .i64 pk, .int .u64 no, .int .i64 mo, .pointer (some ⟨dA, 0, none⟩)] 63) := ⟨_, rfl⟩
      have B6 : Aside0 (Below w5.heap.size w5 W6) := ⟨by rw [eW6]; exact (Below.refl _ _).alloc (Nat.le_refl _) _⟩
      have HP6 : Aside0 (Bk W6 w5.heap.size 63 #[.int .i64 pk, .int .u64 no, .int .i64 mo, .pointer (some ⟨dA, 0, none⟩)]) := ⟨by rw [eW6]; exact Bk.new _ _ _⟩
      have BC6 := Aside0.mk (BC5.out.trans (B6.out.mono BC5.out.size))
      have HW6 := Aside0.mk eW6
      clear eW6
      go_wp2_with fail
      rw [← HW6.out]
      clear HW6
      refine (same_new _ 700).mono ?_
      rintro e w1 ⟨rfl, rfl⟩
      obtain ⟨w7, ew7⟩ : ∃ w7, w7 = W6.alloc (.cells #[.int .i64 700] 3) := ⟨_, rfl⟩
      have B7 : Aside0 (Below W6.heap.size W6 w7) := ⟨by rw [ew7]; exact (Below.refl _ _).alloc (Nat.le_refl _) _⟩
      have K7 : Aside0 (Bk w7 W6.heap.size 3 #[.int .i64 700]) := ⟨by rw [ew7]; exact Bk.new _ _ _⟩
      rw [← ew7]
      clear ew7
      go_wp2_with fail
      refine (same_new _ 3).mono ?_
      rintro e w1 ⟨rfl, rfl⟩
      obtain ⟨w8, ew8⟩ : ∃ w8, w8 = w7.alloc (.cells #[.int .i64 3] 3) := ⟨_, rfl⟩
      have B8 : Aside0 (Below w7.heap.size w7 w8) := ⟨by rw [ew8]; exact (Below.refl _ _).alloc (Nat.le_refl _) _⟩
      have K8 : Aside0 (Bk w8 w7.heap.size 3 #[.int .i64 3]) := ⟨by rw [ew8]; exact Bk.new _ _ _⟩
      have B68 := Aside0.mk (B7.out.trans (B8.out.mono B7.out.size))
      have BC8 := Aside0.mk (BC6.out.trans (B68.out.mono BC6.out.size))
      rw [← ew8]
      clear ew8
      have HD8 := Aside0.mk (HDc.out.below BC8.out)
      go_wp2_with fail
      refine (Pick_ok' w8 Ab k cb L' HAi.out.2 (cells_below HCb.out BC8.out) (by have := HAi.out.2; omega) last g 5000 (by decide) s0 s0_inv HD8.out _ _ (fun _ => 700) (fun _ => 3) (.inl ⟨⟨W6.heap.size, 0, none⟩, ⟨w7.heap.size, 0, none⟩, 700, 3, rfl, rfl, (K7.out.below B8.out).cell 0, K8.out.cell 0, rfl, rfl⟩)).mono ?_
      rintro e w9 hp
      obtain ⟨pk2, acc2, dB, s2, rfl, hi2, hbk2, hb9, hok2⟩ := plays_a s0_inv HD8.out hp
      clear hp
      obtain ⟨rfl, rfl, rfl⟩ := HOK.out.uniq s0_inv (hok2.alike HAi.out.1)
      have HBR := Aside0.mk hbk2
      have B69 := Aside0.mk (B68.out.trans (hb9.mono B68.out.size))
      clear hi2 hbk2 hok2 hb9
      rw [choice, ← HNO.out, ← HMO.out]
      obtain ⟨W8, eW8⟩ : ∃ W8, W8 = w9.alloc (.cells #[.int .i64 pk2, .int .u64 no, .int .i64 mo, .pointer (some ⟨dB, 0, none⟩)] 63) := ⟨_, rfl⟩
      have B98 : Aside0 (Below w9.heap.size w9 W8) := ⟨by rw [eW8]; exact (Below.refl _ _).alloc (Nat.le_refl _) _⟩
      have HQ8 : Aside0 (Bk W8 w9.heap.size 63 #[.int .i64 pk2, .int .u64 no, .int .i64 mo, .pointer (some ⟨dB, 0, none⟩)]) := ⟨by rw [eW8]; exact Bk.new _ _ _⟩
      have HB68 := Aside0.mk (B69.out.trans (B98.out.mono B69.out.size))
      have HP8 := Aside0.mk (HP6.out.below HB68.out)
      have HDA := Aside0.mk ((HBK'.out.below B6.out).below HB68.out)
      have HDB := Aside0.mk (HBR.out.below B98.out)
      have BCF := Aside0.mk (BC6.out.trans (HB68.out.mono BC6.out.size))
      have HDG := Aside0.mk (HDc.out.below BCF.out)
      have HW8 := Aside0.mk eW8
      have qa : w5.heap.size < w9.heap.size := by have := HP6.out.lt; have := B69.out.size; omega
      have r0 : w9.cell? ⟨w5.heap.size, 0, none⟩ = _ := (HP6.out.below B69.out).cell 0
      have r1 : w9.cell? ⟨w5.heap.size, 1, none⟩ = _ := (HP6.out.below B69.out).cell 1
      have r2 : w9.cell? ⟨w5.heap.size, 2, none⟩ = _ := (HP6.out.below B69.out).cell 2
      have r3 : w9.cell? ⟨w5.heap.size, 3, none⟩ = _ := (HP6.out.below B69.out).cell 3
      change _ = some (Value.int .i64 pk2) at r0
      change _ = some (Value.int .u64 no) at r1
      change _ = some (Value.int .i64 mo) at r2
      change _ = some (Value.pointer (some ⟨dA, 0, none⟩)) at r3
      clear eW8
      go_wp2_with fail
      rw [← HW8.out]
      clear HW8 r0 r1 r2 r3 qa
      go_loopw [18] (fun v18 wr => ∃ j : Nat, 1 ≤ j ∧ j ≤ 29 ∧ v18 = .int .i64 j ∧ Aside0 (Below W8.heap.size W8 wr)) (fun v18 _ => 29 - (intOf v18).toNat)
      case atStart => exact ⟨1, by omega, by omega, rfl, ⟨Below.refl _ _⟩⟩
      case round =>
        obtain ⟨j, hj0, hj, rfl, HBj⟩ := hrel
        by_cases hjl : j ≤ 28
        · have hjn : 1 ≤ j := hj0
          have hj1 : (1 : Int) ≤ (j : Int) := by omega
          have hj2 : (j : Int) ≤ 28 := by omega
          have hj3 : decide ((j : Int) ≤ 28) = true := decide_eq_true hj2
          have HPj := Aside0.mk (HP8.out.below HBj.out)
          have HQj := Aside0.mk (HQ8.out.below HBj.out)
          have HAj := Aside0.mk (HDA.out.below HBj.out)
          have HBBj := Aside0.mk (HDB.out.below HBj.out)
          have HGj := Aside0.mk (HDG.out.below HBj.out)
          have p3 : wr.cell? ⟨w5.heap.size, 3, none⟩ = some (Value.pointer (some ⟨dA, 0, none⟩)) := HPj.out.cell 3
          have q3 : wr.cell? ⟨w9.heap.size, 3, none⟩ = some (Value.pointer (some ⟨dB, 0, none⟩)) := HQj.out.cell 3
          have TA : ∀ n, Calls Try.prog 34 #[.pointer (some ⟨dA, 0, none⟩), .int .i64 (j : Int)] (wr.drewN n) (fun e w' => e = .returned (.int .i64 (s2.D j)) ∧ w' = wr.drewN n) := fun n => Deficit_ok _ dA 5000 s2.D (s2.a : Int) s2.f (show Bk (wr.drewN n) _ _ _ from HAj.out) j hjn hjl
          have TB : ∀ n, Calls Try.prog 34 #[.pointer (some ⟨dB, 0, none⟩), .int .i64 (j : Int)] (wr.drewN n) (fun e w' => e = .returned (.int .i64 (s2.D j)) ∧ w' = wr.drewN n) := fun n => Deficit_ok _ dB 5000 s2.D (s2.a : Int) s2.f (show Bk (wr.drewN n) _ _ _ from HBBj.out) j hjn hjl
          have TG : ∀ n, Calls Try.prog 34 #[.pointer (some ⟨g, 0, none⟩), .int .i64 (j : Int)] (wr.drewN n) (fun e w' => e = .returned (.int .i64 0) ∧ w' = wr.drewN n) := fun n => Deficit_ok _ g 5000 s0.D (s0.a : Int) s0.f (show Bk (wr.drewN n) _ _ _ from HGj.out) j hjn hjl
          go_wp2_with fail
          go_quiet ((go_at_call 34; with_reducible (first | exact Calls.quiet_of_same (TA _) | exact Calls.quiet_of_same (TB _) | exact Calls.quiet_of_same (TG _))))
          go_wp2
          go_roundw
          case rel => exact ⟨j + 1, by omega, by omega, by go_num, ⟨pw_below_drewN HBj.out _⟩⟩
          case measure => simp [intOf]; omega
        · have hj3 : decide ((j : Int) ≤ 28) = false := decide_eq_false (by omega)
          have HBF := Aside0.mk (HBw.out.trans ((BCF.out.trans (HBj.out.mono BCF.out.size)).mono HBw.out.size))
          go_wp2_with fail
          refine (works _).mono ?_
          rintro e w3 ⟨rfl, hB⟩
          have HB3 := Aside0.mk (HBF.out.trans (hB.mono HBF.out.size))
          clear hB
          go_wp2
          go_ret
          exact ⟨rfl, HB3.out⟩
end Go.Proofs.Ytcmcgjjhbjlkpaa.Pk
