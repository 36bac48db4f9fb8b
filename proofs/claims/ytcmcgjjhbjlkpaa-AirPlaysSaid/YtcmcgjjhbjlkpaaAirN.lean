import Derived.Test.YtcmcgjjhbjlkpaaAirM
import Derived.Deep.Cut
namespace Go.Proofs.Ytcmcgjjhbjlkpaa.Air
open Go.RowKit Go.Proofs.YtcmcgjjhbjlkpaaW.PrintWords Go.Proofs.YtcmcgjjhbjlkpaaW.PrintLast Go.Proofs.YtcmcgjjhbjlkpaaW.PrintMore
set_option linter.unusedVariables false
set_option linter.unusedSimpArgs false
theorem AirIs.left1 {w w1 : World} {base t e g : Nat} {vm vt vm' vt' : Value} {n : Int} {ms : List Int} {ts : List (Int × Int)} (h : AirIs w1 base t e g vm' vt' n ms ts) (hk : Keep w w1 (Foot g vm vt)) (ho : ∀ k, Foot g vm' vt' k → Foot g vm vt k ∨ w.heap.size ≤ k) : Left w w1 base t e g vm vt n ms ts := ⟨vm', vt', h, hk, ho⟩
/-- The masks' first is taken, the cell written. -/
theorem AirIs.cutM {w : World} {base t e g : Nat} {vm vt : Value} {n y : Int} {ms : List Int} {ts : List (Int × Int)} (h : AirIs w base t e g vm vt n (y :: ms) ts) (he : e ≠ 3) (hte : e ≠ t) (ht3 : 3 ≠ t) :
    ∃ ad c A2, vm = .slice (some ad) (ms.length + 1) c ∧ ms.length + 1 ≤ c ∧ w.cell? ad = some (.int .i64 y) ∧ ad.add 0 = ad ∧
      (∀ W : World, (Instr.slice 27 (.slice (some ad) (ms.length + 1) c) (some (.int .i64 1)) none none).run Try.prog W = .ok (.slice A2 ms.length (c - 1)) W) ∧
      Left w (w.setCell ⟨g, 1, none⟩ (.slice A2 ms.length (c - 1))) base t e g vm vt n ms ts := by
  have hap := apart h.cm h.qm ht3
  obtain ⟨A, c, rfl, hnc⟩ := q_slice h.qm
  obtain ⟨ad, rfl, hcell⟩ := q_cells h.qm (by simp)
  have h0 := hcell 0 (.int .i64 y) (by simp [nums])
  have e0 : ad.add 0 = ad := by unfold Addr.add; split <;> simp_all
  rw [e0] at h0
  have hcut := cut1 27 3 (i := default) (size := 1) Try.underlying27 (by kernel_rfl) (some ad) (y :: ms).length c (by simp)
  have hq2 := q_drop h.qm (show 1 ≤ (y :: ms).length by simp)
  have hown : (Value.slice (if c = 1 then some ad else (some ad).map (·.add (1 * 1))) ((y :: ms).length - 1) (c - 1)).ownBlock = (Value.slice (some ad) (y :: ms).length c).ownBlock := cutV_own (A := some ad) (n := (y :: ms).length) (c := c) (size := 1)
  have hlen : (y :: ms).length = ms.length + 1 := rfl
  obtain ⟨A2, hA2⟩ : ∃ A2, A2 = (if c = 1 then some ad else (some ad).map (·.add 1)) := ⟨_, rfl⟩
  simp only [Nat.one_mul, ← hA2, hlen, Nat.add_sub_cancel] at hq2 hown hcut
  refine ⟨ad, c, A2, rfl, hnc, h0, e0, hcut, h.setM he hte (h.cm.set _) ?_ ((Keep.refl w _).set ⟨g, 1, none⟩ _ (.inl (.inl rfl))) ?_ (by have := h.lm; simp at this; omega)⟩
  · exact q_set hq2 (by rw [hown]; exact hap) _
  · exact fun k hk => .inl (by rw [hown] at hk; exact hk)
/-- The turns' first is taken, the cell written. -/
theorem AirIs.cutT {w : World} {base t g : Nat} {vm vt : Value} {n : Int} {y : Int × Int} {ms : List Int} {ts : List (Int × Int)} (h : AirIs w base t 100 g vm vt n ms (y :: ts)) (hte : 100 ≠ t) (ht3 : t ≠ 3) :
    ∃ ad c A2, vt = .slice (some ad) (ts.length + 1) c ∧ ts.length + 1 ≤ c ∧ w.cell? ad = some (.int .i64 y.1) ∧ w.cell? ⟨ad.block, ad.off + 1, none⟩ = some (.int .i64 y.2) ∧ ad.add 0 = ad ∧
      (∀ W : World, (Instr.slice 92 (.slice (some ad) (ts.length + 1) c) (some (.int .i64 1)) none none).run Try.prog W = .ok (.slice A2 ts.length (c - 1)) W) ∧
      Left w (w.setCell ⟨g, 2, none⟩ (.slice A2 ts.length (c - 1))) base t 100 g vm vt n ms ts := by
  have hap := apart h.ct h.qt hte
  obtain ⟨A, c, rfl, hnc⟩ := q_slice h.qt
  obtain ⟨ad, rfl, hcell⟩ := q_cells h.qt (by simp)
  have h0 := hcell 0 (.int .i64 y.1) (by simp [tcs])
  have h1 := hcell 1 (.int .i64 y.2) (by simp [tcs])
  have e0 : ad.add 0 = ad := by unfold Addr.add; split <;> simp_all
  rw [e0] at h0
  have e1 : ad.add 1 = ⟨ad.block, ad.off + 1, none⟩ := by unfold Addr.add; split <;> simp_all
  rw [e1] at h1
  have hcut := cut1 92 100 (i := default) (size := 2) Try.underlying92 (by kernel_rfl) (some ad) (y :: ts).length c (by simp)
  have hq2 := q_drop h.qt (show 1 ≤ (y :: ts).length by simp)
  have hown : (Value.slice (if c = 1 then some ad else (some ad).map (·.add (1 * 2))) ((y :: ts).length - 1) (c - 1)).ownBlock = (Value.slice (some ad) (y :: ts).length c).ownBlock := cutV_own (A := some ad) (n := (y :: ts).length) (c := c) (size := 2)
  have hlen : (y :: ts).length = ts.length + 1 := rfl
  obtain ⟨A2, hA2⟩ : ∃ A2, A2 = (if c = 1 then some ad else (some ad).map (·.add 2)) := ⟨_, rfl⟩
  simp only [Nat.one_mul, ← hA2, hlen, Nat.add_sub_cancel] at hq2 hown hcut
  refine ⟨ad, c, A2, rfl, hnc, h0, h1, e0, hcut, h.setT (by decide) ht3 (h.ct.set _) ?_ ((Keep.refl w _).set ⟨g, 2, none⟩ _ (.inl (.inl rfl))) ?_ (by have := h.lt; simp at this; omega)⟩
  · exact q_set hq2 (by rw [hown]; exact hap) _
  · exact fun k hk => .inl (by rw [hown] at hk; exact hk)
/-! ### The reference's loop -/
def RowJ (gb : Nat) (s : ByteArray) (xs : List Int) (W : World) : Prop := ∀ i, i < s.size → W.cell? ⟨gb, i, none⟩ = some (.int .u8 (xs.getD i 0)) ∧ W.frozen? ⟨gb, i, none⟩ = false
theorem rowJ_step {W : World} {gb : Nat} {s : ByteArray} {xs : List Int} {k : Nat} (hl : xs.length = s.size) (h : RowJ gb s xs W) (hlt : k / 8 < s.size) :
    RowJ gb s (flipF xs k) (W.setCell ⟨gb, k / 8, none⟩ (.int .u8 (bits .xor .u8 (xs[k / 8]?.getD 0) (128 / 2 ^ (k % 8))))).drew := by
  intro i hi
  rw [flipF_get (by omega) (by omega)]
  refine ⟨?_, ?_⟩
  · by_cases e : i = k / 8
    · rw [if_pos e]
      subst e
      show (W.setCell _ _).cell? _ = _
      rw [World.cell?_setCell_same' _ _ _ (by rw [(h _ hi).1]; rfl), List.getD_eq_getElem?_getD]
    · rw [if_neg e]
      show (W.setCell _ _).cell? _ = _
      rw [cell_set_other _ _ _ _ _ (fun h => e h.symm)]
      exact (h i hi).1
  · show (W.setCell _ _).frozen? _ = _
    rw [World.frozen?_setCell]
    exact (h i hi).2
theorem wraps_i64' (n : Int) (h₀ : 0 ≤ n) (h₁ : n < 2 ^ 31) : IntKind.i64.wrap n = n := by rw [IntKind.wrap_i64]; omega
theorem bit_mod {m i : Nat} (hm : m ≤ 255) : bits .and .i64 ((m : Int) / 2 ^ i) 1 = ((m : Int) / 2 ^ i) % 2 := by
  have h2 : (0 : Int) < 2 ^ i := by have : (0 : Int) < 2 := by decide
                                    exact Int.pow_pos this
  have h0 : 0 ≤ (m : Int) / 2 ^ i := Int.ediv_nonneg (by omega) (Int.le_of_lt h2)
  have h1 : (m : Int) / 2 ^ i ≤ m := Int.ediv_le_self _ (by omega)
  exact bits_mask .i64 31 (by decide) wraps_i64' 1 (by decide) _ h0 (by omega)
theorem foldF_on {xs : List Int} {a m i : Nat} (ha : a ≤ 72) (hi : i < 8) (hm : m ≤ 255) (h : ((m : Int) / 2 ^ i) % 2 = 1) : foldF xs (upB a m (i + 1)) = flipF (foldF xs (upB a m i)) (a + i) := by
  rw [upB_on (decide_eq_true (by rw [bit_mod hm]; exact h)), foldF_snoc]
  show flipF _ ((a + i) % 80) = _
  rw [Nat.mod_eq_of_lt (by omega)]
theorem foldF_off {xs : List Int} {a m i : Nat} (hm : m ≤ 255) (h : ¬ ((m : Int) / 2 ^ i) % 2 = 1) : foldF xs (upB a m (i + 1)) = foldF xs (upB a m i) := by
  rw [upB_off (decide_eq_false (by rw [bit_mod hm]; exact h))]
theorem flipF_skip {xs : List Int} {k : Nat} (h : ¬ k / 8 < xs.length) : flipF xs k = xs := if_neg h
set_option maxHeartbeats 4000000 in
set_option maxRecDepth 100000 in
theorem rPass (w : World) (base g : Nat) (vm vt : Value) (n : Int) (ms : List Int) (ts : List (Int × Int)) (s : ByteArray) (h : AirIs w base 94 100 g vm vt n ms ts) (hbase : base ≤ w.heap.size) (htb : TB ts) (hs : s.size ≤ 1000) :
    Calls Try.prog 26 #[.pointer (some ⟨g, 0, none⟩), .string s] w fun e w' => e = .returned (.tuple #[.string (passS ts s), .int .i64 (ms.headD 0), .bool (!ts.isEmpty)]) ∧ Left w w' base 94 100 g vm vt n ms.tail ts.tail := by
  have H := Aside0.mk h
  have HT := Aside0.mk htb
  clear h htb
  obtain ⟨lost, hlost⟩ : ∃ x, x = ms.headD 0 := ⟨_, rfl⟩
  rw [← hlost]
  rcases ms with _ | ⟨y, ms⟩
  · obtain rfl : lost = 0 := hlost
    obtain ⟨A, c, rfl, hnc⟩ := q_slice H.out.qm
    have hc1 := H.out.cm.cell
    go_enter Try.func26, Try.ntmps26
    go_upto_region 5 with (fail)
    obtain ⟨vm1, vt1, hA1, hk1, ho1⟩ := H.out.left (Below.refl _ _)
    have HA1 := Aside0.mk hA1
    have HK1 := Aside0.mk hk1
    have HO1 := Aside0.mk ho1
    have hs1 := hk1.size
    clear hA1 hk1 ho1 hc1 hnc
    rcases ts with _ | ⟨⟨t1, t2⟩, ts⟩
    · obtain ⟨A, c, rfl, hnc⟩ := q_slice HA1.out.qt
      have hc1 := HA1.out.ct.cell
      go_wp2
      go_returns
      exact ⟨rfl, HA1.out.left1 HK1.out HO1.out⟩
    · have hq := HT.out (t1, t2) (by simp)
      simp only [turnB, Bool.and_eq_true, decide_eq_true_eq] at hq
      obtain ⟨a, rfl⟩ : ∃ a : Nat, t1 = (a : Int) := ⟨t1.toNat, by omega⟩
      obtain ⟨m, rfl⟩ : ∃ m : Nat, t2 = (m : Int) := ⟨t2.toNat, by omega⟩
      have ha : a ≤ 72 := by omega
      have hm : m ≤ 255 := by omega
      clear hq HT
      obtain ⟨ad, c, A2, rfl, hnc, h0, h1, e0, hcut, hL⟩ := HA1.out.cutT (by decide) (by decide)
      have HL2 := Aside0.mk (Left.after HK1.out HO1.out hL)
      have hlt := HA1.out.size
      have hlta : ad.block < w.heap.size := World.block_lt_of_cell? w _ h0
      have hc1 := HA1.out.ct.cell
      have hf1 := HA1.out.ct.frozen
      have hc1a : ∀ o, (w.alloc o).cell? ⟨g, 2, none⟩ = some (.slice (some ad) (ts.length + 1) c) := fun o => (World.cell?_alloc_lt _ _ _ hlt).trans hc1
      have hf1a : ∀ o, (w.alloc o).frozen? ⟨g, 2, none⟩ = false := fun o => (fz_alloc _ hlt).trans hf1
      clear hL
      go_upto_region 9 with (fail)
      have HL3 := Aside0.mk HL2.out
      obtain ⟨W0, eW0⟩ : ∃ W0, W0 = w.setCell { block := g, off := 2 } (Value.slice A2 ts.length (c - 1)) := ⟨_, rfl⟩
      have hB : W0.heap.size = w.heap.size := by rw [eW0]; simp [World.setCell]
      rw [← eW0] at HL3 ⊢
      rw [← hB]
      clear eW0 hB HL2 hc1 hf1 hc1a hf1a hcut h0 h1 e0 hlt hlta
      have HS := Aside0.mk (show passS (((a : Int), (m : Int)) :: ts) s = strOfNums (passL a m (byts s)) from rfl)
      obtain ⟨W2, eW2⟩ : ∃ W2, W2 = W0.alloc (Obj.cells #[Value.int IntKind.i64 (a : Int), Value.int IntKind.i64 (m : Int)] 100) := ⟨_, rfl⟩
      have hsz2 : W2.heap.size = W0.heap.size + 1 := by rw [eW2]; simp
      have hb2 : W2.heap[W0.heap.size]? = some (.cells #[Value.int IntKind.i64 (a : Int), Value.int IntKind.i64 (m : Int)] 100 (0, 0)) := by rw [eW2]; exact heap_alloc_new W0 _
      have hconv := Lib.run_convert_string_bytes (P := Try.prog) W2 9 33 5 s Try.underlying9 Try.underlying33 Try.underlying5
      obtain ⟨cap, ecap⟩ : ∃ c, c = grownCap W2 s.size 0 5 := ⟨_, rfl⟩
      obtain ⟨W3, eW3⟩ : ∃ W3, W3 = Lib.bytesWorld W2 5 s := ⟨_, rfl⟩
      have hb3 : W3.heap[W0.heap.size]? = some (.cells #[Value.int IntKind.i64 (a : Int), Value.int IntKind.i64 (m : Int)] 100 (0, 0)) := by rw [eW3, Lib.bytesWorld_at_old _ _ _ _ (by omega)]; exact hb2
      have hB3 : Below W0.heap.size W0 W3 := by
        rw [eW3]
        refine ((Below.refl _ W0).alloc (Nat.le_refl _) (Obj.cells #[Value.int IntKind.i64 (a : Int), Value.int IntKind.i64 (m : Int)] 100)).trans ?_
        rw [← eW2]
        exact ⟨rfl, rfl, rfl, by rw [Lib.bytesWorld_size]; omega, fun k hk => Lib.bytesWorld_at_old W2 5 s k (by omega)⟩
      have HRow : RowJ (W0.heap.size + 1) s (byts s) W3 := by
        intro i hi
        rw [← hsz2, eW3]
        refine ⟨?_, ?_⟩
        · rw [Lib.bytesWorld_cell W2 5 s i hi]
          have : i < s.data.toList.length := hi
          simp [byts, List.getElem?_eq_getElem this]
        · simp [World.frozen?, Lib.bytesWorld_at_new]
          have : s.size ≤ (Lib.bytesCells W2 5 s).size := by
            unfold Lib.bytesCells
            rw [Array.size_append, Array.size_map]
            exact Nat.le_add_right _ _
          omega
      rw [← eW3, ← ecap, hsz2] at hconv
      rw [← eW2]
      clear eW3 ecap eW2 hb2 hsz2
      go_wp2_with fail
      go_loopw [10] (fun v10 wr => ∃ i : Nat, i ≤ 8 ∧ v10 = .int .i64 i ∧ Aside0 (wr.heap[W0.heap.size]? = some (.cells #[.int .i64 (a : Int), .int .i64 (m : Int)] 100 (0, 0))) ∧ Aside0 (RowJ (W0.heap.size + 1) s (foldF (byts s) (upB a m i)) wr) ∧ Aside0 (Below W0.heap.size W0 wr)) (fun v10 _ => 8 - (intOf v10).toNat)
      case atStart => exact ⟨0, by omega, rfl, ⟨hb3⟩, ⟨HRow⟩, ⟨hB3⟩⟩
      case round =>
        obtain ⟨i, hi, rfl, HX, HJ, HB⟩ := hrel
        clear hconv hb3 HRow hB3
        by_cases hlt : i < 8
        · have hc0 : wr.cell? ⟨W0.heap.size, 0, none⟩ = some (.int .i64 (a : Int)) := by rw [cell_of_row wr _ _ _ 100 (0, 0) HX.out]; rfl
          have hc1 : wr.cell? ⟨W0.heap.size, 1, none⟩ = some (.int .i64 (m : Int)) := by rw [cell_of_row wr _ _ _ 100 (0, 0) HX.out]; rfl
          by_cases hbit : ((m : Int) / 2 ^ i) % 2 = 1
          · have HF := Aside0.mk (foldF_on (xs := byts s) ha hlt hm hbit)
            have hb' : (((m : Int) / 2 ^ i) % 2 == 1) = true := beq_iff_eq.mpr hbit
            by_cases hk : (a + i) / 8 < s.size
            · have hk1 : ((a : Int) + (i : Int)) / 8 < (s.size : Int) := by omega
              go_wp2_with fail
              have hcf := HJ.out _ hk
              obtain ⟨k, ek⟩ : ∃ k, k = a + i := ⟨_, rfl⟩
              have ek2 : (a : Int) + (i : Int) = (k : Int) := by omega
              rw [← ek] at hcf hk
              rw [ek2]
              have HEK := Aside0.mk ek
              have hk80 : k < 80 := by omega
              obtain ⟨hc, hf⟩ := hcf
              obtain ⟨q, eq⟩ : ∃ q, q = k / 8 := ⟨_, rfl⟩
              obtain ⟨r, er⟩ : ∃ r, r = k % 8 := ⟨_, rfl⟩
              have HQ := Aside0.mk eq
              have HR := Aside0.mk er
              have hr8 : r < 8 := by omega
              have q1 : (k : Int) / 8 = (q : Int) := by omega
              have q2 : (k : Int).tdiv 8 = (q : Int) := by rw [Int.tdiv_eq_ediv_of_nonneg (by omega)]; exact q1
              have r1 : (k : Int) % 8 = (r : Int) := by omega
              have r2 : (k : Int).tmod 8 = (r : Int) := by rw [Int.tmod_eq_emod_of_nonneg (by omega)]; exact r1
              have w1_ : IntKind.i64.wrap (q : Int) = (q : Int) := IntWalk.i64_in _ (by omega)
              have w2_ : IntKind.i64.wrap (r : Int) = (r : Int) := IntWalk.i64_in _ (by omega)
              have hmin : min r 8 = r := by omega
              have hq0 : (q : Int) < (s.size : Int) := by omega
              rw [← eq] at hc hf hk
              clear eq er hk1 ek ek2 hbit hb' hc0 hc1
              refine wp_region_any (by kernel_rfl) ?_
              change wpAny _ _ _ _ _ _ _ (World.drew _)
              refine wpAny_take (i := 0) (v := ?_) rfl (by kernel_rfl) (by kernel_rfl) (by kernel_rfl) (fun _ _ _ h => h) (Or.inl ⟨by rfl, ?_⟩) ?_
              rotate_left
              · intro w
                go_simp
                with_reducible rfl
              refine wpAny_take (i := 1) (v := ?_) rfl (by kernel_rfl) (by kernel_rfl) (by kernel_rfl) (fun _ _ _ h => h) (Or.inl ⟨by rfl, ?_⟩) ?_
              rotate_left
              · intro w
                go_simp
                with_reducible rfl
              refine wpAny_take (i := 3) (v := ?_) rfl (by kernel_rfl) (by kernel_rfl) (by kernel_rfl) (fun _ _ _ h => h) (Or.inl ⟨by rfl, ?_⟩) ?_
              rotate_left
              · intro w
                go_simp
                with_reducible rfl
              refine wpAny_take (i := 4) (v := ?_) rfl (by kernel_rfl) (by kernel_rfl) (by kernel_rfl) (fun _ _ _ h => h) (Or.inl ⟨by rfl, ?_⟩) ?_
              rotate_left
              · intro w
                go_simp
                with_reducible rfl
              refine wpAny_take (i := 8) (v := ?_) rfl (by kernel_rfl) (by kernel_rfl) (by kernel_rfl) (fun _ _ _ h => h) (Or.inl ⟨by rfl, ?_⟩) ?_
              rotate_left
              · intro w
                go_simp
                with_reducible rfl
              refine wpAny_take (i := 2) (v := ?_) rfl (by kernel_rfl) (by kernel_rfl) (by kernel_rfl) (fun _ _ _ h => h) (Or.inl ⟨by rfl, ?_⟩) ?_
              rotate_left
              · intro w
                go_simp
                with_reducible rfl
              refine wpAny_take (i := 5) (v := ?_) rfl (by kernel_rfl) (by kernel_rfl) (by kernel_rfl) (fun _ _ _ h => h) (Or.inl ⟨by rfl, ?_⟩) ?_
              rotate_left
              · intro w
                go_simp
                with_reducible rfl
              refine wpAny_take (i := 9) (v := ?_) rfl (by kernel_rfl) (by kernel_rfl) (by kernel_rfl) (fun _ _ _ h => h) (Or.inl ⟨by rfl, ?_⟩) ?_
              rotate_left
              · intro w
                go_simp
                with_reducible rfl
              refine wpAny_take (i := 10) (v := ?_) rfl (by kernel_rfl) (by kernel_rfl) (by kernel_rfl) (fun _ _ _ h => h) (Or.inl ⟨by rfl, ?_⟩) ?_
              rotate_left
              · intro w
                go_simp
                with_reducible rfl
              refine wpAny_take (i := 6) (v := ?_) rfl (by kernel_rfl) (by kernel_rfl) (by kernel_rfl) (fun _ _ _ h => h) (Or.inl ⟨by rfl, ?_⟩) ?_
              rotate_left
              · intro w
                go_simp
                with_reducible rfl
              refine wpAny_ready (rs := [7]) (by kernel_rfl) (by simp) ?_
              refine AllReady.cons rfl (fun K hK => ?_) AllReady.nil
              go_simp
              refine hK _ _ ?_
              clear hK K
              refine wpAny_take (i := 11) (v := ?_) rfl (by kernel_rfl) (by kernel_rfl) (by kernel_rfl) (fun _ _ _ h => h) (Or.inl ⟨by rfl, ?_⟩) ?_
              rotate_left
              · intro w
                go_simp
                with_reducible rfl
              refine wpAny_take (i := 12) (v := ?_) rfl (by kernel_rfl) (by kernel_rfl) (by kernel_rfl) (fun _ _ _ h => h) (Or.inl ⟨by rfl, ?_⟩) ?_
              rotate_left
              · intro w
                go_simp
                with_reducible rfl
              refine wpAny_ready (rs := [13]) (by kernel_rfl) (by simp) ?_
              refine AllReady.cons rfl (fun K hK => ?_) AllReady.nil
              go_simp
              refine hK _ _ ?_
              clear hK K
              refine wpAny_done (by kernel_rfl) ?_ _
              obtain ⟨rfl⟩ := HQ
              obtain ⟨rfl⟩ := HR
              have HJ2 := Aside0.mk (rowJ_step (by rw [foldF_length, byts_length]) HJ.out hk)
              have HX2 := Aside0.mk (show (wr.setCell ⟨W0.heap.size + 1, k / 8, none⟩ (.int .u8 (bits .xor .u8 ((foldF (byts s) (upB a m i))[k / 8]?.getD 0) (128 / 2 ^ (k % 8))))).drew.heap[W0.heap.size]? = _ from (Below.heap_setCell wr ⟨W0.heap.size + 1, k / 8, none⟩ (.int .u8 (bits .xor .u8 ((foldF (byts s) (upB a m i))[k / 8]?.getD 0) (128 / 2 ^ (k % 8)))) W0.heap.size (by show W0.heap.size ≠ W0.heap.size + 1; omega)).trans HX.out)
              have HB2 := Aside0.mk ((HB.out.setCell (p := ⟨W0.heap.size + 1, k / 8, none⟩) (by show W0.heap.size ≤ W0.heap.size + 1; omega) (.int .u8 (bits .xor .u8 ((foldF (byts s) (upB a m i))[k / 8]?.getD 0) (128 / 2 ^ (k % 8))))).drew)
              generalize (wr.setCell ⟨W0.heap.size + 1, k / 8, none⟩ (.int .u8 (bits .xor .u8 ((foldF (byts s) (upB a m i))[k / 8]?.getD 0) (128 / 2 ^ (k % 8))))).drew = w9 at *
              clear q1 q2 r1 r2 w1_ w2_ hmin hq0 hr8 hc hf
              go_wp2
              go_roundw
              case rel => exact ⟨_, _, _, _, _, _, _, _, _, _, _, _, _, _, _, _, _, _, _, _, _, _, _, _, _, _, _, _, _, _, _, _, _, _, _, _, ⟨i + 1, by omega, by go_num, HX2, ⟨by rw [HF.out, ← HEK.out]; exact HJ2.out⟩, HB2⟩, rfl⟩
              case measure => simp [intOf]; omega
            · have hk1 : ¬ ((a : Int) + (i : Int)) / 8 < (s.size : Int) := by omega
              have HFS := Aside0.mk (flipF_skip (xs := foldF (byts s) (upB a m i)) (k := a + i) (by rw [foldF_length, byts_length]; exact hk))
              go_wp2
              go_roundw
              case rel => exact ⟨i + 1, by omega, by go_num, ⟨by rw [HF.out, HFS.out]; exact HJ.out⟩⟩
              case measure => simp [intOf]; omega
          · have HF := Aside0.mk (foldF_off (xs := byts s) (a := a) hm hbit)
            have hb' : (((m : Int) / 2 ^ i) % 2 == 1) = false := beq_eq_false_iff_ne.mpr hbit
            go_wp2
            go_roundw
            case rel => exact ⟨_, _, _, _, _, _, _, _, _, _, _, _, _, _, _, _, _, _, _, _, _, _, _, _, _, _, _, _, _, _, _, _, _, _, _, _, ⟨i + 1, by omega, by go_num, HX, ⟨by rw [HF.out]; exact HJ.out⟩, HB⟩, rfl⟩
            case measure => simp [intOf]; omega
        · obtain rfl : i = 8 := by omega
          have hlen : (foldF (byts s) (upB a m 8)).length = s.size := by rw [foldF_length, byts_length]
          have hstr := run_convert_bytes_arg (P := Try.prog) wr 33 5 Try.underlying33 Try.underlying5 (W0.heap.size + 1) 0 s.size cap _ hlen (fun i hi => by rw [Nat.zero_add]; exact (HJ.out i hi).1) 9 Try.underlying9
          rw [show foldF (byts s) (upB a m 8) = passL a m (byts s) from rfl] at hstr
          clear hlen
          go_wp2
          go_returns
          refine ⟨?_, HL3.out.then HB.out⟩
          rw [HS.out]
          rfl
  · obtain rfl : lost = y := hlost
    obtain ⟨ad, c, A2, rfl, hnc, h0, e0, hcut, hL⟩ := H.out.cutM (by decide) (by decide) (by decide)
    have hc1 := H.out.cm.cell
    have hf1 := H.out.cm.frozen
    have HL := Aside0.mk hL
    clear hL
    go_enter Try.func26, Try.ntmps26
    go_upto_region 5 with (fail)
    obtain ⟨vm1, vt1, hA1, hk1, ho1⟩ := HL.out
    have HA1 := Aside0.mk hA1
    have HK1 := Aside0.mk hk1
    have HO1 := Aside0.mk ho1
    have hs1 := hk1.size
    clear hA1 hk1 ho1 hc1 hnc hf1 hcut e0 h0 HL
    generalize (w.setCell { block := g, off := 1 } (Value.slice A2 ms.length (c - 1))) = w1 at *
    rcases ts with _ | ⟨⟨t1, t2⟩, ts⟩
    · obtain ⟨A, c, rfl, hnc⟩ := q_slice HA1.out.qt
      have hc1 := HA1.out.ct.cell
      go_wp2
      go_returns
      exact ⟨rfl, HA1.out.left1 HK1.out HO1.out⟩
    · have hq := HT.out (t1, t2) (by simp)
      simp only [turnB, Bool.and_eq_true, decide_eq_true_eq] at hq
      obtain ⟨a, rfl⟩ : ∃ a : Nat, t1 = (a : Int) := ⟨t1.toNat, by omega⟩
      obtain ⟨m, rfl⟩ : ∃ m : Nat, t2 = (m : Int) := ⟨t2.toNat, by omega⟩
      have ha : a ≤ 72 := by omega
      have hm : m ≤ 255 := by omega
      clear hq HT
      obtain ⟨ad, c, A2, rfl, hnc, h0, h1, e0, hcut, hL⟩ := HA1.out.cutT (by decide) (by decide)
      have HL2 := Aside0.mk (Left.after HK1.out HO1.out hL)
      have hlt := HA1.out.size
      have hlta : ad.block < w1.heap.size := World.block_lt_of_cell? w1 _ h0
      have hc1 := HA1.out.ct.cell
      have hf1 := HA1.out.ct.frozen
      have hc1a : ∀ o, (w1.alloc o).cell? ⟨g, 2, none⟩ = some (.slice (some ad) (ts.length + 1) c) := fun o => (World.cell?_alloc_lt _ _ _ hlt).trans hc1
      have hf1a : ∀ o, (w1.alloc o).frozen? ⟨g, 2, none⟩ = false := fun o => (fz_alloc _ hlt).trans hf1
      clear hL
      go_upto_region 9 with (fail)
      have HL3 := Aside0.mk HL2.out
      obtain ⟨W0, eW0⟩ : ∃ W0, W0 = w1.setCell { block := g, off := 2 } (Value.slice A2 ts.length (c - 1)) := ⟨_, rfl⟩
      have hB : W0.heap.size = w1.heap.size := by rw [eW0]; simp [World.setCell]
      rw [← eW0] at HL3 ⊢
      rw [← hB]
      clear eW0 hB HL2 hc1 hf1 hc1a hf1a hcut h0 h1 e0 hlt hlta
      have HS := Aside0.mk (show passS (((a : Int), (m : Int)) :: ts) s = strOfNums (passL a m (byts s)) from rfl)
      obtain ⟨W2, eW2⟩ : ∃ W2, W2 = W0.alloc (Obj.cells #[Value.int IntKind.i64 (a : Int), Value.int IntKind.i64 (m : Int)] 100) := ⟨_, rfl⟩
      have hsz2 : W2.heap.size = W0.heap.size + 1 := by rw [eW2]; simp
      have hb2 : W2.heap[W0.heap.size]? = some (.cells #[Value.int IntKind.i64 (a : Int), Value.int IntKind.i64 (m : Int)] 100 (0, 0)) := by rw [eW2]; exact heap_alloc_new W0 _
      have hconv := Lib.run_convert_string_bytes (P := Try.prog) W2 9 33 5 s Try.underlying9 Try.underlying33 Try.underlying5
      obtain ⟨cap, ecap⟩ : ∃ c, c = grownCap W2 s.size 0 5 := ⟨_, rfl⟩
      obtain ⟨W3, eW3⟩ : ∃ W3, W3 = Lib.bytesWorld W2 5 s := ⟨_, rfl⟩
      have hb3 : W3.heap[W0.heap.size]? = some (.cells #[Value.int IntKind.i64 (a : Int), Value.int IntKind.i64 (m : Int)] 100 (0, 0)) := by rw [eW3, Lib.bytesWorld_at_old _ _ _ _ (by omega)]; exact hb2
      have hB3 : Below W0.heap.size W0 W3 := by
        rw [eW3]
        refine ((Below.refl _ W0).alloc (Nat.le_refl _) (Obj.cells #[Value.int IntKind.i64 (a : Int), Value.int IntKind.i64 (m : Int)] 100)).trans ?_
        rw [← eW2]
        exact ⟨rfl, rfl, rfl, by rw [Lib.bytesWorld_size]; omega, fun k hk => Lib.bytesWorld_at_old W2 5 s k (by omega)⟩
      have HRow : RowJ (W0.heap.size + 1) s (byts s) W3 := by
        intro i hi
        rw [← hsz2, eW3]
        refine ⟨?_, ?_⟩
        · rw [Lib.bytesWorld_cell W2 5 s i hi]
          have : i < s.data.toList.length := hi
          simp [byts, List.getElem?_eq_getElem this]
        · simp [World.frozen?, Lib.bytesWorld_at_new]
          have : s.size ≤ (Lib.bytesCells W2 5 s).size := by
            unfold Lib.bytesCells
            rw [Array.size_append, Array.size_map]
            exact Nat.le_add_right _ _
          omega
      rw [← eW3, ← ecap, hsz2] at hconv
      rw [← eW2]
      clear eW3 ecap eW2 hb2 hsz2
      go_wp2_with fail
      go_loopw [10] (fun v10 wr => ∃ i : Nat, i ≤ 8 ∧ v10 = .int .i64 i ∧ Aside0 (wr.heap[W0.heap.size]? = some (.cells #[.int .i64 (a : Int), .int .i64 (m : Int)] 100 (0, 0))) ∧ Aside0 (RowJ (W0.heap.size + 1) s (foldF (byts s) (upB a m i)) wr) ∧ Aside0 (Below W0.heap.size W0 wr)) (fun v10 _ => 8 - (intOf v10).toNat)
      case atStart => exact ⟨0, by omega, rfl, ⟨hb3⟩, ⟨HRow⟩, ⟨hB3⟩⟩
      case round =>
        obtain ⟨i, hi, rfl, HX, HJ, HB⟩ := hrel
        clear hconv hb3 HRow hB3
        by_cases hlt : i < 8
        · have hc0 : wr.cell? ⟨W0.heap.size, 0, none⟩ = some (.int .i64 (a : Int)) := by rw [cell_of_row wr _ _ _ 100 (0, 0) HX.out]; rfl
          have hc1 : wr.cell? ⟨W0.heap.size, 1, none⟩ = some (.int .i64 (m : Int)) := by rw [cell_of_row wr _ _ _ 100 (0, 0) HX.out]; rfl
          by_cases hbit : ((m : Int) / 2 ^ i) % 2 = 1
          · have HF := Aside0.mk (foldF_on (xs := byts s) ha hlt hm hbit)
            have hb' : (((m : Int) / 2 ^ i) % 2 == 1) = true := beq_iff_eq.mpr hbit
            by_cases hk : (a + i) / 8 < s.size
            · have hk1 : ((a : Int) + (i : Int)) / 8 < (s.size : Int) := by omega
              go_wp2_with fail
              have hcf := HJ.out _ hk
              obtain ⟨k, ek⟩ : ∃ k, k = a + i := ⟨_, rfl⟩
              have ek2 : (a : Int) + (i : Int) = (k : Int) := by omega
              rw [← ek] at hcf hk
              rw [ek2]
              have HEK := Aside0.mk ek
              have hk80 : k < 80 := by omega
              obtain ⟨hc, hf⟩ := hcf
              obtain ⟨q, eq⟩ : ∃ q, q = k / 8 := ⟨_, rfl⟩
              obtain ⟨r, er⟩ : ∃ r, r = k % 8 := ⟨_, rfl⟩
              have HQ := Aside0.mk eq
              have HR := Aside0.mk er
              have hr8 : r < 8 := by omega
              have q1 : (k : Int) / 8 = (q : Int) := by omega
              have q2 : (k : Int).tdiv 8 = (q : Int) := by rw [Int.tdiv_eq_ediv_of_nonneg (by omega)]; exact q1
              have r1 : (k : Int) % 8 = (r : Int) := by omega
              have r2 : (k : Int).tmod 8 = (r : Int) := by rw [Int.tmod_eq_emod_of_nonneg (by omega)]; exact r1
              have w1_ : IntKind.i64.wrap (q : Int) = (q : Int) := IntWalk.i64_in _ (by omega)
              have w2_ : IntKind.i64.wrap (r : Int) = (r : Int) := IntWalk.i64_in _ (by omega)
              have hmin : min r 8 = r := by omega
              have hq0 : (q : Int) < (s.size : Int) := by omega
              rw [← eq] at hc hf hk
              clear eq er hk1 ek ek2 hbit hb' hc0 hc1
              refine wp_region_any (by kernel_rfl) ?_
              change wpAny _ _ _ _ _ _ _ (World.drew _)
              refine wpAny_take (i := 0) (v := ?_) rfl (by kernel_rfl) (by kernel_rfl) (by kernel_rfl) (fun _ _ _ h => h) (Or.inl ⟨by rfl, ?_⟩) ?_
              rotate_left
              · intro w
                go_simp
                with_reducible rfl
              refine wpAny_take (i := 1) (v := ?_) rfl (by kernel_rfl) (by kernel_rfl) (by kernel_rfl) (fun _ _ _ h => h) (Or.inl ⟨by rfl, ?_⟩) ?_
              rotate_left
              · intro w
                go_simp
                with_reducible rfl
              refine wpAny_take (i := 3) (v := ?_) rfl (by kernel_rfl) (by kernel_rfl) (by kernel_rfl) (fun _ _ _ h => h) (Or.inl ⟨by rfl, ?_⟩) ?_
              rotate_left
              · intro w
                go_simp
                with_reducible rfl
              refine wpAny_take (i := 4) (v := ?_) rfl (by kernel_rfl) (by kernel_rfl) (by kernel_rfl) (fun _ _ _ h => h) (Or.inl ⟨by rfl, ?_⟩) ?_
              rotate_left
              · intro w
                go_simp
                with_reducible rfl
              refine wpAny_take (i := 8) (v := ?_) rfl (by kernel_rfl) (by kernel_rfl) (by kernel_rfl) (fun _ _ _ h => h) (Or.inl ⟨by rfl, ?_⟩) ?_
              rotate_left
              · intro w
                go_simp
                with_reducible rfl
              refine wpAny_take (i := 2) (v := ?_) rfl (by kernel_rfl) (by kernel_rfl) (by kernel_rfl) (fun _ _ _ h => h) (Or.inl ⟨by rfl, ?_⟩) ?_
              rotate_left
              · intro w
                go_simp
                with_reducible rfl
              refine wpAny_take (i := 5) (v := ?_) rfl (by kernel_rfl) (by kernel_rfl) (by kernel_rfl) (fun _ _ _ h => h) (Or.inl ⟨by rfl, ?_⟩) ?_
              rotate_left
              · intro w
                go_simp
                with_reducible rfl
              refine wpAny_take (i := 9) (v := ?_) rfl (by kernel_rfl) (by kernel_rfl) (by kernel_rfl) (fun _ _ _ h => h) (Or.inl ⟨by rfl, ?_⟩) ?_
              rotate_left
              · intro w
                go_simp
                with_reducible rfl
              refine wpAny_take (i := 10) (v := ?_) rfl (by kernel_rfl) (by kernel_rfl) (by kernel_rfl) (fun _ _ _ h => h) (Or.inl ⟨by rfl, ?_⟩) ?_
              rotate_left
              · intro w
                go_simp
                with_reducible rfl
              refine wpAny_take (i := 6) (v := ?_) rfl (by kernel_rfl) (by kernel_rfl) (by kernel_rfl) (fun _ _ _ h => h) (Or.inl ⟨by rfl, ?_⟩) ?_
              rotate_left
              · intro w
                go_simp
                with_reducible rfl
              refine wpAny_ready (rs := [7]) (by kernel_rfl) (by simp) ?_
              refine AllReady.cons rfl (fun K hK => ?_) AllReady.nil
              go_simp
              refine hK _ _ ?_
              clear hK K
              refine wpAny_take (i := 11) (v := ?_) rfl (by kernel_rfl) (by kernel_rfl) (by kernel_rfl) (fun _ _ _ h => h) (Or.inl ⟨by rfl, ?_⟩) ?_
              rotate_left
              · intro w
                go_simp
                with_reducible rfl
              refine wpAny_take (i := 12) (v := ?_) rfl (by kernel_rfl) (by kernel_rfl) (by kernel_rfl) (fun _ _ _ h => h) (Or.inl ⟨by rfl, ?_⟩) ?_
              rotate_left
              · intro w
                go_simp
                with_reducible rfl
              refine wpAny_ready (rs := [13]) (by kernel_rfl) (by simp) ?_
              refine AllReady.cons rfl (fun K hK => ?_) AllReady.nil
              go_simp
              refine hK _ _ ?_
              clear hK K
              refine wpAny_done (by kernel_rfl) ?_ _
              obtain ⟨rfl⟩ := HQ
              obtain ⟨rfl⟩ := HR
              have HJ2 := Aside0.mk (rowJ_step (by rw [foldF_length, byts_length]) HJ.out hk)
              have HX2 := Aside0.mk (show (wr.setCell ⟨W0.heap.size + 1, k / 8, none⟩ (.int .u8 (bits .xor .u8 ((foldF (byts s) (upB a m i))[k / 8]?.getD 0) (128 / 2 ^ (k % 8))))).drew.heap[W0.heap.size]? = _ from (Below.heap_setCell wr ⟨W0.heap.size + 1, k / 8, none⟩ (.int .u8 (bits .xor .u8 ((foldF (byts s) (upB a m i))[k / 8]?.getD 0) (128 / 2 ^ (k % 8)))) W0.heap.size (by show W0.heap.size ≠ W0.heap.size + 1; omega)).trans HX.out)
              have HB2 := Aside0.mk ((HB.out.setCell (p := ⟨W0.heap.size + 1, k / 8, none⟩) (by show W0.heap.size ≤ W0.heap.size + 1; omega) (.int .u8 (bits .xor .u8 ((foldF (byts s) (upB a m i))[k / 8]?.getD 0) (128 / 2 ^ (k % 8))))).drew)
              generalize (wr.setCell ⟨W0.heap.size + 1, k / 8, none⟩ (.int .u8 (bits .xor .u8 ((foldF (byts s) (upB a m i))[k / 8]?.getD 0) (128 / 2 ^ (k % 8))))).drew = w9 at *
              clear q1 q2 r1 r2 w1_ w2_ hmin hq0 hr8 hc hf
              go_wp2
              go_roundw
              case rel => exact ⟨_, _, _, _, _, _, _, _, _, _, _, _, _, _, _, _, _, _, _, _, _, _, _, _, _, _, _, _, _, _, _, _, _, _, _, _, ⟨i + 1, by omega, by go_num, HX2, ⟨by rw [HF.out, ← HEK.out]; exact HJ2.out⟩, HB2⟩, rfl⟩
              case measure => simp [intOf]; omega
            · have hk1 : ¬ ((a : Int) + (i : Int)) / 8 < (s.size : Int) := by omega
              have HFS := Aside0.mk (flipF_skip (xs := foldF (byts s) (upB a m i)) (k := a + i) (by rw [foldF_length, byts_length]; exact hk))
              go_wp2
              go_roundw
              case rel => exact ⟨i + 1, by omega, by go_num, ⟨by rw [HF.out, HFS.out]; exact HJ.out⟩⟩
              case measure => simp [intOf]; omega
          · have HF := Aside0.mk (foldF_off (xs := byts s) (a := a) hm hbit)
            have hb' : (((m : Int) / 2 ^ i) % 2 == 1) = false := beq_eq_false_iff_ne.mpr hbit
            go_wp2
            go_roundw
            case rel => exact ⟨_, _, _, _, _, _, _, _, _, _, _, _, _, _, _, _, _, _, _, _, _, _, _, _, _, _, _, _, _, _, _, _, _, _, _, _, ⟨i + 1, by omega, by go_num, HX, ⟨by rw [HF.out]; exact HJ.out⟩, HB⟩, rfl⟩
            case measure => simp [intOf]; omega
        · obtain rfl : i = 8 := by omega
          have hlen : (foldF (byts s) (upB a m 8)).length = s.size := by rw [foldF_length, byts_length]
          have hstr := run_convert_bytes_arg (P := Try.prog) wr 33 5 Try.underlying33 Try.underlying5 (W0.heap.size + 1) 0 s.size cap _ hlen (fun i hi => by rw [Nat.zero_add]; exact (HJ.out i hi).1) 9 Try.underlying9
          rw [show foldF (byts s) (upB a m 8) = passL a m (byts s) from rfl] at hstr
          clear hlen
          go_wp2
          go_returns
          refine ⟨?_, HL3.out.then HB.out⟩
          rw [HS.out]
          rfl
end Go.Proofs.Ytcmcgjjhbjlkpaa.Air
