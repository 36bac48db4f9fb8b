-- Written by wip/tools/hookprint.py (the kit's print, with functions given by hand). Lean checks it.
import Derived.Test.YtcmcgjjhbjlkpaaSpx0
import Derived.Test.YtcmcgjjhbjlkpaaSpx1
namespace Go.Proofs.Ytcmcgjjhbjlkpaa.Sp
open Go.RowKit Go.Proofs.YtcmcgjjhbjlkpaaW.PrintWords Go.Proofs.YtcmcgjjhbjlkpaaW.PrintLast Go.Proofs.YtcmcgjjhbjlkpaaW.PrintMore
attribute [local go_sem] max2_int min2_int max_two min_two max_three min_three max_four min_four   -- for this text's walks alone
set_option linter.unusedVariables false
set_option linter.unusedSimpArgs false

/-! ### spec_small: function 44 -/
def spec_small.f (a0 : Int) : Option (Int) := some (mn (mx a0 0) 1073741824)
set_option maxHeartbeats 8000000 in
set_option maxRecDepth 100000 in
theorem spec_small.calls (a0 : Int) (r : Int) (w : World) (h : spec_small.f a0 = some r) :
    Calls Try.prog 44 #[.int .i64 a0] w fun e w' => e = .returned (.int .i64 r) ∧ Below w.heap.size w w' := by
  have HB := Aside0.mk (Below.refl w.heap.size w)
  have H : (some (mn (mx a0 0) 1073741824)) = some r := h
  clear h
  obtain ⟨ji2, hji2⟩ : ∃ j_ : Int, (mx a0 0) = j_ := ⟨_, rfl⟩
  replace H : (some (mn (ji2) 1073741824)) = some r := by first | (rw [hji2] at H; exact H) | (simp only [hji2] at H ⊢; exact H)
  (try (have hji2l : 0 ≤ ji2 := by (rw [← hji2]; unfold mx; (repeat' split) <;> omega)))
  (try (have hji2m : 0 ≤ ji2 := by omega))
  have hji2_ : (if a0 < 0 then 0 else a0) = ji2 := hji2
  obtain ⟨ji3, hji3⟩ : ∃ j_ : Int, (mn (ji2) 1073741824) = j_ := ⟨_, rfl⟩
  replace H : (some ji3) = some r := by first | (rw [hji3] at H; exact H) | (simp only [hji3] at H ⊢; exact H)
  have hji3_ : (if 1073741824 < (ji2) then 1073741824 else (ji2)) = ji3 := hji3
  obtain rfl := Option.some.inj H
  go_enter Try.func44, Try.ntmps44
  go_wp2
  go_ret
  exact ⟨by first | rfl | (simp [errW_none, errW_some] <;> rfl) | (simp only [← hji2, ← hji3]; first | rfl | (simp [errW_none, errW_some] <;> rfl)) | (simp [*, errW_none, errW_some] <;> rfl), by repeat (first | (with_reducible first | exact HB.out | apply below_alloc | apply pw_below_drewN | apply below_drew1) | exact HB.out)⟩

/-! ### spec_Windows: function 16 -/
def spec_Windows.l0 : Nat → Int → Int → Int → List Int → Int → Int → Option (Int)
  | 0, _, _, _, _, _, _ => none
  | k + 1, x1, x2, x7, x14, x15, x16 => if x16 < x15 then (if 0 ≤ x16 then (if x16 < (x14.length : Int) then ((spec_small.f (rd x14 x16)).bind fun t133 => (if (wrap64 ((wrap64 ((mx x7 0) + t133)) - x2)) > x1 then (some x16) else (spec_Windows.l0 k x1 x2 (wrap64 ((wrap64 ((mx x7 0) + t133)) - x2)) x14 x15 (wrap64 (x16 + 1))))) else (none)) else (none)) else (some (-1))
def spec_Windows.f (k : Nat) (l0 : List Int) (a1 : Int) (a2 : Int) : Option (Int) := (spec_small.f a1).bind fun t130 => ((spec_small.f a2).bind fun t131 => (spec_Windows.l0 k t130 t131 0 l0 (l0.length : Int) 0))
theorem spec_Windows.mono_l : ∀ k, (∀ y0 y1 y2 y3 y4 y5, LeO (spec_Windows.l0 k y0 y1 y2 y3 y4 y5) (spec_Windows.l0 (k + 1) y0 y1 y2 y3 y4 y5))
  | 0 => fun _ _ _ _ _ _ r h => by simp [spec_Windows.l0] at h
  | k + 1 => by
    have ih0 := spec_Windows.mono_l k
    · intro y0 y1 y2 y3 y4 y5
      unfold spec_Windows.l0
      repeat' first
      | (with_reducible exact ih0 _ _ _ _ _ _)
      | (with_reducible exact LeO.refl _)
      | (with_reducible exact LeO.none _)
      | (with_reducible refine LeO.ite ?_ ?_)
      | (with_reducible refine LeO.bind ?_ (fun _ => ?_))
      | exact ih0 _ _ _ _ _ _
      | exact LeO.none _
      | refine LeO.ite ?_ ?_
      | refine LeO.bind ?_ (fun _ => ?_)
theorem spec_Windows.mono : ∀ a0 a1 a2 k, LeO (spec_Windows.f k a0 a1 a2) (spec_Windows.f (k + 1) a0 a1 a2) := by
  intro a0 a1 a2 k
  have ih0 := spec_Windows.mono_l k
  unfold spec_Windows.f
  repeat' first
      | (with_reducible exact ih0 _ _ _ _ _ _)
      | (with_reducible exact LeO.refl _)
      | (with_reducible exact LeO.none _)
      | (with_reducible refine LeO.ite ?_ ?_)
      | (with_reducible refine LeO.bind ?_ (fun _ => ?_))
      | exact ih0 _ _ _ _ _ _
      | exact LeO.none _
      | refine LeO.ite ?_ ?_
      | refine LeO.bind ?_ (fun _ => ?_)
set_option maxHeartbeats 8000000 in
set_option maxRecDepth 100000 in
theorem spec_Windows.calls (k : Nat) (A0 : Option Addr) (c0 : Nat) (l0 : List Int) (a1 : Int) (a2 : Int) (r : Int) (w : World) (hr0 : Kd.C (Kd.int .i64) w A0 l0.length l0) (hc0 : l0.length ≤ c0) (h : spec_Windows.f k l0 a1 a2 = some r) :
    Calls Try.prog 16 #[.slice A0 l0.length c0, .int .i64 a1, .int .i64 a2] w fun e w' => e = .returned (.int .i64 r) ∧ Below w.heap.size w w' := by
  have HR0 := Aside0.mk hr0
  have HC0 := Aside0.mk hc0
  clear hr0 hc0
  have HB := Aside0.mk (Below.refl w.heap.size w)
  have H : ((spec_small.f a1).bind fun t130 => ((spec_small.f a2).bind fun t131 => (spec_Windows.l0 k t130 t131 0 l0 (l0.length : Int) 0))) = some r := h
  clear h
  replace H := Option.bind_eq_some_iff.mp H
  obtain ⟨t130, A40, H⟩ := H
  replace H : ((spec_small.f a2).bind fun t131 => (spec_Windows.l0 k t130 t131 0 l0 (l0.length : Int) 0)) = some r := H
  have A4 := Aside0.mk A40
  clear A40
  replace H := Option.bind_eq_some_iff.mp H
  obtain ⟨t131, A50, H⟩ := H
  replace H : (spec_Windows.l0 k t130 t131 0 l0 (l0.length : Int) 0) = some r := H
  have A5 := Aside0.mk A50
  clear A50
  have H' := Aside0.mk H
  clear H
  go_enter Try.func16, Try.ntmps16
  go_wp2_with (first | ((with_reducible refine gate_callee (f := 44) rfl ?_); refine goesL_ (some 11) rfl rfl Try.func44 (by kernel_rfl) rfl #[.int .i64 a1] rfl (by (try simp only [List.map_toArray, List.map_cons, List.map_nil]); first | done | rfl | (simp only [List.length_drop, List.length_take]; rfl)) ?_; (with_reducible refine (spec_small.calls a1 t130 _ A4.out).mono ?_); rintro e w6 ⟨rfl, hb⟩; refine ⟨_, rfl, ?_⟩; have n0_ := Aside0.mk (below_step (by repeat (first | (with_reducible first | exact HB.out | apply below_alloc | apply pw_below_drewN | apply below_drew1) | exact HB.out)) hb); clear HB; have HB := n0_; clear n0_; (try clear hb); (try clear hb2); (try clear hk); (try clear hi)) | ((with_reducible refine gate_callee (f := 44) rfl ?_); refine goesL_ (some 13) rfl rfl Try.func44 (by kernel_rfl) rfl #[.int .i64 a2] rfl (by (try simp only [List.map_toArray, List.map_cons, List.map_nil]); first | done | rfl | (simp only [List.length_drop, List.length_take]; rfl)) ?_; (with_reducible refine (spec_small.calls a2 t131 _ A5.out).mono ?_); rintro e w7 ⟨rfl, hb⟩; refine ⟨_, rfl, ?_⟩; have n0_ := Aside0.mk (below_step (by repeat (first | (with_reducible first | exact HB.out | apply below_alloc | apply pw_below_drewN | apply below_drew1) | exact HB.out)) hb); clear HB; have HB := n0_; clear n0_; (try clear hb); (try clear hb2); (try clear hk); (try clear hi)))
  go_loopg [7, 16] k (fun kq v7 v16 w' => ∃ (x7_1 : Int) (x16_1 : Int), v7 = .int .i64 x7_1 ∧ v16 = .int .i64 x16_1 ∧ Aside0 (spec_Windows.l0 kq t130 t131 x7_1 l0 (l0.length : Int) x16_1 = some r) ∧ Aside0 (kq ≤ k) ∧ Aside0 (Below w.heap.size w w'))
  case atStart => exact ⟨(0), (0), (by first | rfl | (simp; done) | (simp [*]; done)), (by first | rfl | (simp; done) | (simp [*]; done)), H', ⟨Nat.le_refl _⟩, ⟨by repeat (first | (with_reducible first | exact HB.out | apply below_alloc | apply pw_below_drewN | apply below_drew1) | exact HB.out)⟩⟩
  case round =>
    clear H'
    try clear c1
    try clear p2
    try clear c4
    obtain ⟨x7_1, x16_1, rfl, rfl, HA, HK1, HB⟩ := hrel
    cases gk with
    | zero => exact absurd HA.out (by simp [spec_Windows.l0])
    | succ k1 =>
      have H := HA.out
      clear HA
      simp only [spec_Windows.l0] at H
      by_cases c8 : x16_1 < (l0.length : Int)
      · rw [if_pos c8] at H
        have c8b0 : decide (x16_1 < (l0.length : Int)) = true := decide_eq_true c8
        clear c8
        by_cases c9 : 0 ≤ x16_1
        · rw [if_pos c9] at H
          have c9b0 : decide (0 ≤ x16_1) = true := decide_eq_true c9
          clear c9
          by_cases c10 : x16_1 < (l0.length : Int)
          · rw [if_pos c10] at H
            have c10b0 : decide (x16_1 < (l0.length : Int)) = true := decide_eq_true c10
            clear c10
            obtain ⟨ji11, hji11⟩ : ∃ j_ : Int, (mx x7_1 0) = j_ := ⟨_, rfl⟩
            replace H : ((spec_small.f (rd l0 x16_1)).bind fun t133 => (if (wrap64 ((wrap64 ((ji11) + t133)) - t131)) > t130 then (some x16_1) else (spec_Windows.l0 k1 t130 t131 (wrap64 ((wrap64 ((ji11) + t133)) - t131)) l0 (l0.length : Int) (wrap64 (x16_1 + 1))))) = some r := by first | (rw [hji11] at H; exact H) | (simp only [hji11] at H ⊢; exact H)
            have hji11_ : (if x7_1 < 0 then 0 else x7_1) = ji11 := hji11
            replace H := Option.bind_eq_some_iff.mp H
            obtain ⟨t133, A120, H⟩ := H
            replace H : (if (wrap64 ((wrap64 ((ji11) + t133)) - t131)) > t130 then (some x16_1) else (spec_Windows.l0 k1 t130 t131 (wrap64 ((wrap64 ((ji11) + t133)) - t131)) l0 (l0.length : Int) (wrap64 (x16_1 + 1)))) = some r := H
            have A12 := Aside0.mk A120
            clear A120
            by_cases c13 : (wrap64 ((wrap64 ((ji11) + t133)) - t131)) > t130
            · rw [if_pos c13] at H
              have c13b0 : decide (t130 < (wrap64 ((wrap64 ((ji11) + t133)) - t131))) = true := decide_eq_true c13
              clear c13
              obtain rfl := Option.some.inj H
              have p132 : 0 ≤ (x16_1 : Int) := of_decide_eq_true (by first | (with_reducible assumption) | assumption)
              have q132 : x16_1 < (l0.length : Int) := of_decide_eq_true (by first | (with_reducible assumption) | assumption)
              obtain ⟨ad132, e132, hx132_0⟩ := Kd.at_int HR0.out x16_1 p132 q132
              cases e132
              replace hx132_0 := (HB.out.cell (World.block_lt_of_cell? w _ hx132_0)).trans hx132_0
              replace p132 := eq_true p132
              replace q132 := eq_true q132
              go_wp2_with (first | ((with_reducible refine gate_callee (f := 44) rfl ?_); refine goesL_ (some 24) rfl rfl Try.func44 (by kernel_rfl) rfl #[.int .i64 (rd l0 x16_1)] rfl (by (try simp only [List.map_toArray, List.map_cons, List.map_nil]); first | done | rfl | (simp only [List.length_drop, List.length_take]; rfl)) ?_; (with_reducible refine (spec_small.calls (rd l0 x16_1) t133 _ A12.out).mono ?_); rintro e w14 ⟨rfl, hb⟩; refine ⟨_, rfl, ?_⟩; have n0_ := Aside0.mk (below_step (by repeat (first | (with_reducible first | exact HB.out | apply below_alloc | apply pw_below_drewN | apply below_drew1) | exact HB.out)) hb); clear HB; have HB := n0_; clear n0_; (try clear hb); (try clear hb2); (try clear hk); (try clear hi)))
              go_ret
              exact ⟨by first | rfl | (simp [errW_none, errW_some] <;> rfl) | (simp only [← hji11]; first | rfl | (simp [errW_none, errW_some] <;> rfl)) | (simp [*, errW_none, errW_some] <;> rfl), by repeat (first | (with_reducible first | exact HB.out | apply below_alloc | apply pw_below_drewN | apply below_drew1) | exact HB.out)⟩
            · rw [if_neg c13] at H
              have c13b0 : decide (t130 < (wrap64 ((wrap64 ((ji11) + t133)) - t131))) = false := decide_eq_false c13
              clear c13
              have H' := Aside0.mk H
              clear H
              have p132 : 0 ≤ (x16_1 : Int) := of_decide_eq_true (by first | (with_reducible assumption) | assumption)
              have q132 : x16_1 < (l0.length : Int) := of_decide_eq_true (by first | (with_reducible assumption) | assumption)
              obtain ⟨ad132, e132, hx132_0⟩ := Kd.at_int HR0.out x16_1 p132 q132
              cases e132
              replace hx132_0 := (HB.out.cell (World.block_lt_of_cell? w _ hx132_0)).trans hx132_0
              replace p132 := eq_true p132
              replace q132 := eq_true q132
              go_wp2_with (first | ((with_reducible refine gate_callee (f := 44) rfl ?_); refine goesL_ (some 24) rfl rfl Try.func44 (by kernel_rfl) rfl #[.int .i64 (rd l0 x16_1)] rfl (by (try simp only [List.map_toArray, List.map_cons, List.map_nil]); first | done | rfl | (simp only [List.length_drop, List.length_take]; rfl)) ?_; (with_reducible refine (spec_small.calls (rd l0 x16_1) t133 _ A12.out).mono ?_); rintro e w15 ⟨rfl, hb⟩; refine ⟨_, rfl, ?_⟩; have n0_ := Aside0.mk (below_step (by repeat (first | (with_reducible first | exact HB.out | apply below_alloc | apply pw_below_drewN | apply below_drew1) | exact HB.out)) hb); clear HB; have HB := n0_; clear n0_; (try clear hb); (try clear hb2); (try clear hk); (try clear hi)))
              go_roundg k1
              case measure => have := HK1.out; omega
              case rel => exact ⟨(wrap64 ((wrap64 ((ji11) + t133)) - t131)), (wrap64 (x16_1 + 1)), (by first | rfl | (simp; done) | (simp only [← hji11] <;> (first | rfl | simp)) | (simp [*]; done)), (by first | rfl | (simp; done) | (simp [*]; done)), H', ⟨by have := HK1.out; omega⟩, ⟨by repeat (first | (with_reducible first | exact HB.out | apply below_alloc | apply pw_below_drewN | apply below_drew1) | exact HB.out)⟩⟩
          · rw [if_neg c10] at H
            exact absurd H (by simp)
        · rw [if_neg c9] at H
          exact absurd H (by simp)
      · rw [if_neg c8] at H
        have c8b0 : decide (x16_1 < (l0.length : Int)) = false := decide_eq_false c8
        clear c8
        obtain rfl := Option.some.inj H
        go_wp2
        go_ret
        exact ⟨by first | rfl | (simp [errW_none, errW_some] <;> rfl) | (simp [*, errW_none, errW_some] <;> rfl), by repeat (first | (with_reducible first | exact HB.out | apply below_alloc | apply pw_below_drewN | apply below_drew1) | exact HB.out)⟩

/-! ### By hand: the law's given -/
def gOf (s : ByteArray) : S35 := if s.toList = [99] then ⟨1, 2, s⟩ else ⟨0, 0, s⟩
def aeriallaw30_given.f (l0 : List ByteArray) : Option (List S35) := if l0.length < 4398046511104 then some (l0.map gOf) else none
theorem gstr_at {w : World} {A : Option Addr} {n : Nat} {xs : List ByteArray} (h : Kd.C Kd.string w A n xs) (i : Nat) (h1 : i < n) : ∃ ad, A = some ad ∧ w.cell? (ad.add i) = some (.string (xs.getD i ByteArray.empty)) := by
  obtain ⟨ad, e, hc⟩ := (Kd.reads_of_C (d := ByteArray.empty) (h1 := fun _ => rfl) h).2.2 (by omega)
  exact ⟨ad, e, hc i h1⟩
theorem gtake_next {xs : List ByteArray} {i : Nat} {s : ByteArray} (hp : s = xs.getD i ByteArray.empty) (hi : i < xs.length) : (xs.take (i + 1)).map gOf = (xs.take i).map gOf ++ [gOf s] := by
  rw [List.take_succ_eq_append_getElem hi, hp, List.map_append, List.getD_eq_getElem?_getD, List.getElem?_eq_getElem hi]
  rfl
set_option maxHeartbeats 2000000 in
set_option maxRecDepth 100000 in
theorem aeriallaw30_given.calls (A0 : Option Addr) (c0 : Nat) (l0 : List ByteArray) (r : List (S35)) (w : World) (hr0 : Kd.C Kd.string w A0 l0.length l0) (hc0 : l0.length ≤ c0) (h : aeriallaw30_given.f l0 = some r) :
    Calls Try.prog 43 #[.slice A0 l0.length c0] w fun e w' => ∃ v0_ : Value, e = .returned (v0_) ∧ Kd.R k35 35 w' w.heap.size (fun _ => True) v0_ r ∧ Below w.heap.size w w' := by
  by_cases hl : l0.length < 4398046511104
  · simp only [aeriallaw30_given.f, if_pos hl, Option.some.injEq] at h
    have HE := Aside0.mk h
    have HR := Aside0.mk (fun i hi => gstr_at hr0 i hi)
    obtain ⟨n, hn⟩ : ∃ n, n = l0.length := ⟨_, rfl⟩
    rw [← hn] at hl HR ⊢
    have HN := Aside0.mk hn
    clear hn h hr0 hc0
    have HS := Aside0.mk (Below.refl w.heap.size w)
    go_enter Try.func43, Try.ntmps43
    go_wp2
    go_loopw [3, 4] (fun v3 v4 wr => ∃ (i : Nat), i ≤ n ∧ v4 = .int .i64 i ∧ Aside0 (Kd.R k35 35 wr w.heap.size (fun _ => True) v3 ((l0.take i).map gOf)) ∧ Aside0 (Below w.heap.size w wr)) (fun _ v4 _ => n - (intOf v4).toNat)
    case atStart => exact ⟨0, Nat.zero_le _, rfl, ⟨by simpa using Kd.R_nil _ _ _ _ _⟩, HS⟩
    case round =>
      obtain ⟨i, hi, rfl, HO, HB⟩ := hrel
      by_cases hlt : i < n
      · obtain ⟨ad, rfl, x0⟩ := HR.out i hlt
        replace x0 := (HB.out.cell (World.block_lt_of_cell? w _ x0)).trans x0
        have hblk : (ad.add i).block < wr.heap.size := World.block_lt_of_cell? wr _ x0
        have x1 : ∀ o, (wr.alloc o).cell? (ad.add i) = wr.cell? (ad.add i) := fun o => World.cell?_alloc_lt _ _ _ hblk
        rw [x0] at x1
        clear hblk
        obtain ⟨s, hs⟩ : ∃ s, s = l0.getD i ByteArray.empty := ⟨_, rfl⟩
        rw [← hs] at x0 x1
        have HP := Aside0.mk (gtake_next hs (by rw [← HN.out]; exact hlt))
        clear hs
        have hsz := HB.out.size
        have hlen : ((l0.take i).map gOf).length ≤ n := by rw [List.length_map]; exact Nat.le_trans (List.length_take_le _ _) hi
        obtain ⟨L, hL⟩ : ∃ L, L = (l0.take i).map gOf := ⟨_, rfl⟩
        rw [← hL] at HO HP hlen
        clear hL
        by_cases hc : s.toList = [99]
        · have hg : gOf s = ⟨1, 2, s⟩ := by simp [gOf, hc]
          rw [hg] at HP
          have hb : (s.toList == [99]) = true := beq_iff_eq.mpr hc
          clear hg hc
          go_wp2_with ((with_reducible refine gate_builtin (b := .append) (xs := #[.tmp 24, .tmp 26]) rfl ?_); at_builtin; refine Kd.R_append k35 (w0 := w) w.heap.size rfl (.tmp 24) (.tmp 26) 22 35 (.agg #[(.int .i64 0), (.int .i64 0), (.string ⟨#[]⟩)]) 32 rfl Try.underlying22 info35 rfl (by decide) (by omega) _ L (⟨1, 2, s⟩ : S35) [.int .i64 1, .int .i64 2, .string s] (fun _ => True) (fun _ => False) rfl ?aX ?aP (fun _ hk => hk.elim) ?aF ?aO ?aB ?aS ?aL ?_; (case aX => rw [World.size_alloc]; rfl); (case aP => exact k35_mkM _ _ _ (⟨1, 2, s⟩ : S35)); (case aF => exact (fun _ _ => trivial)); (case aO => exact Kd.R_alloc HO.out _); (case aB => exact HB.out.alloc HB.out.size _); (case aS => simp; omega); (case aL => omega); intro v1 w1 ho hb1 _ _; have HO1 := Aside0.mk ho; have HB1 := Aside0.mk hb1; clear ho hb1)
          go_roundw
          case rel => exact ⟨i + 1, by omega, by go_num, ⟨by rw [HP.out]; exact HO1.out⟩, HB1⟩
          case measure => simp [intOf]; omega
        · have hg : gOf s = ⟨0, 0, s⟩ := by simp [gOf, hc]
          rw [hg] at HP
          have hb : (s.toList == [99]) = false := beq_eq_false_iff_ne.mpr hc
          clear hg hc
          go_wp2_with ((with_reducible refine gate_builtin (b := .append) (xs := #[.tmp 24, .tmp 26]) rfl ?_); at_builtin; refine Kd.R_append k35 (w0 := w) w.heap.size rfl (.tmp 24) (.tmp 26) 22 35 (.agg #[(.int .i64 0), (.int .i64 0), (.string ⟨#[]⟩)]) 32 rfl Try.underlying22 info35 rfl (by decide) (by omega) _ L (⟨0, 0, s⟩ : S35) [.int .i64 0, .int .i64 0, .string s] (fun _ => True) (fun _ => False) rfl ?aX ?aP (fun _ hk => hk.elim) ?aF ?aO ?aB ?aS ?aL ?_; (case aX => rw [World.size_alloc]; rfl); (case aP => exact k35_mkM _ _ _ (⟨0, 0, s⟩ : S35)); (case aF => exact (fun _ _ => trivial)); (case aO => exact Kd.R_alloc HO.out _); (case aB => exact HB.out.alloc HB.out.size _); (case aS => simp; omega); (case aL => omega); intro v1 w1 ho hb1 _ _; have HO1 := Aside0.mk ho; have HB1 := Aside0.mk hb1; clear ho hb1)
          go_roundw
          case rel => exact ⟨i + 1, by omega, by go_num, ⟨by rw [HP.out]; exact HO1.out⟩, HB1⟩
          case measure => simp [intOf]; omega
      · go_wp2
        go_ret
        exact ⟨_, rfl, by have := HO.out; rw [List.take_of_length_le (by rw [← HN.out]; omega), HE.out] at this; exact this, HB.out⟩
  · simp [aeriallaw30_given.f, hl] at h

/-! ### aeriallaw30_accepted: function 42 -/
def aeriallaw30_accepted.l0 : Nat → List (S38) → List (S35) → Int → Option ((List (S38)))
  | 0, _, _, _ => none
  | k + 1, x3, x4, x5 => if x5 < (x4.length : Int) then (if 0 ≤ x5 then (if x3.length < 2932031007402 then (aeriallaw30_accepted.l0 k (x3 ++ [(⟨IntKind.u64.wrap ((IntKind.u64.wrap (x5)) + 1), (rd_T35 x4 x5).f0, (rd_T35 x4 x5).f1, (rd_T35 x4 x5).f2, 0⟩ : S38)]) x4 (wrap64 (x5 + 1))) else (none)) else (none)) else (some x3)
def aeriallaw30_accepted.f (k : Nat) (l0 : List ByteArray) : Option ((List (S38))) := (aeriallaw30_given.f l0).bind fun t134 => (aeriallaw30_accepted.l0 k ([] : List (S38)) t134 0)
theorem aeriallaw30_accepted.mono_l : ∀ k, (∀ y0 y1 y2, LeO (aeriallaw30_accepted.l0 k y0 y1 y2) (aeriallaw30_accepted.l0 (k + 1) y0 y1 y2))
  | 0 => fun _ _ _ r h => by simp [aeriallaw30_accepted.l0] at h
  | k + 1 => by
    have ih0 := aeriallaw30_accepted.mono_l k
    · intro y0 y1 y2
      unfold aeriallaw30_accepted.l0
      repeat' first
      | (with_reducible exact ih0 _ _ _)
      | (with_reducible exact LeO.refl _)
      | (with_reducible exact LeO.none _)
      | (with_reducible refine LeO.ite ?_ ?_)
      | (with_reducible refine LeO.bind ?_ (fun _ => ?_))
      | exact ih0 _ _ _
      | exact LeO.none _
      | refine LeO.ite ?_ ?_
      | refine LeO.bind ?_ (fun _ => ?_)
theorem aeriallaw30_accepted.mono : ∀ a0 k, LeO (aeriallaw30_accepted.f k a0) (aeriallaw30_accepted.f (k + 1) a0) := by
  intro a0 k
  have ih0 := aeriallaw30_accepted.mono_l k
  unfold aeriallaw30_accepted.f
  repeat' first
      | (with_reducible exact ih0 _ _ _)
      | (with_reducible exact LeO.refl _)
      | (with_reducible exact LeO.none _)
      | (with_reducible refine LeO.ite ?_ ?_)
      | (with_reducible refine LeO.bind ?_ (fun _ => ?_))
      | exact ih0 _ _ _
      | exact LeO.none _
      | refine LeO.ite ?_ ?_
      | refine LeO.bind ?_ (fun _ => ?_)
def aeriallaw30_accepted.T6 : Bool × List (List Nat × List Nat) := (true, [([], []), ([], []), ([1], [1]), ([2], [2]), ([], []), ([], []), ([4, 5], [4, 5]), ([6], [6]), ([7], [7]), ([], []), ([], []), ([9, 10], [9, 10]), ([11], [11]), ([12], [12]), ([], []), ([], []), ([14, 15], [14, 15]), ([16], [16]), ([17], [17]), ([3, 8, 13, 18], [3, 8, 13, 18]), ([19], [19]), ([0, 20], [0, 20]), ([21, 21, 0, 1, 2, 3, 4, 5, 6, 7, 8, 9, 10, 11, 12, 13, 14, 15, 16, 17, 18, 19, 20, 21], [0, 21])])
def aeriallaw30_accepted.B6 : List Nat := [0, 0, 2, 6, 0, 0, 48, 112, 240, 0, 0, 1536, 3584, 7680, 0, 0, 49152, 114688, 245760, 524286, 1048574, 2097151, 4194303]
theorem aeriallaw30_accepted.tab6 : rtab .any (opsOf Try.f42 6) = aeriallaw30_accepted.T6 := by kernel_rfl
theorem aeriallaw30_accepted.bits6 : waitsOk aeriallaw30_accepted.T6.2 aeriallaw30_accepted.B6 = true := by kernel_rfl
set_option maxHeartbeats 8000000 in
set_option maxRecDepth 100000 in
theorem aeriallaw30_accepted.calls (k : Nat) (A0 : Option Addr) (c0 : Nat) (l0 : List ByteArray) (r : List (S38)) (w : World) (hr0 : Kd.C Kd.string w A0 l0.length l0) (hc0 : l0.length ≤ c0) (h : aeriallaw30_accepted.f k l0 = some r) :
    Calls Try.prog 42 #[.slice A0 l0.length c0] w fun e w' => ∃ v0_ : Value, e = .returned (v0_) ∧ Kd.R k38 38 w' w.heap.size (fun _ => True) v0_ r ∧ Below w.heap.size w w' := by
  have hu38 := Try.underlying38
  have HR0 := Aside0.mk hr0
  have HC0 := Aside0.mk hc0
  clear hr0 hc0
  have HB := Aside0.mk (Below.refl w.heap.size w)
  have H : ((aeriallaw30_given.f l0).bind fun t134 => (aeriallaw30_accepted.l0 k ([] : List (S38)) t134 0)) = some r := h
  clear h
  replace H := Option.bind_eq_some_iff.mp H
  obtain ⟨t134, A20, H⟩ := H
  replace H : (aeriallaw30_accepted.l0 k ([] : List (S38)) t134 0) = some r := H
  have A2 := Aside0.mk A20
  clear A20
  have H' := Aside0.mk H
  clear H
  go_enter Try.func42, Try.ntmps42
  go_wp2_with (first | ((with_reducible refine gate_callee (f := 43) rfl ?_); refine goesL_ (some 7) rfl rfl Try.func43 (by kernel_rfl) rfl #[.slice A0 l0.length c0] rfl (by (try simp only [List.map_toArray, List.map_cons, List.map_nil]); first | done | rfl | (simp only [List.length_drop, List.length_take]; rfl)) ?_; (with_reducible refine (aeriallaw30_given.calls _ _ l0 t134 _ ?side1 ?side2 A2.out).mono ?_); (case side1 => repeat (first | exact HR0.out | (with_reducible refine Kd.C_alloc ?_ _) | (with_reducible refine Kd.C_drewN ?_ _) | (with_reducible refine Kd.C_drew ?_))); (case side2 => exact HC0.out); rintro e w3 ⟨v135, rfl, ho0, hb⟩; refine ⟨_, rfl, ?_⟩; have n0_ := Aside0.mk (Kd.R_lower ho0 (below_size (by repeat (first | (with_reducible first | exact HB.out | apply below_alloc | apply pw_below_drewN | apply below_drew1) | exact HB.out)))); have n1_ := Aside0.mk (below_step (by repeat (first | (with_reducible first | exact HB.out | apply below_alloc | apply pw_below_drewN | apply below_drew1) | exact HB.out)) hb); clear HB; have HO136 := n0_; have HB := n1_; clear n0_ n1_; (try clear hb); (try clear hb2); (try clear hk); (try clear hi); (try clear ho0)))
  go_loopg [3, 5] k (fun kq v3 v5 w' => ∃ (x3_1 : List (S38)) (x5_1 : Int), v5 = .int .i64 x5_1 ∧ Aside0 (aeriallaw30_accepted.l0 kq x3_1 t134 x5_1 = some r) ∧ Aside0 (kq ≤ k) ∧ Aside0 (Kd.R k38 38 w' w.heap.size (fun _ => True) v3 x3_1) ∧ Aside0 (Kd.R k35 35 w' w.heap.size (fun _ => True) v135 t134) ∧ Aside0 (Below w.heap.size w w'))
  case atStart => exact ⟨(([] : List (S38))), (0), (by first | rfl | (simp; done) | (simp [*]; done)), H', ⟨Nat.le_refl _⟩, ⟨by first | exact Kd.R_nil _ _ _ _ _ | exact Kd.N_nil _ _ _ _ _ | exact Kd.V_nil _ _ _ _ _ | exact Kd.Q_nil _ _ _ _ _ | exact Kd.S_nil _ _ _ _ _⟩, ⟨by (with_reducible repeat (first | apply Kd.R_alloc | apply Kd.R_drewN | apply Kd.R_drew)); exact HO136.out⟩, ⟨by repeat (first | (with_reducible first | exact HB.out | apply below_alloc | apply pw_below_drewN | apply below_drew1) | exact HB.out)⟩⟩
  case round =>
    clear H'
    try clear p2
    obtain ⟨x3_1, x5_1, rfl, HA, HK1, HO_3, HO_4, HB⟩ := hrel
    cases gk with
    | zero => exact absurd HA.out (by simp [aeriallaw30_accepted.l0])
    | succ k1 =>
      have H := HA.out
      clear HA
      simp only [aeriallaw30_accepted.l0] at H
      by_cases c4 : x5_1 < (t134.length : Int)
      · rw [if_pos c4] at H
        have c4b0 : decide (x5_1 < (t134.length : Int)) = true := decide_eq_true c4
        clear c4
        by_cases c5 : 0 ≤ x5_1
        · rw [if_pos c5] at H
          have c5b0 : decide (0 ≤ x5_1) = true := decide_eq_true c5
          clear c5
          by_cases c6 : x3_1.length < 2932031007402
          · rw [if_pos c6] at H
            have LMc6 := Aside0.mk c6
            clear c6
            obtain ⟨y140, hy140⟩ : ∃ y_ : List (S38), y_ = (x3_1 ++ [(⟨IntKind.u64.wrap ((IntKind.u64.wrap (x5_1)) + 1), (rd_T35 t134 x5_1).f0, (rd_T35 t134 x5_1).f1, (rd_T35 t134 x5_1).f2, 0⟩ : S38)]) := ⟨_, rfl⟩
            replace H : (aeriallaw30_accepted.l0 k1 y140 t134 (wrap64 (x5_1 + 1))) = some r := by first | (rw [hy140]; with_reducible exact H) | (have H2_ := (Option.bind_some _ _).symm.trans H; rw [hy140]; with_reducible exact H2_) | (have H2_ := (Option.bind_some _ _).symm.trans H; with_reducible exact H2_) | with_reducible exact H | (rw [hy140]; exact H) | exact H
            have Ny140 := Aside0.mk hy140
            clear hy140
            have H' := Aside0.mk H
            clear H
            obtain ⟨Ao7, co7, eo7⟩ := Kd.R_slice HO_4.out
            subst eo7
            try go_wp2
            have n0_ := Aside0.mk (Kd.R_drew HO_3.out)
            have n1_ := Aside0.mk (Kd.R_drew HO_4.out)
            have n2_ := Aside0.mk (below_drew1 HB.out)
            clear HO_3
            clear HO_4
            clear HB
            have HO_3 := n0_
            have HO_4 := n1_
            have HB := n2_
            clear n0_ n1_ n2_
            have p137 : 0 ≤ (x5_1 : Int) := of_decide_eq_true (by first | (with_reducible assumption) | assumption)
            have q137 : x5_1 < (t134.length : Int) := of_decide_eq_true (by first | (with_reducible assumption) | assumption)
            obtain ⟨ad137, e137, hx137_0, hx137_1, hx137_2⟩ := at_T35 (Kd.R_reads' HO_4.out).2.2 x5_1 p137 q137
            cases e137
            replace p137 := eq_true p137
            replace q137 := eq_true q137
            have p138 : 0 ≤ (x5_1 : Int) := of_decide_eq_true (by first | (with_reducible assumption) | assumption)
            have q138 : x5_1 < (t134.length : Int) := of_decide_eq_true (by first | (with_reducible assumption) | assumption)
            obtain ⟨ad138, e138, hx138_0, hx138_1, hx138_2⟩ := at_T35 (Kd.R_reads' HO_4.out).2.2 x5_1 p138 q138
            obtain rfl : ad137 = ad138 := (by injection e138)
            replace p138 := eq_true p138
            replace q138 := eq_true q138
            have p139 : 0 ≤ (x5_1 : Int) := of_decide_eq_true (by first | (with_reducible assumption) | assumption)
            have q139 : x5_1 < (t134.length : Int) := of_decide_eq_true (by first | (with_reducible assumption) | assumption)
            obtain ⟨ad139, e139, hx139_0, hx139_1, hx139_2⟩ := at_T35 (Kd.R_reads' HO_4.out).2.2 x5_1 p139 q139
            obtain rfl : ad137 = ad139 := (by injection e139)
            replace p139 := eq_true p139
            replace q139 := eq_true q139
            refine start_ (n := 23) (S := fun w' => w'.cell? (ad137.add ((x5_1).toNat * 3)) = some (.int .i64 ((rd_T35 t134 x5_1).f0)) ∧ w'.cell? ⟨(ad137.add ((x5_1).toNat * 3)).block, (ad137.add ((x5_1).toNat * 3)).off + 1, none⟩ = some (.int .i64 ((rd_T35 t134 x5_1).f1)) ∧ w'.cell? ⟨(ad137.add ((x5_1).toNat * 3)).block, (ad137.add ((x5_1).toNat * 3)).off + 2, none⟩ = some (.string ((rd_T35 t134 x5_1).f2)) ∧ w'.cell? (ad137.add ((x5_1).toNat * 3)) = some (.int .i64 ((rd_T35 t134 x5_1).f0)) ∧ w'.cell? ⟨(ad137.add ((x5_1).toNat * 3)).block, (ad137.add ((x5_1).toNat * 3)).off + 1, none⟩ = some (.int .i64 ((rd_T35 t134 x5_1).f1)) ∧ w'.cell? ⟨(ad137.add ((x5_1).toNat * 3)).block, (ad137.add ((x5_1).toNat * 3)).off + 2, none⟩ = some (.string ((rd_T35 t134 x5_1).f2)) ∧ w'.cell? (ad137.add ((x5_1).toNat * 3)) = some (.int .i64 ((rd_T35 t134 x5_1).f0)) ∧ w'.cell? ⟨(ad137.add ((x5_1).toNat * 3)).block, (ad137.add ((x5_1).toNat * 3)).off + 1, none⟩ = some (.int .i64 ((rd_T35 t134 x5_1).f1)) ∧ w'.cell? ⟨(ad137.add ((x5_1).toNat * 3)).block, (ad137.add ((x5_1).toNat * 3)).off + 2, none⟩ = some (.string ((rd_T35 t134 x5_1).f2))) (ds := [20, 21]) #[false, false, false, false, false, false, false, false, false, false, false, false, false, false, false, false, false, false, false, false, false, false, false] (by kernel_rfl) rfl rfl ⟨hx137_0, hx137_1, hx137_2, hx138_0, hx138_1, hx138_2, hx139_0, hx139_1, hx139_2⟩ (fun hHeld => ?_); refine with_tabW aeriallaw30_accepted.tab6 aeriallaw30_accepted.bits6 (fun HT_ HW_ => ?_)
            generalize wr.drew = w8 at HO_3 HO_4 HB hx137_0 hx137_1 hx137_2 hx138_0 hx138_1 hx138_2 hx139_0 hx139_1 hx139_2 hHeld ⊢
            refine pure_ (i := 0) (N := some 14) (v := ?_) (a' := ?_) #[true, false, false, false, false, false, false, false, false, false, false, false, false, false, false, false, false, false, false, false, false, false, false] rfl rfl (any_of HT_.out (by kernel_rfl)) (fun _ _ _ h => h) (Or.inl ⟨by rfl, ?_⟩) ?_ ?_
            rotate_left
            · intro w'
              go_simp
              with_reducible rfl
            rotate_left
            · simp only [Act.put, List.setIfInBounds_toArray, List.set_cons_zero, List.set_cons_succ, i64_w, i32_w]
              rfl
            refine pure_ (i := 1) (N := some 15) (v := ?_) (a' := ?_) #[true, true, false, false, false, false, false, false, false, false, false, false, false, false, false, false, false, false, false, false, false, false, false] rfl rfl (any_of HT_.out (by kernel_rfl)) (fun _ _ _ h => h) (Or.inl ⟨by rfl, ?_⟩) ?_ ?_
            rotate_left
            · intro w'
              go_simp
              with_reducible rfl
            rotate_left
            · simp only [Act.put, List.setIfInBounds_toArray, List.set_cons_zero, List.set_cons_succ, i64_w, i32_w]
              rfl
            refine pure_ (i := 2) (N := some 16) (v := ?_) (a' := ?_) #[true, true, true, false, false, false, false, false, false, false, false, false, false, false, false, false, false, false, false, false, false, false, false] rfl rfl (any_of HT_.out (by kernel_rfl)) (fun _ _ _ h => h) (Or.inl ⟨by rfl, ?_⟩) ?_ ?_
            rotate_left
            · intro w'
              go_simp
              with_reducible rfl
            rotate_left
            · simp only [Act.put, List.setIfInBounds_toArray, List.set_cons_zero, List.set_cons_succ, i64_w, i32_w]
              rfl
            refine pure_ (i := 3) (N := some 17) (v := ?_) (a' := ?_) #[true, true, true, true, false, false, false, false, false, false, false, false, false, false, false, false, false, false, false, false, false, false, false] rfl rfl (any_of HT_.out (by kernel_rfl)) (fun _ _ _ h => h) (Or.inl ⟨by rfl, ?_⟩) ?_ ?_
            rotate_left
            · intro w'
              go_simp
              with_reducible rfl
            rotate_left
            · simp only [Act.put, List.setIfInBounds_toArray, List.set_cons_zero, List.set_cons_succ, i64_w, i32_w]
              rfl
            refine pure_ (i := 4) (N := some 18) (v := ?_) (a' := ?_) #[true, true, true, true, true, false, false, false, false, false, false, false, false, false, false, false, false, false, false, false, false, false, false] rfl rfl (any_of HT_.out (by kernel_rfl)) (fun _ _ _ h => h) (Or.inl ⟨by rfl, ?_⟩) ?_ ?_
            rotate_left
            · intro w'
              go_simp
              with_reducible rfl
            rotate_left
            · simp only [Act.put, List.setIfInBounds_toArray, List.set_cons_zero, List.set_cons_succ, i64_w, i32_w]
              rfl
            refine pure_ (i := 5) (N := some 19) (v := ?_) (a' := ?_) #[true, true, true, true, true, true, false, false, false, false, false, false, false, false, false, false, false, false, false, false, false, false, false] rfl rfl (any_of HT_.out (by kernel_rfl)) (fun _ _ _ h => h) (Or.inl ⟨by rfl, ?_⟩) ?_ ?_
            rotate_left
            · intro w'
              go_simp
              with_reducible rfl
            rotate_left
            · simp only [Act.put, List.setIfInBounds_toArray, List.set_cons_zero, List.set_cons_succ, i64_w, i32_w]
              rfl
            refine pure_ (i := 6) (N := some 20) (v := ?_) (a' := ?_) #[true, true, true, true, true, true, true, false, false, false, false, false, false, false, false, false, false, false, false, false, false, false, false] rfl rfl (any_of HT_.out (by kernel_rfl)) (fun _ _ _ h => h) (Or.inl ⟨by rfl, ?_⟩) ?_ ?_
            rotate_left
            · intro w'
              go_simp
              with_reducible rfl
            rotate_left
            · simp only [Act.put, List.setIfInBounds_toArray, List.set_cons_zero, List.set_cons_succ, i64_w, i32_w]
              rfl
            refine pure_ (i := 7) (N := some 21) (v := ?_) (a' := ?_) #[true, true, true, true, true, true, true, true, false, false, false, false, false, false, false, false, false, false, false, false, false, false, false] rfl rfl (any_of HT_.out (by kernel_rfl)) (fun _ _ _ h => h) (Or.inl ⟨by rfl, ?_⟩) ?_ ?_
            rotate_left
            · intro w'
              go_simp
              with_reducible rfl
            rotate_left
            · simp only [Act.put, List.setIfInBounds_toArray, List.set_cons_zero, List.set_cons_succ, i64_w, i32_w]
              rfl
            refine pure_ (i := 9) (N := some 23) (v := ?_) (a' := ?_) #[true, true, true, true, true, true, true, true, false, true, false, false, false, false, false, false, false, false, false, false, false, false, false] rfl rfl (any_of HT_.out (by kernel_rfl)) (fun _ _ _ h => h) (Or.inl ⟨by rfl, ?_⟩) ?_ ?_
            rotate_left
            · intro w'
              go_simp
              with_reducible rfl
            rotate_left
            · simp only [Act.put, List.setIfInBounds_toArray, List.set_cons_zero, List.set_cons_succ, i64_w, i32_w]
              rfl
            refine pure_ (i := 10) (N := some 24) (v := ?_) (a' := ?_) #[true, true, true, true, true, true, true, true, false, true, true, false, false, false, false, false, false, false, false, false, false, false, false] rfl rfl (any_of HT_.out (by kernel_rfl)) (fun _ _ _ h => h) (Or.inl ⟨by rfl, ?_⟩) ?_ ?_
            rotate_left
            · intro w'
              go_simp
              with_reducible rfl
            rotate_left
            · simp only [Act.put, List.setIfInBounds_toArray, List.set_cons_zero, List.set_cons_succ, i64_w, i32_w]
              rfl
            refine pure_ (i := 11) (N := some 25) (v := ?_) (a' := ?_) #[true, true, true, true, true, true, true, true, false, true, true, true, false, false, false, false, false, false, false, false, false, false, false] rfl rfl (any_of HT_.out (by kernel_rfl)) (fun _ _ _ h => h) (Or.inl ⟨by rfl, ?_⟩) ?_ ?_
            rotate_left
            · intro w'
              go_simp
              with_reducible rfl
            rotate_left
            · simp only [Act.put, List.setIfInBounds_toArray, List.set_cons_zero, List.set_cons_succ, i64_w, i32_w]
              rfl
            refine pure_ (i := 12) (N := some 26) (v := ?_) (a' := ?_) #[true, true, true, true, true, true, true, true, false, true, true, true, true, false, false, false, false, false, false, false, false, false, false] rfl rfl (any_of HT_.out (by kernel_rfl)) (fun _ _ _ h => h) (Or.inl ⟨by rfl, ?_⟩) ?_ ?_
            rotate_left
            · intro w'
              go_simp
              with_reducible rfl
            rotate_left
            · simp only [Act.put, List.setIfInBounds_toArray, List.set_cons_zero, List.set_cons_succ, i64_w, i32_w]
              rfl
            refine pure_ (i := 14) (N := some 28) (v := ?_) (a' := ?_) #[true, true, true, true, true, true, true, true, false, true, true, true, true, false, true, false, false, false, false, false, false, false, false] rfl rfl (any_of HT_.out (by kernel_rfl)) (fun _ _ _ h => h) (Or.inl ⟨by rfl, ?_⟩) ?_ ?_
            rotate_left
            · intro w'
              go_simp
              with_reducible rfl
            rotate_left
            · simp only [Act.put, List.setIfInBounds_toArray, List.set_cons_zero, List.set_cons_succ, i64_w, i32_w]
              rfl
            refine pure_ (i := 15) (N := some 29) (v := ?_) (a' := ?_) #[true, true, true, true, true, true, true, true, false, true, true, true, true, false, true, true, false, false, false, false, false, false, false] rfl rfl (any_of HT_.out (by kernel_rfl)) (fun _ _ _ h => h) (Or.inl ⟨by rfl, ?_⟩) ?_ ?_
            rotate_left
            · intro w'
              go_simp
              with_reducible rfl
            rotate_left
            · simp only [Act.put, List.setIfInBounds_toArray, List.set_cons_zero, List.set_cons_succ, i64_w, i32_w]
              rfl
            refine pure_ (i := 16) (N := some 30) (v := ?_) (a' := ?_) #[true, true, true, true, true, true, true, true, false, true, true, true, true, false, true, true, true, false, false, false, false, false, false] rfl rfl (any_of HT_.out (by kernel_rfl)) (fun _ _ _ h => h) (Or.inl ⟨by rfl, ?_⟩) ?_ ?_
            rotate_left
            · intro w'
              go_simp
              with_reducible rfl
            rotate_left
            · simp only [Act.put, List.setIfInBounds_toArray, List.set_cons_zero, List.set_cons_succ, i64_w, i32_w]
              rfl
            refine pure_ (i := 17) (N := some 31) (v := ?_) (a' := ?_) #[true, true, true, true, true, true, true, true, false, true, true, true, true, false, true, true, true, true, false, false, false, false, false] rfl rfl (any_of HT_.out (by kernel_rfl)) (fun _ _ _ h => h) (Or.inl ⟨by rfl, ?_⟩) ?_ ?_
            rotate_left
            · intro w'
              go_simp
              with_reducible rfl
            rotate_left
            · simp only [Act.put, List.setIfInBounds_toArray, List.set_cons_zero, List.set_cons_succ, i64_w, i32_w]
              rfl
            refine take_ (i := 8) (N := some 22) (v := ?_) (a' := ?_) #[true, true, true, true, true, true, true, true, true, true, true, true, true, false, true, true, true, true, false, false, false, false, false] rfl rfl (take_ofW HT_.out HW_.out (by kernel_rfl)) (fun _ _ _ h => h) (Or.inl ⟨by rfl, ?_⟩) hHeld ?_ ?_
            rotate_left
            · rintro w' ⟨s0, s1, s2, s3, s4, s5, s6, s7, s8⟩
              go_simp
              with_reducible rfl
            rotate_left
            · simp only [Act.put, List.setIfInBounds_toArray, List.set_cons_zero, List.set_cons_succ, i64_w, i32_w]
              rfl
            refine take_ (i := 13) (N := some 27) (v := ?_) (a' := ?_) #[true, true, true, true, true, true, true, true, true, true, true, true, true, true, true, true, true, true, false, false, false, false, false] rfl rfl (take_ofW HT_.out HW_.out (by kernel_rfl)) (fun _ _ _ h => h) (Or.inl ⟨by rfl, ?_⟩) hHeld ?_ ?_
            rotate_left
            · rintro w' ⟨s0, s1, s2, s3, s4, s5, s6, s7, s8⟩
              go_simp
              with_reducible rfl
            rotate_left
            · simp only [Act.put, List.setIfInBounds_toArray, List.set_cons_zero, List.set_cons_succ, i64_w, i32_w]
              rfl
            refine take_ (i := 18) (N := some 32) (v := ?_) (a' := ?_) #[true, true, true, true, true, true, true, true, true, true, true, true, true, true, true, true, true, true, true, false, false, false, false] rfl rfl (take_ofW HT_.out HW_.out (by kernel_rfl)) (fun _ _ _ h => h) (Or.inl ⟨by rfl, ?_⟩) hHeld ?_ ?_
            rotate_left
            · rintro w' ⟨s0, s1, s2, s3, s4, s5, s6, s7, s8⟩
              go_simp
              with_reducible rfl
            rotate_left
            · simp only [Act.put, List.setIfInBounds_toArray, List.set_cons_zero, List.set_cons_succ, i64_w, i32_w]
              rfl
            refine pure_ (i := 19) (N := some 33) (v := ?_) (a' := ?_) #[true, true, true, true, true, true, true, true, true, true, true, true, true, true, true, true, true, true, true, true, false, false, false] rfl rfl (any_of HT_.out (by kernel_rfl)) (fun _ _ _ h => h) (Or.inl ⟨by rfl, ?_⟩) ?_ ?_
            rotate_left
            · intro w'
              go_simp
              with_reducible rfl
            rotate_left
            · simp only [Act.put, List.setIfInBounds_toArray, List.set_cons_zero, List.set_cons_succ, i64_w, i32_w]
              rfl
            refine last_ (i := 20) (N := some 34) #[true, true, true, true, true, true, true, true, true, true, true, true, true, true, true, true, true, true, true, true, true, false, false] rfl rfl (one_of HT_.out (by kernel_rfl)) (by decide) (fun K hK => ?_)
            refine value_ (w1 := ?_) (v := ?_) (by rfl) rfl ?_ ?_
            rotate_left 2
            · go_simp
              constructor
              · rfl
              · rfl
            refine hK.out _ _ ?_
            clear hK K
            refine norm_ (a' := ?_) ?_ ?_
            rotate_left
            · show Act.put _ (some 34) _ = _
              simp only [Act.put, List.setIfInBounds_toArray, List.set_cons_zero, List.set_cons_succ, i64_w, i32_w]
              rfl
            refine last_ (i := 21) (N := some 35) #[true, true, true, true, true, true, true, true, true, true, true, true, true, true, true, true, true, true, true, true, true, true, false] rfl rfl (one_of HT_.out (by kernel_rfl)) (by decide) (fun K hK => ?_)
            refine Kd.R_append_step k38 (w0 := w) w.heap.size (by rfl) (.tmp 14) (.tmp 34) 23 38 (.agg #[(.int .u64 0), (.int .i64 0), (.int .i64 0), (.string ⟨#[]⟩), (.int .u64 0)]) 48 rfl Try.underlying23 info38 rfl (by decide) (by omega) u3 x3_1 (⟨IntKind.u64.wrap ((IntKind.u64.wrap (x5_1)) + 1), (rd_T35 t134 x5_1).f0, (rd_T35 t134 x5_1).f1, (rd_T35 t134 x5_1).f2, 0⟩ : S38) [.int .u64 (IntKind.u64.wrap ((IntKind.u64.wrap (x5_1)) + 1)), .int .i64 ((rd_T35 t134 x5_1).f0), .int .i64 ((rd_T35 t134 x5_1).f1), .string ((rd_T35 t134 x5_1).f2), .int .u64 0] (fun _ => True) (fun _ => False) rfl rfl ?aP (fun _ hk => hk.elim) ?aF ?aO ?aB ?aS ?aL ?_
            (case aP => exact k38_mkM _ _ _ (⟨IntKind.u64.wrap ((IntKind.u64.wrap (x5_1)) + 1), (rd_T35 t134 x5_1).f0, (rd_T35 t134 x5_1).f1, (rd_T35 t134 x5_1).f2, 0⟩ : S38))
            (case aB => exact (by repeat (first | (with_reducible first | exact HB.out | apply below_alloc | apply pw_below_drewN | apply below_drew1) | exact HB.out)))
            (case aF => exact (fun _ _ => trivial))
            (case aO => exact (by (with_reducible repeat (first | apply Kd.R_alloc | apply Kd.R_drewN | apply Kd.R_drew)); exact HO_3.out))
            (case aS => exact (below_size (by repeat (first | (with_reducible first | exact HB.out | apply below_alloc | apply pw_below_drewN | apply below_drew1) | exact HB.out))))
            (case aL => have := LMc6.out; omega)
            intro v141 w9 ho hb hg hat
            rw [← Ny140.out] at ho
            have n0_ := Aside0.mk (Kd.R_over' (by (with_reducible repeat (first | apply Kd.R_alloc | apply Kd.R_drewN | apply Kd.R_drew)); exact HO_4.out) (Kd.R_typed (by (with_reducible repeat (first | apply Kd.R_alloc | apply Kd.R_drewN | apply Kd.R_drew)); exact HO_3.out)) (by decide) hg)
            have n1_ := Aside0.mk (hb)
            have n2_ := Aside0.mk (ho)
            clear HO_4
            clear HB
            clear HO_3
            have HO_4 := n0_
            have HB := n1_
            have HO142 := n2_
            clear n0_ n1_ n2_
            clear ho hb hg hat
            refine hK.out _ _ ?_
            clear hK K
            refine norm_ (a' := ?_) ?_ ?_
            rotate_left
            · show Act.put _ (some 35) _ = _
              simp only [Act.put, List.setIfInBounds_toArray, List.set_cons_zero, List.set_cons_succ, i64_w, i32_w]
              rfl
            refine pure_ (i := 22) (N := some 3) (v := ?_) (a' := ?_) #[true, true, true, true, true, true, true, true, true, true, true, true, true, true, true, true, true, true, true, true, true, true, true] rfl rfl (any_of HT_.out (by kernel_rfl)) (fun _ _ _ h => h) (Or.inl ⟨by rfl, ?_⟩) ?_ ?_
            rotate_left
            · intro w'
              go_simp
              with_reducible rfl
            rotate_left
            · simp only [Act.put, List.setIfInBounds_toArray, List.set_cons_zero, List.set_cons_succ, i64_w, i32_w]
              rfl
            refine done_ (done_of HT_.out (by kernel_rfl)) ?_
            try go_wp2
            go_roundg k1
            case measure => have := HK1.out; omega
            case rel => exact ⟨(y140), (wrap64 (x5_1 + 1)), (by first | rfl | (simp; done) | (simp [*]; done)), H', ⟨by have := HK1.out; omega⟩, ⟨by (with_reducible repeat (first | apply Kd.R_alloc | apply Kd.R_drewN | apply Kd.R_drew)); exact HO142.out⟩, ⟨by (with_reducible repeat (first | apply Kd.R_alloc | apply Kd.R_drewN | apply Kd.R_drew)); exact HO_4.out⟩, ⟨by repeat (first | (with_reducible first | exact HB.out | apply below_alloc | apply pw_below_drewN | apply below_drew1) | exact HB.out)⟩⟩
          · rw [if_neg c6] at H
            exact absurd H (by simp)
        · rw [if_neg c5] at H
          exact absurd H (by simp)
      · rw [if_neg c4] at H
        have c4b0 : decide (x5_1 < (t134.length : Int)) = false := decide_eq_false c4
        clear c4
        obtain rfl := Option.some.inj H
        obtain ⟨Ao10, co10, eo10⟩ := Kd.R_slice HO_4.out
        subst eo10
        go_wp2
        go_ret
        exact ⟨_, by first | rfl | (simp [errW_none, errW_some] <;> rfl) | (simp [*, errW_none, errW_some] <;> rfl), by (with_reducible repeat (first | apply Kd.R_alloc | apply Kd.R_drewN | apply Kd.R_drew)); exact HO_3.out, by repeat (first | (with_reducible first | exact HB.out | apply below_alloc | apply pw_below_drewN | apply below_drew1) | exact HB.out)⟩


/-! ### By hand: the law's own works -/
theorem wk_prefix_at {n0 n1 : Nat} {A0 : Option Addr} {c0 : Nat} {l0 : List S35} {A1 : Option Addr} {c1 : Nat} {l1 : List S38} {w : World} (h0 : Kd.C k35 w A0 n0 l0) (hc0 : n0 ≤ c0) (h1 : Kd.C k38 w A1 n1 l1) (hc1 : n1 ≤ c1) (hl : n1 < 2932031007402) {r : Int} (hr : firstF pnext l0 (grp l1) 0 = r) :
    Calls Try.prog 11 #[.slice A0 n0 c0, .slice A1 n1 c1] w fun e w' => e = .returned (.int .i64 r) ∧ Below w.heap.size w w' := by
  obtain rfl := h0.1
  obtain rfl := h1.1
  exact spec_Prefix.calls A0 c0 l0 A1 c1 l1 r w h0 hc0 h1 hc1 (by rw [spec_Prefix.f, if_pos hl, hr])
theorem wk_within_at {n0 n1 : Nat} {A0 : Option Addr} {c0 : Nat} {l0 : List S35} {A1 : Option Addr} {c1 : Nat} {l1 : List S38} {w : World} (h0 : Kd.C k35 w A0 n0 l0) (hc0 : n0 ≤ c0) (h1 : Kd.C k38 w A1 n1 l1) (hc1 : n1 ≤ c1) (hl : n1 < 2932031007402) {r : Int} (hr : firstF wnext l0 (grp l1) 0 = r) :
    Calls Try.prog 13 #[.slice A0 n0 c0, .slice A1 n1 c1] w fun e w' => e = .returned (.int .i64 r) ∧ Below w.heap.size w w' := by
  obtain rfl := h0.1
  obtain rfl := h1.1
  exact spec_Within.calls A0 c0 l0 A1 c1 l1 r w h0 hc0 h1 hc1 (by rw [spec_Within.f, if_pos hl, hr])
/-- Strings that are laid in a new block. -/
theorem wk_lit_strs (W : World) (xs : List ByteArray) (hx : xs.length ≤ 9223372036854775807) : Kd.C Kd.string (W.alloc (.cells (xs.map Value.string).toArray 9)) (some ⟨W.heap.size, 0, none⟩) xs.length xs := by
  refine Kd.C_of_reads (d := ByteArray.empty) (h1 := fun _ => rfl) ⟨rfl, hx, fun _ => ⟨_, rfl, fun j hj => ?_⟩⟩
  rw [add_plain]
  rw [World.cell?_alloc_new]
  simp [List.getElem?_eq_getElem hj]
theorem wk_given_at {n : Nat} {A : Option Addr} {c : Nat} {xs : List ByteArray} {w : World} (h0 : Kd.C Kd.string w A n xs) (hc : n ≤ c) (hl : n < 4398046511104) {l : List S35} (hr : xs.map gOf = l) :
    Calls Try.prog 43 #[.slice A n c] w fun e w' => ∃ A' c', e = .returned (.slice A' n c') ∧ n ≤ c' ∧ Kd.C k35 w' A' n l ∧ Below w.heap.size w w' := by
  obtain rfl := h0.1
  refine (aeriallaw30_given.calls A c xs l w h0 hc (by rw [aeriallaw30_given.f, if_pos hl, hr])).mono ?_
  rintro e w' ⟨v, rfl, hR, hB⟩
  obtain ⟨A', c', rfl, h1, h2⟩ := Kd.R_reads hR
  have e : l.length = xs.length := by rw [← hr, List.length_map]
  rw [e] at h1 h2 ⊢
  exact ⟨A', c', rfl, h1, h2, hB⟩
theorem wk_accepted_at {n k : Nat} {A : Option Addr} {c : Nat} {xs : List ByteArray} {w : World} (h0 : Kd.C Kd.string w A n xs) (hc : n ≤ c) {l : List S38} (hr : aeriallaw30_accepted.f k xs = some l) (hl : l.length = n) :
    Calls Try.prog 42 #[.slice A n c] w fun e w' => ∃ A' c', e = .returned (.slice A' n c') ∧ n ≤ c' ∧ Kd.C k38 w' A' n l ∧ Below w.heap.size w w' := by
  obtain rfl := h0.1
  refine (aeriallaw30_accepted.calls k A c xs l w h0 hc hr).mono ?_
  rintro e w' ⟨v, rfl, hR, hB⟩
  obtain ⟨A', c', rfl, h1, h2⟩ := Kd.R_reads hR
  rw [hl] at h1 h2 ⊢
  exact ⟨A', c', rfl, h1, h2, hB⟩
theorem wk_windows_at {n k : Nat} {A : Option Addr} {c : Nat} {xs : List Int} {w : World} (h0 : Kd.C (Kd.int .i64) w A n xs) (hc : n ≤ c) {a b r : Int} (hr : spec_Windows.f k xs a b = some r) :
    Calls Try.prog 16 #[.slice A n c, .int .i64 a, .int .i64 b] w fun e w' => e = .returned (.int .i64 r) ∧ Below w.heap.size w w' := by
  obtain rfl := h0.1
  exact spec_Windows.calls k A c xs a b r w h0 hc hr
theorem wk_lit_ints (W : World) (xs : List Int) (hx : xs.length ≤ 9223372036854775807) : Kd.C (Kd.int .i64) (W.alloc (.cells (xs.map (Value.int .i64)).toArray 3)) (some ⟨W.heap.size, 0, none⟩) xs.length xs := by
  refine Kd.C_of_reads (d := 0) (h1 := fun _ => rfl) ⟨rfl, hx, fun _ => ⟨_, rfl, fun j hj => ?_⟩⟩
  rw [add_plain]
  rw [World.cell?_alloc_new]
  simp [List.getElem?_eq_getElem hj]
def wk_gA : S35 := ⟨0, 0, ⟨#[97]⟩⟩
def wk_gB : S35 := ⟨0, 0, ⟨#[98]⟩⟩
def wk_gC : S35 := ⟨1, 2, ⟨#[99]⟩⟩
def wk_accL : List S38 := [⟨1, 0, 0, ⟨#[97]⟩, 0⟩, ⟨2, 0, 0, ⟨#[98]⟩, 0⟩, ⟨3, 1, 2, ⟨#[99]⟩, 0⟩, ⟨4, 0, 0, ⟨#[97]⟩, 0⟩]
theorem wk_gOf_A : gOf ⟨#[97]⟩ = wk_gA := by simp [gOf, wk_gA, ByteArray.toList_eq]
theorem wk_gOf_B : gOf ⟨#[98]⟩ = wk_gB := by simp [gOf, wk_gB, ByteArray.toList_eq]
theorem wk_gOf_C : gOf ⟨#[99]⟩ = wk_gC := by simp [gOf, wk_gC, ByteArray.toList_eq]
theorem wk_acc_f : aeriallaw30_accepted.f 20 [⟨#[97]⟩, ⟨#[98]⟩, ⟨#[99]⟩, ⟨#[97]⟩] = some wk_accL := by
  have hg : aeriallaw30_given.f [⟨#[97]⟩, ⟨#[98]⟩, ⟨#[99]⟩, ⟨#[97]⟩] = some [wk_gA, wk_gB, wk_gC, wk_gA] := by
    simp [aeriallaw30_given.f, wk_gOf_A, wk_gOf_B, wk_gOf_C]
  unfold aeriallaw30_accepted.f
  rw [hg]
  simp [aeriallaw30_accepted.l0, wk_gA, wk_gB, wk_gC, wk_accL, rd_T35, wrap64, IntKind.wrap, IntKind.signed, IntKind.bits]
theorem wk_win1 : spec_Windows.f 20 [5, 5, 5] 10 1 = some 2 := by kernel_rfl
theorem wk_win2 : spec_Windows.f 20 [5, 5, 5] 4 2 = some 1 := by kernel_rfl
theorem wk_p1 : firstF pnext [wk_gA, wk_gC, wk_gB] (grp wk_accL) 0 = -1 := by simp [firstF, pnext, grp, wk_accL, keyOf, gkey, wk_gA, wk_gB, wk_gC, ByteArray.toList_eq]
theorem wk_p2 : firstF pnext [wk_gA, wk_gA] (grp wk_accL) 0 = 1 := by simp [firstF, pnext, grp, wk_accL, keyOf, gkey, wk_gA, wk_gB, wk_gC, ByteArray.toList_eq]
theorem wk_p3 : firstF pnext [wk_gC, wk_gC] (grp wk_accL) 0 = 1 := by simp [firstF, pnext, grp, wk_accL, keyOf, gkey, wk_gA, wk_gB, wk_gC, ByteArray.toList_eq]
theorem wk_q1 : firstF wnext [wk_gB, wk_gA, wk_gC] (grp wk_accL) 0 = -1 := by simp [firstF, wnext, grp, wk_accL, keyOf, gkey, wk_gA, wk_gB, wk_gC, ByteArray.toList_eq]
theorem wk_q2 : firstF wnext [wk_gB, wk_gB] (grp wk_accL) 0 = 1 := by simp [firstF, wnext, grp, wk_accL, keyOf, gkey, wk_gA, wk_gB, wk_gC, ByteArray.toList_eq]
theorem wk_q3 : firstF wnext [wk_gA, wk_gA] (grp wk_accL) 0 = -1 := by simp [firstF, wnext, grp, wk_accL, keyOf, gkey, wk_gA, wk_gB, wk_gC, ByteArray.toList_eq]
theorem wk_alloc1 {w : World} {o : Obj} : Below w.heap.size w (w.alloc o) := (Below.refl _ w).alloc (Nat.le_refl _) o
theorem wk_start1 {w w1 : World} {o : Obj} (h : Below (w.alloc o).heap.size (w.alloc o) w1) : Below w.heap.size w w1 := wk_alloc1.trans (h.mono (by simp))
theorem wk_next0 {w w1 w2 : World} (h : Below w.heap.size w w1) (h2 : Below w1.heap.size w1 w2) : Below w.heap.size w w2 := h.trans (h2.mono h.size)
theorem wk_next1 {w w1 w2 : World} {o : Obj} (h : Below w.heap.size w w1) (h2 : Below (w1.alloc o).heap.size (w1.alloc o) w2) : Below w.heap.size w w2 := wk_next0 (wk_next0 h wk_alloc1) h2
def aeriallaw30_works.f : Option Bool := some true
set_option maxHeartbeats 4000000 in
set_option maxRecDepth 100000 in
theorem aeriallaw30_works.calls (r : Bool) (w : World) (h : aeriallaw30_works.f = some r) :
    Calls Try.prog 15 #[] w fun e w' => e = .returned (.bool r) ∧ Below w.heap.size w w' := by
  obtain rfl : true = r := Option.some.inj h
  clear h
  go_enter Try.func15, Try.ntmps15
  go_wp2_with fail
  refine (wk_accepted_at (xs := [⟨#[97]⟩, ⟨#[98]⟩, ⟨#[99]⟩, ⟨#[97]⟩]) (wk_lit_strs w [⟨#[97]⟩, ⟨#[98]⟩, ⟨#[99]⟩, ⟨#[97]⟩] (by decide)) (Nat.le_refl _) wk_acc_f rfl).mono ?_
  rintro e w1 ⟨A, c, rfl, hc, hC0, hB0⟩
  have HB := Aside0.mk (wk_start1 hB0)
  have HA := Aside0.mk hC0
  have HC := Aside0.mk hc
  clear hB0 hC0 hc
  go_wp2_with fail
  refine (wk_given_at (xs := [⟨#[97]⟩, ⟨#[99]⟩, ⟨#[98]⟩]) (wk_lit_strs w1 [⟨#[97]⟩, ⟨#[99]⟩, ⟨#[98]⟩] (by decide)) (Nat.le_refl _) (by decide) (l := [wk_gA, wk_gC, wk_gB]) (by simp only [List.map_cons, List.map_nil, wk_gOf_A, wk_gOf_B, wk_gOf_C])).mono ?_
  rintro e w1a ⟨G, cg, rfl, hg, hG, hB⟩
  have HBa := Aside0.mk (wk_next1 HB.out hB)
  have HAa := Aside0.mk (Kd.C_below (Kd.C_below HA.out wk_alloc1) hB)
  have HG := Aside0.mk hG
  have HGC := Aside0.mk hg
  clear hB hG hg HB HA
  go_wp2_with fail
  refine (wk_prefix_at HG.out HGC.out HAa.out HC.out (by decide) wk_p1).mono ?_
  rintro e w2 ⟨rfl, hB⟩
  have HB := Aside0.mk (wk_next0 HBa.out hB)
  have HA := Aside0.mk (Kd.C_below HAa.out hB)
  clear hB HBa HAa HG HGC
  go_wp2_with fail
  refine (wk_given_at (xs := [⟨#[97]⟩, ⟨#[97]⟩]) (wk_lit_strs w2 [⟨#[97]⟩, ⟨#[97]⟩] (by decide)) (Nat.le_refl _) (by decide) (l := [wk_gA, wk_gA]) (by simp only [List.map_cons, List.map_nil, wk_gOf_A, wk_gOf_B, wk_gOf_C])).mono ?_
  rintro e w2a ⟨G, cg, rfl, hg, hG, hB⟩
  have HBa := Aside0.mk (wk_next1 HB.out hB)
  have HAa := Aside0.mk (Kd.C_below (Kd.C_below HA.out wk_alloc1) hB)
  have HG := Aside0.mk hG
  have HGC := Aside0.mk hg
  clear hB hG hg HB HA
  go_wp2_with fail
  refine (wk_prefix_at HG.out HGC.out HAa.out HC.out (by decide) wk_p2).mono ?_
  rintro e w3 ⟨rfl, hB⟩
  have HB := Aside0.mk (wk_next0 HBa.out hB)
  have HA := Aside0.mk (Kd.C_below HAa.out hB)
  clear hB HBa HAa HG HGC
  go_wp2_with fail
  refine (wk_given_at (xs := [⟨#[99]⟩, ⟨#[99]⟩]) (wk_lit_strs w3 [⟨#[99]⟩, ⟨#[99]⟩] (by decide)) (Nat.le_refl _) (by decide) (l := [wk_gC, wk_gC]) (by simp only [List.map_cons, List.map_nil, wk_gOf_A, wk_gOf_B, wk_gOf_C])).mono ?_
  rintro e w3a ⟨G, cg, rfl, hg, hG, hB⟩
  have HBa := Aside0.mk (wk_next1 HB.out hB)
  have HAa := Aside0.mk (Kd.C_below (Kd.C_below HA.out wk_alloc1) hB)
  have HG := Aside0.mk hG
  have HGC := Aside0.mk hg
  clear hB hG hg HB HA
  go_wp2_with fail
  refine (wk_prefix_at HG.out HGC.out HAa.out HC.out (by decide) wk_p3).mono ?_
  rintro e w4 ⟨rfl, hB⟩
  have HB := Aside0.mk (wk_next0 HBa.out hB)
  have HA := Aside0.mk (Kd.C_below HAa.out hB)
  clear hB HBa HAa HG HGC
  go_wp2_with fail
  refine (wk_given_at (xs := [⟨#[98]⟩, ⟨#[97]⟩, ⟨#[99]⟩]) (wk_lit_strs w4 [⟨#[98]⟩, ⟨#[97]⟩, ⟨#[99]⟩] (by decide)) (Nat.le_refl _) (by decide) (l := [wk_gB, wk_gA, wk_gC]) (by simp only [List.map_cons, List.map_nil, wk_gOf_A, wk_gOf_B, wk_gOf_C])).mono ?_
  rintro e w4a ⟨G, cg, rfl, hg, hG, hB⟩
  have HBa := Aside0.mk (wk_next1 HB.out hB)
  have HAa := Aside0.mk (Kd.C_below (Kd.C_below HA.out wk_alloc1) hB)
  have HG := Aside0.mk hG
  have HGC := Aside0.mk hg
  clear hB hG hg HB HA
  go_wp2_with fail
  refine (wk_within_at HG.out HGC.out HAa.out HC.out (by decide) wk_q1).mono ?_
  rintro e w5 ⟨rfl, hB⟩
  have HB := Aside0.mk (wk_next0 HBa.out hB)
  have HA := Aside0.mk (Kd.C_below HAa.out hB)
  clear hB HBa HAa HG HGC
  go_wp2_with fail
  refine (wk_given_at (xs := [⟨#[98]⟩, ⟨#[98]⟩]) (wk_lit_strs w5 [⟨#[98]⟩, ⟨#[98]⟩] (by decide)) (Nat.le_refl _) (by decide) (l := [wk_gB, wk_gB]) (by simp only [List.map_cons, List.map_nil, wk_gOf_A, wk_gOf_B, wk_gOf_C])).mono ?_
  rintro e w5a ⟨G, cg, rfl, hg, hG, hB⟩
  have HBa := Aside0.mk (wk_next1 HB.out hB)
  have HAa := Aside0.mk (Kd.C_below (Kd.C_below HA.out wk_alloc1) hB)
  have HG := Aside0.mk hG
  have HGC := Aside0.mk hg
  clear hB hG hg HB HA
  go_wp2_with fail
  refine (wk_within_at HG.out HGC.out HAa.out HC.out (by decide) wk_q2).mono ?_
  rintro e w6 ⟨rfl, hB⟩
  have HB := Aside0.mk (wk_next0 HBa.out hB)
  have HA := Aside0.mk (Kd.C_below HAa.out hB)
  clear hB HBa HAa HG HGC
  go_wp2_with fail
  refine (wk_given_at (xs := [⟨#[97]⟩, ⟨#[97]⟩]) (wk_lit_strs w6 [⟨#[97]⟩, ⟨#[97]⟩] (by decide)) (Nat.le_refl _) (by decide) (l := [wk_gA, wk_gA]) (by simp only [List.map_cons, List.map_nil, wk_gOf_A, wk_gOf_B, wk_gOf_C])).mono ?_
  rintro e w6a ⟨G, cg, rfl, hg, hG, hB⟩
  have HBa := Aside0.mk (wk_next1 HB.out hB)
  have HAa := Aside0.mk (Kd.C_below (Kd.C_below HA.out wk_alloc1) hB)
  have HG := Aside0.mk hG
  have HGC := Aside0.mk hg
  clear hB hG hg HB HA
  go_wp2_with fail
  refine (wk_within_at HG.out HGC.out HAa.out HC.out (by decide) wk_q3).mono ?_
  rintro e w7 ⟨rfl, hB⟩
  have HB := Aside0.mk (wk_next0 HBa.out hB)
  have HA := Aside0.mk (Kd.C_below HAa.out hB)
  clear hB HBa HAa HG HGC
  go_wp2_with fail
  refine (wk_windows_at (wk_lit_ints w7 [5, 5, 5] (by decide)) (Nat.le_refl _) wk_win1).mono ?_
  rintro e w8 ⟨rfl, hB⟩
  have HB' := Aside0.mk (wk_next1 HB.out hB)
  clear hB HB
  have HB := HB'
  clear HB'
  go_wp2_with fail
  refine (wk_windows_at (wk_lit_ints w8 [5, 5, 5] (by decide)) (Nat.le_refl _) wk_win2).mono ?_
  rintro e w9 ⟨rfl, hB⟩
  have HB' := Aside0.mk (wk_next1 HB.out hB)
  clear hB HB
  have HB := HB'
  clear HB'
  go_wp2
  go_ret
  exact ⟨rfl, HB.out⟩

end Go.Proofs.Ytcmcgjjhbjlkpaa.Sp
