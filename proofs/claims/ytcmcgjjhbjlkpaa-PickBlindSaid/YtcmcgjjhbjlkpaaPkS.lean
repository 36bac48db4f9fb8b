import Derived.Test.YtcmcgjjhbjlkpaaPkL
import Derived.Test.YtcmcgjjhbjlkpaaPkQ
namespace Go.Proofs.Ytcmcgjjhbjlkpaa.Pk
open Go.RowKit Go.Shelf Go.Proofs.Ytcmcgjjhbjlkpaa.Rw Go.Proofs.YtcmcgjjhbjlkpaaW.PrintWords Go.Proofs.YtcmcgjjhbjlkpaaW.PrintLast Go.Proofs.YtcmcgjjhbjlkpaaW.PrintMore Go.Proofs.Ytcmcgjjhbjlkpaa.PPickPlays Go.Proofs.Ytcmcgjjhbjlkpaa.Air
set_option linter.unusedVariables false
set_option linter.unusedSimpArgs false
/-! ### PickPlays -/
theorem at_turn' {w : World} {A : Option Addr} {n : Nat} {ls : List (List S74)} (h : Kd.C (Kd.slice 74 k74) w A n ls) (i : Nat) (h1 : i < n) : ∃ ad A0 c0, A = some ad ∧ w.cell? (ad.add i) = some (.slice A0 (ls.getD i []).length c0) ∧ (ls.getD i []).length ≤ c0 ∧ Kd.C k74 w A0 (ls.getD i []).length (ls.getD i []) := by
  obtain ⟨ad, c, e, _, hK, hc0⟩ := Kd.C_get h ([] : List S74) (i : Int) (by omega) (by omega)
  have hc : ∀ j u, c[j]? = some u → w.cell? (ad.add (i * 1 + j)) = some u := hc0
  obtain ⟨A0, c0, rfl, l0, g0⟩ := hK
  exact ⟨ad, A0, c0, e, by have hq := hc 0 _ rfl; rwa [Nat.mul_one, Nat.add_zero] at hq, l0, g0⟩
theorem C_take {α : Type} {d : Kd α} {w : World} {A : Option Addr} {n k : Nat} {xs : List α} (h : Kd.C d w A n xs) (hk : k ≤ n) : Kd.C d w A k (xs.take k) := by
  obtain ⟨h1, h2, h3⟩ := h
  refine ⟨by rw [List.length_take]; omega, by omega, fun hp => ?_⟩
  obtain ⟨a, ha, hx⟩ := h3 (by omega)
  exact ⟨a, ha, fun j p hj => hx j p (by rw [List.getElem?_take] at hj; split at hj; exact hj; cases hj)⟩
/-- What a pick comes to. -/
def PlaysOk (xs : List S74) (last : Int) (s : St) (c wt : Int → Int) (pk : Int) (acc : Option S74) (s' : St) : Prop :=
  (pickB xs last = true ∧ pk = 1 ∧ acc = fst qVoice xs ∧ s' = s) ∨
  (pickB xs last = false ∧ (fst qOld xs).isSome = true ∧ pk = 2 ∧ acc = fst qOld xs ∧ s' = s) ∨
  (pickB xs last = false ∧ (fst qOld xs).isSome = false ∧ ysOf (wantL xs) = [] ∧ pk = 0 ∧ acc = none ∧ s' = s) ∨
  (pickB xs last = false ∧ (fst qOld xs).isSome = false ∧ ysOf (wantL xs) ≠ [] ∧ pk = 3 ∧ acc = fst (qMode (s'.a : Int)) xs ∧ Res 5000 (wdOf (ysOf (wantL xs))) c wt s s')
theorem PlaysOk.uniq {xs : List S74} {last : Int} {s : St} {c wt : Int → Int} {pk pk' : Int} {acc acc' : Option S74} {s' s'' : St} (hs : Inv s) (h : PlaysOk xs last s c wt pk acc s') (k : PlaysOk xs last s c wt pk' acc' s'') : pk' = pk ∧ acc' = acc ∧ s'' = s' := by
  rcases h with ⟨a1, rfl, rfl, rfl⟩ | ⟨a1, a2, rfl, rfl, rfl⟩ | ⟨a1, a2, a3, rfl, rfl, rfl⟩ | ⟨a1, a2, a3, rfl, rfl, a4⟩ <;>
  rcases k with ⟨b1, rfl, rfl, rfl⟩ | ⟨b1, b2, rfl, rfl, rfl⟩ | ⟨b1, b2, b3, rfl, rfl, rfl⟩ | ⟨b1, b2, b3, rfl, rfl, b4⟩ <;>
  first
    | exact ⟨rfl, rfl, rfl⟩
    | (rw [a1] at b1; cases b1; done)
    | (rw [a2] at b2; cases b2; done)
    | exact absurd a3 b3
    | exact absurd b3 a3
    | (obtain rfl := a4.uniq (by decide) hs b4 (fun _ => (a4.inv (by decide) hs).1); exact ⟨rfl, rfl, rfl⟩)
theorem plays_a {W w3 : World} {g : Nat} {s : St} {L : List S74} {last : Int} {c wt : Int → Int} {e : Ending} (hs : Inv s) (hd : Bk W g 109 (dcells 5000 s.D (s.a : Int) s.f)) (h : PickPost W g 5000 s L last c wt e w3) :
    ∃ pk acc g' s', e = .returned (.agg (choice pk acc (some ⟨g', 0, none⟩))) ∧ Inv s' ∧ Bk w3 g' 109 (dcells 5000 s'.D (s'.a : Int) s'.f) ∧ Below W.heap.size W w3 ∧ PlaysOk L last s c wt pk acc s' := by
  obtain ⟨hb, ⟨h1, rfl⟩ | ⟨h1, h2, rfl⟩ | ⟨h1, h2, h3, rfl⟩ | ⟨h1, h2, h3, s', X, hres, hsm, rfl, hbk, hX⟩⟩ := h
  · exact ⟨_, _, g, s, rfl, hs, hd.below hb, hb, .inl ⟨h1, rfl, rfl, rfl⟩⟩
  · exact ⟨_, _, g, s, rfl, hs, hd.below hb, hb, .inr (.inl ⟨h1, h2, rfl, rfl, rfl⟩)⟩
  · exact ⟨_, _, g, s, rfl, hs, hd.below hb, hb, .inr (.inr (.inl ⟨h1, h2, h3, rfl, rfl, rfl⟩))⟩
  · exact ⟨_, _, X, s', rfl, hres.inv (by decide) hs, hbk, hb, .inr (.inr (.inr ⟨h1, h2, h3, rfl, rfl, hres⟩))⟩
theorem plays_r {W w3 : World} {g : Nat} {s : St} {L : List S74} {last : Int} {c wt : Int → Int} {e : Ending} (hs : Inv s) (hd : Bk W g 71 (dcells 5000 s.D (s.a : Int) s.f)) (h : PickPostR W g 5000 s L last c wt e w3) :
    ∃ pk acc g' s', e = .returned (.agg (choice pk acc (some ⟨g', 0, none⟩))) ∧ Inv s' ∧ Bk w3 g' 71 (dcells 5000 s'.D (s'.a : Int) s'.f) ∧ Below W.heap.size W w3 ∧ PlaysOk L last s c wt pk acc s' := by
  obtain ⟨hb, ⟨h1, rfl⟩ | ⟨h1, h2, rfl⟩ | ⟨h1, h2, h3, rfl⟩ | ⟨h1, h2, h3, s', X, hres, hsm, rfl, hbk, hX⟩⟩ := h
  · exact ⟨_, _, g, s, rfl, hs, hd.below hb, hb, .inl ⟨h1, rfl, rfl, rfl⟩⟩
  · exact ⟨_, _, g, s, rfl, hs, hd.below hb, hb, .inr (.inl ⟨h1, h2, rfl, rfl, rfl⟩)⟩
  · exact ⟨_, _, g, s, rfl, hs, hd.below hb, hb, .inr (.inr (.inl ⟨h1, h2, h3, rfl, rfl, rfl⟩))⟩
  · exact ⟨_, _, X, s', rfl, hres.inv (by decide) hs, hbk, hb, .inr (.inr (.inr ⟨h1, h2, h3, rfl, rfl, hres⟩))⟩
theorem rowTo_at (f : Int → Int) (a : Nat) (h : 1 ≤ a ∧ a ≤ 28) : rowTo f 29 a = f (a : Int) := by unfold rowTo; rw [if_pos ⟨h.1, by omega⟩]
set_option maxHeartbeats 8000000 in
set_option maxRecDepth 100000 in
theorem plays (w : World) (A0 : Option Addr) (m cm : Nat) (ls : List (List S74)) (hr : Kd.C (Kd.slice 74 k74) w A0 m ls) (hm : m ≤ 9223372036854775807) (hw : ∀ l ∈ ls, ∀ x ∈ l, 0 ≤ x.f0) (hlen : ∀ l ∈ ls, l.length ≤ 9223372036854775807) (last0 b0 b1 : Int) (hb0 : 0 ≤ b0 ∧ b0 ≤ 65535) (hb1 : 0 ≤ b1 ∧ b1 ≤ 65535) :
    Calls Try.prog 7 #[.slice A0 m cm, .int .i64 last0, .agg #[.int .u16 b0, .int .u16 b1]] w fun e w' => e = .returned (.bool true) ∧ Below w.heap.size w w' := by
  have HR := Aside0.mk hr
  have HW := Aside0.mk hw
  have HLN := Aside0.mk hlen
  have hml := hr.1
  have HML := Aside0.mk hml
  obtain ⟨W3, eW3⟩ : ∃ W3, W3 = allocs w [.cells #[.int .u16 b0, .int .u16 b1] 55, .cells (dcells 5000 s0.D (s0.a : Int) s0.f) 109, .cells (dcells 5000 s0.D (s0.a : Int) s0.f) 71] := ⟨_, rfl⟩
  have HB3 : Aside0 (Below w.heap.size w W3) := ⟨by rw [eW3]; exact allocs_below _ _⟩
  have KB : Aside0 (Bk W3 w.heap.size 55 #[.int .u16 b0, .int .u16 b1]) := ⟨by rw [eW3]; exact allocs_get _ _ 0 _ rfl⟩
  have KD : Aside0 (Bk W3 (w.heap.size + 1) 109 (dcells 5000 s0.D (s0.a : Int) s0.f)) := ⟨by rw [eW3]; exact allocs_get _ _ 1 _ rfl⟩
  have KU : Aside0 (Bk W3 (w.heap.size + 1 + 1) 71 (dcells 5000 s0.D (s0.a : Int) s0.f)) := ⟨by rw [eW3]; exact allocs_get _ _ 2 _ rfl⟩
  have HW3 := Aside0.mk eW3
  clear eW3 hr hw hlen hml
  go_enter Try.func7, Try.ntmps7
  go_wp2_with fail
  refine (New_ok _).mono ?_
  rintro e w1 ⟨rfl, rfl⟩
  go_wp2_with fail
  refine (rNew_ok _).mono ?_
  rintro e w1 ⟨rfl, rfl⟩
  have hW3 := HW3.out
  simp only [allocs] at hW3
  rw [show (dcells 5000 (fun _ => 0) 1 false) = dcells 5000 s0.D (s0.a : Int) s0.f from rfl, ← hW3]
  clear hW3 HW3
  go_wp2_with fail
  go_loopw [1, 7, 8, 11] (fun v1 v7 v8 v11 wr => ∃ (i g g2 : Nat) (last : Int), i ≤ m ∧ v11 = .int .i64 i ∧ v7 = .pointer (some ⟨g, 0, none⟩) ∧ v8 = .pointer (some ⟨g2, 0, none⟩) ∧ v1 = .int .i64 last ∧ Aside0 (∃ s, Inv s ∧ Bk wr g 109 (dcells 5000 s.D (s.a : Int) s.f) ∧ Bk wr g2 71 (dcells 5000 s.D (s.a : Int) s.f)) ∧ Aside0 (Below W3.heap.size W3 wr)) (fun _ _ _ v11 _ => m - (intOf v11).toNat)
  case atStart => exact ⟨0, w.heap.size + 1, w.heap.size + 1 + 1, last0, by omega, rfl, by first | rfl | (simp; done), by first | rfl | (simp; done), rfl, ⟨s0, s0_inv, KD.out, KU.out⟩, ⟨Below.refl _ _⟩⟩
  case round =>
    obtain ⟨i, g, g2, last, hi, rfl, rfl, rfl, rfl, HS, HBr⟩ := hrel
    have HB := Aside0.mk (HB3.out.trans (HBr.out.mono HB3.out.size))
    by_cases hlt : i < m
    · by_cases h20 : i < 20
      · obtain ⟨wo, rfl⟩ : ∃ wo : World, wo = wr := ⟨_, rfl⟩
        have h20i : decide ((i : Int) < 20) = true := by simp; omega
        have hi0 : (0 : Int) ≤ (i : Int) := by omega
        have hi1 : (i : Int) < (m : Int) := by omega
        obtain ⟨ad, B0, c0, rfl, hsl, hc0, hC⟩ := at_turn' HR.out i hlt
        have hmem : ls.getD i [] ∈ ls := by
          have : i < ls.length := by rw [HML.out]; exact hlt
          rw [List.getD_eq_getElem?_getD, List.getElem?_eq_getElem this]; exact List.getElem_mem this
        have HX0 := Aside0.mk (HW.out _ hmem)
        have hxl := HLN.out _ hmem
        obtain ⟨xs, hxs⟩ : ∃ xs, xs = ls.getD i [] := ⟨_, rfl⟩
        rw [← hxs] at hsl hc0 hC HX0 hxl
        clear hmem hxs
        obtain ⟨n, hn⟩ : ∃ n, n = xs.length := ⟨_, rfl⟩
        have HN := Aside0.mk hn
        have HC := Aside0.mk (cells_below hC HB.out)
        replace hsl := cell_below hsl HB.out
        rw [← hn] at hsl hc0 hxl
        clear hC hn
        obtain ⟨k, hk⟩ : ∃ k, k = min n 12 := ⟨_, rfl⟩
        go_upto_region 9 with (fail)
        go_cut [12] (fun v12 wx => v12 = .slice B0 k c0 ∧ Aside0 (Below wo.heap.size wo wx))
        case first =>
          have HK := Aside0.mk hk
          clear hk
          by_cases hn12 : n ≤ 12
          · go_region
            all_goals
              go_wp2_with fail
              go_meet
              exact ⟨by rw [HK.out, Nat.min_eq_left hn12], ⟨below_drew (Below.refl _ _)⟩⟩
          · go_region
            all_goals
              go_wp2_with fail
              go_meet
              exact ⟨by rw [HK.out, Nat.min_eq_right (by omega)], ⟨below_drew (Below.refl _ _)⟩⟩
        case rest =>
          obtain ⟨rfl, HBx⟩ := hcut
          have hkn : k ≤ n := by omega
          have hk12 : k ≤ 12 := by omega
          have hkc : k ≤ c0 := by omega
          obtain ⟨s, hsi, hsd, hsu⟩ := HS.out
          have HSI := Aside0.mk hsi
          have HSD := Aside0.mk (hsd.below HBx.out)
          have HSU := Aside0.mk (hsu.below HBx.out)
          obtain ⟨L, hL⟩ : ∃ L, L = xs.take k := ⟨_, rfl⟩
          have HLL : Aside0 (L.length = k) := ⟨by rw [hL, List.length_take, ← HN.out]; omega⟩
          have HLC : Aside0 (Kd.C k74 wc B0 L.length L) := ⟨by
            have h1 := C_take HC.out (k := k) (by rw [← HN.out]; exact hkn)
            rw [← hL] at h1
            rw [HLL.out]
            exact cells_below h1 HBx.out⟩
          have HLX := Aside0.mk (show ∀ x ∈ L, 0 ≤ x.f0 from fun x hx => HX0.out x (List.mem_of_mem_take (by rw [← hL]; exact hx)))
          have HBW := Aside0.mk (HBr.out.trans (HBx.out.mono HBr.out.size))
          have HKB := Aside0.mk (KB.out.below HBW.out)
          clear hsi hsd hsu hL HC HX0 hsl hc0 hxl hk hkn
          rw [← HLL.out]
          go_wp2_with fail
          refine (Pick_ok wc B0 c0 L HLC.out (by have := HLL.out; omega) last g 5000 (by decide) s HSI.out HSD.out _ _ (fun m => 100 + m * b0 % 9000) (fun m => 1 + m * b1 % 8) (.inr ⟨w.heap.size, b0, b1, rfl, rfl, hb0, hb1, HKB.out, rfl, rfl⟩)).mono ?_
          rintro e w3 hp
          obtain ⟨pk, acc, dA, s', rfl, hi', hbk', hb3, hok⟩ := plays_a HSI.out HSD.out hp
          clear hp
          have HBK' := Aside0.mk hbk'
          have HI' := Aside0.mk hi'
          have HOK := Aside0.mk hok
          have HB3' := Aside0.mk hb3
          clear hbk' hi' hb3 hok
          rw [choice]
          obtain ⟨no, eno⟩ : ∃ no, no = (acc.getD z74).f0 := ⟨_, rfl⟩
          obtain ⟨mo, emo⟩ : ∃ mo, mo = (acc.getD z74).f1 := ⟨_, rfl⟩
          have HNO := Aside0.mk eno
          have HMO := Aside0.mk emo
          rw [← eno, ← emo]
          clear eno emo
          obtain ⟨W4, eW4⟩ : ∃ W4, W4 = w3.alloc (.cells #[.int .i64 pk, .int .u64 no, .int .i64 mo, .pointer (some ⟨dA, 0, none⟩)] 63) := ⟨_, rfl⟩
          have HB34 : Aside0 (Below w3.heap.size w3 W4) := ⟨by rw [eW4]; exact (Below.refl _ _).alloc (Nat.le_refl _) _⟩
          have HP4 : Aside0 (Bk W4 w3.heap.size 63 #[.int .i64 pk, .int .u64 no, .int .i64 mo, .pointer (some ⟨dA, 0, none⟩)]) := ⟨by rw [eW4]; exact Bk.new _ _ _⟩
          have HBc4 := Aside0.mk (HB3'.out.trans (HB34.out.mono HB3'.out.size))
          have HW4 := Aside0.mk eW4
          clear eW4
          go_wp2_with fail
          rw [← HW4.out]
          refine (rowA W4 w.heap.size b0 b1 hb0 hb1 (HKB.out.below HBc4.out)).mono ?_
          rintro e w5 ⟨rfl, hb5⟩
          have HB45 := Aside0.mk hb5
          have HBc5 := Aside0.mk (HBc4.out.trans (hb5.mono HBc4.out.size))
          clear hb5
          go_wp2_with fail
          refine (rowB w5 w.heap.size b0 b1 hb0 hb1 (HKB.out.below HBc5.out)).mono ?_
          rintro e w6 ⟨rfl, hb6⟩
          have HBc6 := Aside0.mk (HBc5.out.trans (hb6.mono HBc5.out.size))
          have HB46 := Aside0.mk (HB45.out.trans (hb6.mono HB45.out.size))
          clear hb6
          go_wp2_with fail
          refine (rPick_ok w6 B0 c0 L (cells_below HLC.out HBc6.out) (by have := HLL.out; omega) (by have := HLL.out; omega) HLX.out last g2 5000 (by decide) s HSI.out (HSU.out.below HBc6.out) _ _ (fun m => 100 + m * b0 % 9000) (fun m => 1 + m * b1 % 8) (fun a h => rowTo_at _ a h) (fun a h => rowTo_at _ a h)).mono ?_
          rintro e w7 hp
          obtain ⟨pk2, acc2, dR, s2, rfl, hi2, hbk2, hb7, hok2⟩ := plays_r HSI.out (HSU.out.below HBc6.out) hp
          clear hp
          obtain ⟨rfl, rfl, rfl⟩ := HOK.out.uniq HSI.out hok2
          have HBR := Aside0.mk hbk2
          have HB47 := Aside0.mk (HB46.out.trans (hb7.mono HB46.out.size))
          clear hi2 hbk2 hok2 hb7
          rw [choice, ← HNO.out, ← HMO.out]
          obtain ⟨W8, eW8⟩ : ∃ W8, W8 = w7.alloc (.cells #[.int .i64 pk2, .int .u64 no, .int .i64 mo, .pointer (some ⟨dR, 0, none⟩)] 66) := ⟨_, rfl⟩
          have HB78 : Aside0 (Below w7.heap.size w7 W8) := ⟨by rw [eW8]; exact (Below.refl _ _).alloc (Nat.le_refl _) _⟩
          have HQ8 : Aside0 (Bk W8 w7.heap.size 66 #[.int .i64 pk2, .int .u64 no, .int .i64 mo, .pointer (some ⟨dR, 0, none⟩)]) := ⟨by rw [eW8]; exact Bk.new _ _ _⟩
          have HB48 := Aside0.mk (HB47.out.trans (HB78.out.mono HB47.out.size))
          have HP8 := Aside0.mk (HP4.out.below HB48.out)
          have HD8 := Aside0.mk ((HBK'.out.below HB34.out).below HB48.out)
          have HU8 := Aside0.mk (HBR.out.below HB78.out)
          have HBc8 := Aside0.mk (HBc4.out.trans (HB48.out.mono HBc4.out.size))
          have HW8 := Aside0.mk eW8
          obtain ⟨p0, p1, p2, p3, _⟩ := cells4 HP8.out
          obtain ⟨q0, q1, q2, q3, _⟩ := cells4 HQ8.out
          have qa : w3.heap.size < w7.heap.size := by have := HP4.out.lt; have := HB47.out.size; omega
          have r0 : w7.cell? ⟨w3.heap.size, 0, none⟩ = _ := (HP4.out.below HB47.out).cell 0
          have r1 : w7.cell? ⟨w3.heap.size, 1, none⟩ = _ := (HP4.out.below HB47.out).cell 1
          have r2 : w7.cell? ⟨w3.heap.size, 2, none⟩ = _ := (HP4.out.below HB47.out).cell 2
          have r3 : w7.cell? ⟨w3.heap.size, 3, none⟩ = _ := (HP4.out.below HB47.out).cell 3
          change _ = some (Value.int .i64 pk2) at r0
          change _ = some (Value.int .u64 no) at r1
          change _ = some (Value.int .i64 mo) at r2
          change _ = some (Value.pointer (some ⟨dA, 0, none⟩)) at r3
          clear eW8 p0 p1 p2 p3 q0 q1 q2 q3
          go_wp2_with fail
          rw [← HW8.out]
          clear HW8 r0 r1 r2 r3
          go_loopw [15] (fun v15 wr => ∃ j : Nat, j ≤ 30 ∧ v15 = .int .i64 j ∧ Aside0 (Below W8.heap.size W8 wr)) (fun v15 _ => 30 - (intOf v15).toNat)
          case atStart => exact ⟨0, by omega, rfl, ⟨Below.refl _ _⟩⟩
          case round =>
            obtain ⟨j, hj, rfl, HBj⟩ := hrel
            by_cases hjl : j < 30
            · by_cases hj0 : j = 0
              · subst hj0
                go_wp2_with fail
                go_quiet (fail)
                go_wp2
                go_roundw
                case rel => exact ⟨1, by omega, by go_num, ⟨pw_below_drewN HBj.out _⟩⟩
                case measure => simp [intOf]
              · have hj1 : (0 : Int) < (j : Int) := by omega
                have hjn : 0 < j := by omega
                have hjb : decide ((0 : Int) < (j : Int)) = true := decide_eq_true hj1
                have hjbn : decide (0 < j) = true := decide_eq_true hjn
                by_cases hj29 : j < 29
                · have hj2 : (j : Int) < 29 := by omega
                  have hj3 : (0 : Int) ≤ (j : Int) := by omega
                  have HDj := Aside0.mk (HD8.out.below HBj.out)
                  have cu := ((HU8.out.below HBj.out).cell (1 + j)).trans (dget 5000 s2.D (s2.a : Int) s2.f hj29)
                  go_wp2_with fail
                  go_quiet ((go_at_call 34; exact Calls.quiet_of_same (Deficit_ok _ dA 5000 s2.D (s2.a : Int) s2.f (by exact HDj.out) j (by omega) (by omega))))
                  go_wp2
                  go_roundw
                  case rel => exact ⟨j + 1, by omega, by go_num, ⟨pw_below_drewN HBj.out _⟩⟩
                  case measure => simp [intOf]; omega
                · have hj2 : ¬ ((j : Int) < 29) := by omega
                  have hd : decide ((j : Int) < 29) = false := decide_eq_false hj2
                  go_wp2_with fail
                  go_quiet (fail)
                  go_wp2
                  go_roundw
                  case rel => exact ⟨j + 1, by omega, by go_num, ⟨pw_below_drewN HBj.out _⟩⟩
                  case measure => simp [intOf]; omega
            · have p0 : wr.cell? ⟨w3.heap.size, 0, none⟩ = some (Value.int .i64 pk2) := (HP8.out.below HBj.out).cell 0
              have HBF := Aside0.mk (HBW.out.trans ((HBc8.out.trans (HBj.out.mono HBc8.out.size)).mono HBW.out.size))
              go_wp2_with fail
              refine ⟨⟨i + 1, dA, dR, pk2, by omega, by go_num, by first | rfl | (simp; done), by first | rfl | (simp; done), rfl, ⟨s2, HI'.out, HD8.out.below HBj.out, HU8.out.below HBj.out⟩, HBF⟩, ?_⟩
              simp [intOf]
              omega
      · have HBW := Aside0.mk HB.out
        go_wp2_with fail
        refine (works _).mono ?_
        rintro e w3 ⟨rfl, hB⟩
        have HB3 := Aside0.mk (HBW.out.trans (hB.mono HBW.out.size))
        clear hB
        go_wp2
        go_ret
        exact ⟨rfl, HB3.out⟩
    · have HBW := Aside0.mk HB.out
      go_wp2_with fail
      refine (works _).mono ?_
      rintro e w3 ⟨rfl, hB⟩
      have HB3 := Aside0.mk (HBW.out.trans (hB.mono HBW.out.size))
      clear hB
      go_wp2
      go_ret
      exact ⟨rfl, HB3.out⟩
end Go.Proofs.Ytcmcgjjhbjlkpaa.Pk
