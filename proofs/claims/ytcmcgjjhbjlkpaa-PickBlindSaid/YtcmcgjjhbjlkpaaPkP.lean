import Derived.Test.YtcmcgjjhbjlkpaaPkO
namespace Go.Proofs.Ytcmcgjjhbjlkpaa.Pk
open Go.RowKit Go.Shelf Go.Proofs.Ytcmcgjjhbjlkpaa.Rw Go.Proofs.YtcmcgjjhbjlkpaaW.PrintWords Go.Proofs.YtcmcgjjhbjlkpaaW.PrintLast Go.Proofs.YtcmcgjjhbjlkpaaW.PrintMore Go.Proofs.Ytcmcgjjhbjlkpaa.PPickPlays Go.Proofs.Ytcmcgjjhbjlkpaa.Air
set_option linter.unusedVariables false
set_option linter.unusedSimpArgs false
/-! ### The reference's search, by its own steps -/
def fedF (q : Int) (wt : Int → Int) (s : St) : St := ⟨upd s.D s.a (s.D s.a + q * clip (wt s.a) 8), s.a, true⟩
def RR (q : Int) (wd : Nat → Bool) (c wt : Int → Int) (s0 cur : St) : Prop :=
  Fails q wd c wt s0 cur ∨ ∃ s1, Fails q wd c wt s0 s1 ∧ wd s1.a = true ∧ s1.D s1.a < clip (c s1.a) 40000 ∧ s1.f = false ∧ cur = fedF q wt s1
def measR (m : Nat) (s : St) : Nat := 100 * (40000 - s.D m).toNat + 2 * ((m + 28 - s.a) % 28) + (if s.f then 0 else 1) + (if s.f = true ∧ s.a = m then 60 else 0)
section
variable {q : Int} {wd : Nat → Bool} {c wt : Int → Int} {s0 cur : St} {m : Nat}
theorem RR.inv (hq : 1000 ≤ q ∧ q ≤ 1000000) (h0 : Inv s0) (h : RR q wd c wt s0 cur) : Inv cur := by
  rcases h with h | ⟨s1, h, _, hp, _, rfl⟩
  · exact h.inv hq h0
  · have hi := h.inv hq h0
    have hg := qw_bd hq (wt s1.a)
    have hc := clip4 (c s1.a)
    have hd := hi.2 s1.a
    exact ⟨hi.1, upd_inv hi.2 _ _ (by omega)⟩
theorem RR.ret (h : RR q wd c wt s0 cur) (hw : wd cur.a = true) (hp : ¬ cur.D cur.a < clip (c cur.a) 40000) : Res q wd c wt s0 ⟨upd cur.D cur.a (cur.D cur.a - clip (c cur.a) 40000), cur.a, cur.f⟩ := by
  rcases h with h | ⟨s1, h, h1, h2, h3, rfl⟩
  · exact ⟨cur, h, by unfold turnF turnV; rw [if_pos hw, if_neg hp]⟩
  · refine ⟨s1, h, ?_⟩
    simp only [fedF, upd_same] at hp ⊢
    unfold turnF turnV
    rw [if_pos h1, if_pos h2, h3, if_neg (by simp), if_neg hp, upd_upd]
theorem RR.feed (hq : 1000 ≤ q ∧ q ≤ 1000000) (hi : Inv cur) (h : RR q wd c wt s0 cur) (hw : wd cur.a = true) (hp : cur.D cur.a < clip (c cur.a) 40000) (hf : cur.f = false) : RR q wd c wt s0 (fedF q wt cur) ∧ measR m (fedF q wt cur) < measR m cur := by
  rcases h with h | ⟨s1, h, h1, h2, h3, rfl⟩
  · refine ⟨.inr ⟨cur, h, hw, hp, hf, rfl⟩, ?_⟩
    have hg := qw_bd hq (wt cur.a)
    have hc := clip4 (c cur.a)
    have hd := hi.2 cur.a
    by_cases e : cur.a = m
    · subst e
      simp only [measR, fedF, upd_same, hf, if_true, Bool.false_eq_true, if_false, and_self, false_and]
      omega
    · have hu : ∀ v, upd cur.D cur.a v m = cur.D m := fun v => by unfold upd; rw [if_neg (fun h => e h.symm)]
      simp only [measR, fedF, hu, hf, if_true, Bool.false_eq_true, if_false, e, and_false]
      omega
  · exact absurd hf (by simp [fedF])
theorem RR.pass (hi : Inv cur) (h : RR q wd c wt s0 cur) (hw : wd cur.a = true) (hp : cur.D cur.a < clip (c cur.a) 40000) (hf : cur.f = true) : RR q wd c wt s0 ⟨cur.D, cur.a % 28 + 1, false⟩ ∧ (1 ≤ m ∧ m ≤ 28 → measR m ⟨cur.D, cur.a % 28 + 1, false⟩ < measR m cur) := by
  have hm : 1 ≤ m ∧ m ≤ 28 → measR m ⟨cur.D, cur.a % 28 + 1, false⟩ < measR m cur := by
    intro hm
    have ha := hi.1
    by_cases e : cur.a = m
    · subst e
      simp only [measR, hf, if_true, Bool.false_eq_true, if_false, and_self, false_and]
      omega
    · simp only [measR, hf, if_true, Bool.false_eq_true, if_false, e, and_false, false_and]
      omega
  refine ⟨?_, hm⟩
  rcases h with h | ⟨s1, h, h1, h2, h3, rfl⟩
  · refine .inl ?_
    have h1 : turnF q wd c wt cur = (false, cur) := by unfold turnF turnV; rw [if_pos hw, if_pos hp, if_pos hf]
    have := h.step (by rw [h1])
    rw [h1] at this
    exact this
  · refine .inl ?_
    simp only [fedF, upd_same] at hp ⊢
    have h1' : turnF q wd c wt s1 = (false, fedF q wt s1) := by
      unfold turnF turnV fedF
      rw [if_pos h1, if_pos h2, h3, if_neg (by simp), if_pos hp]
    have := h.step (by rw [h1'])
    rw [h1'] at this
    exact this
theorem RR.zero (hi : Inv cur) (h : RR q wd c wt s0 cur) (hw : wd cur.a = false) : RR q wd c wt s0 ⟨upd cur.D cur.a 0, cur.a % 28 + 1, false⟩ ∧ (1 ≤ m ∧ m ≤ 28 → wd m = true → measR m ⟨upd cur.D cur.a 0, cur.a % 28 + 1, false⟩ < measR m cur) := by
  refine ⟨?_, fun hm hwm => ?_⟩
  · rcases h with h | ⟨s1, h, h1, h2, h3, rfl⟩
    · refine .inl ?_
      have h1 : turnF q wd c wt cur = (false, ⟨upd cur.D cur.a 0, cur.a, cur.f⟩) := by unfold turnF turnV; rw [hw]; rfl
      have := h.step (by rw [h1])
      rw [h1] at this
      exact this
    · have : wd s1.a = false := hw
      rw [h1] at this; cases this
  · have ha := hi.1
    have e : ¬ cur.a = m := fun e => by rw [e, hwm] at hw; cases hw
    have hu : ∀ v, upd cur.D cur.a v m = cur.D m := fun v => by unfold upd; rw [if_neg (fun h => e h.symm)]
    cases hf : cur.f <;> simp only [measR, hu, hf, if_true, Bool.false_eq_true, if_false, e, and_false, false_and] <;> omega
end
def measWR (m X : Nat) (W : World) : Nat := 100 * (40000 - intOf ((W.cell? ⟨X, 1 + m, none⟩).getD undef)).toNat + 2 * ((m + 28 - (intOf ((W.cell? ⟨X, 30, none⟩).getD undef)).toNat) % 28) + (match W.cell? ⟨X, 31, none⟩ with | some (.bool true) => (if (intOf ((W.cell? ⟨X, 30, none⟩).getD undef)).toNat = m then 60 else 0) | _ => 1)
theorem measWR_eq {m X : Nat} (hm : m < 29) {W : World} {q : Int} {s : St} {t : Nat} (h : Bk W X t (dcells q s.D (s.a : Int) s.f)) : measWR m X W = measR m s := by
  have h1 := (h.cell (1 + m)).trans (dget q s.D _ s.f hm)
  have h2 : W.cell? ⟨X, 30, none⟩ = some (Value.int .i64 (s.a : Int)) := h.cell 30
  have h3 : W.cell? ⟨X, 31, none⟩ = some (Value.bool s.f) := h.cell 31
  unfold measWR measR
  rw [h1, h2, h3]
  cases s.f <;> simp [intOf] <;> (by_cases e : s.a = m <;> simp [e])
def someTo (wd : Nat → Bool) (m : Nat) : Bool := (List.range m).any (fun j => decide (1 ≤ j) && wd j)
theorem someTo_step (wd : Nat → Bool) (m : Nat) (h : 1 ≤ m) : someTo wd (m + 1) = (someTo wd m || wd m) := by
  unfold someTo; rw [List.range_succ, List.any_append]; simp [h]
theorem someTo_29 (xs : List Int) : someTo (wdOf (ysOf xs)) 29 = !(ysOf xs).isEmpty := by
  cases hy : ysOf xs with
  | nil => 
    rw [Bool.eq_iff_iff]; simp [someTo, wdOf]
  | cons y ys =>
    have hr := ysOf_rng (xs := xs) (y := y) (by rw [hy]; simp)
    rw [List.isEmpty_cons, Bool.not_false]
    unfold someTo
    rw [List.any_eq_true]
    exact ⟨y.val, by simp, by simp [wdOf, hr.1]⟩
def NextPostR (w : World) (g : Nat) (q : Int) (s : St) (ys : List (Fin 29)) (c wt : Int → Int) (e : Ending) (w' : World) : Prop :=
  Below w.heap.size w w' ∧ ((ys = [] ∧ e = .returned (.tuple #[.int .i64 0, .pointer (some ⟨g, 0, none⟩)])) ∨
    (ys ≠ [] ∧ ∃ s' X, Res q (wdOf ys) c wt s s' ∧ e = .returned (.tuple #[.int .i64 (s'.a : Int), .pointer (some ⟨X, 0, none⟩)]) ∧ Bk w' X 71 (dcells q s'.D (s'.a : Int) s'.f) ∧ w.heap.size ≤ X))
set_option maxHeartbeats 8000000 in
set_option maxRecDepth 100000 in
theorem rNext_ok (w : World) (g : Nat) (q : Int) (hq : 1000 ≤ q ∧ q ≤ 1000000) (s : St) (hs : Inv s) (hd : Bk w g 71 (dcells q s.D (s.a : Int) s.f)) (A : Option Addr) (cc : Nat) (xs : List Int) (hlen : xs.length ≤ 9223372036854775806) (hr : Kd.C (Kd.int .i64) w A xs.length xs)
    (C T : Nat → Int) (c wt : Int → Int) (hc : ∀ a : Nat, 1 ≤ a ∧ a ≤ 28 → C a = c (a : Int)) (ht : ∀ a : Nat, 1 ≤ a ∧ a ≤ 28 → T a = wt (a : Int)) :
    Calls Try.prog 72 #[.pointer (some ⟨g, 0, none⟩), .slice A xs.length cc, .agg (rcells C), .agg (rcells T)] w (NextPostR w g q s (ysOf xs) c wt) := by
  have HR := Aside0.mk hr
  have HC := Aside0.mk hc
  have HTT := Aside0.mk ht
  obtain ⟨W2, eW2⟩ : ∃ W2, W2 = allocs w [.cells (rcells C) 68, .cells (rcells T) 68] := ⟨_, rfl⟩
  have HB2 : Aside0 (Below w.heap.size w W2) := ⟨by rw [eW2]; exact allocs_below _ _⟩
  have K0 : Aside0 (Bk W2 w.heap.size 68 (rcells C)) := ⟨by rw [eW2]; exact allocs_get _ _ 0 _ rfl⟩
  have K1 : Aside0 (Bk W2 (w.heap.size + 1) 68 (rcells T)) := ⟨by rw [eW2]; exact allocs_get _ _ 1 _ rfl⟩
  have HD2 := Aside0.mk (hd.below HB2.out)
  have HR2 := Aside0.mk (cells_below hr HB2.out)
  simp only [allocs] at eW2
  clear hr hc ht hd
  obtain ⟨n, hn⟩ : ∃ n, n = xs.length := ⟨_, rfl⟩
  have HN := Aside0.mk hn
  rw [← hn] at hlen ⊢
  clear hn
  go_enter Try.func72, Try.ntmps72
  go_wp2_with fail
  rw [← eW2]
  clear eW2
  go_loopw [10, 11] (fun v10 v11 wr => ∃ m : Nat, 1 ≤ m ∧ m ≤ 29 ∧ v11 = .int .i64 m ∧ v10 = .bool (someTo (wdOf (ysOf xs)) m) ∧ wr = W2) (fun _ v11 _ => 29 - (intOf v11).toNat)
  case atStart => exact ⟨1, by omega, by omega, rfl, rfl, rfl⟩
  case round =>
    obtain ⟨m, h1m, hm, rfl, rfl, rfl⟩ := hrel
    by_cases hlt : m < 29
    · have HS := Aside0.mk (someTo_step (wdOf (ysOf xs)) m h1m)
      cases hb : someTo (wdOf (ysOf xs)) m
      · have HBB := Aside0.mk hb
        clear hb
        go_wp2_with fail
        rw [HN.out]
        refine (wanted_ok wr A cc xs HR2.out (by have := HN.out; omega) (m : Int)).mono ?_
        rintro e w1 ⟨rfl, rfl⟩
        rw [wanted_wd (by omega), ← HN.out]
        go_wp2
        go_roundw
        case rel => exact ⟨m + 1, by omega, by omega, by go_num, by rw [HS.out, HBB.out]; simp, by first | rfl | trivial⟩
        case measure => simp [intOf]; omega
      · have HBB := Aside0.mk hb
        clear hb
        go_wp2
        go_roundw
        case rel => exact ⟨m + 1, by omega, by omega, by go_num, by rw [HS.out, HBB.out]; simp, by first | rfl | trivial⟩
        case measure => simp [intOf]; omega
    · obtain rfl : m = 29 := by omega
      rw [someTo_29]
      cases hye : (ysOf xs).isEmpty
      · have hyn : ysOf xs ≠ [] := fun e => by rw [e] at hye; cases hye
        have HYN := Aside0.mk hyn
        obtain ⟨y, ys, ey⟩ := List.exists_cons_of_ne_nil hyn
        have hyr := ysOf_rng (xs := xs) (y := y) (by rw [ey]; simp)
        obtain ⟨wd, ewd⟩ : ∃ wd, wd = wdOf (ysOf xs) := ⟨_, rfl⟩
        have HWD := Aside0.mk ewd
        have hwy : wd y.val = true := by rw [ewd, ey]; simp [wdOf]
        clear hye hyn ey ewd
        rw [Bool.not_false]
        go_wp2_with (first | (refine wpList_load_row rfl 71 (.tmp 29) rfl g rfl 71 (dcells q s.D (s.a : Int) s.f) (0, 0) _ HD2.out Try.underlying71 rfl size71 ?_) | (refine wpList_store_row rfl 71 (.tmp 12) (.tmp 30) rfl wr.heap.size (dcells q s.D (s.a : Int) s.f) rfl rfl 71 _ (heap_alloc_new wr _) size71 rfl (dcells_one _ _ _ _) ?_; rw [World.setRow_alloc_new]))
        obtain ⟨X, eX⟩ : ∃ X, X = wr.heap.size := ⟨_, rfl⟩
        obtain ⟨W7, eW7⟩ : ∃ W7, W7 = wr.alloc (Obj.cells (dcells q s.D (s.a : Int) s.f) 71) := ⟨_, rfl⟩
        have HX7 : Aside0 (Bk W7 X 71 (dcells q s.D (s.a : Int) s.f)) := ⟨by rw [eX, eW7]; exact Bk.new wr 71 _⟩
        have HB7 : Aside0 (Below wr.heap.size wr W7) := ⟨by rw [eW7]; exact (Below.refl _ wr).alloc (Nat.le_refl _) _⟩
        have K07 := Aside0.mk (K0.out.below HB7.out)
        have K17 := Aside0.mk (K1.out.below HB7.out)
        have hXw : w.heap.size + 1 < X := by rw [eX]; exact K1.out.lt
        have hX7 : W7.heap.size = X + 1 := by rw [eW7, eX]; simp
        have HBL := Aside0.mk (HB2.out.trans (HB7.out.mono HB2.out.size))
        have HR7 := Aside0.mk (cells_below HR2.out HB7.out)
        rw [← eX, ← eW7]
        simp only [Act.put]
        clear eW7 eX
        have hss := Aside0.mk (show RR q wd c wt s s from .inl .refl)
        go_loopw [13] (fun v13 wr => Aside0 (∃ cur, RR q wd c wt s cur ∧ Bk wr X 71 (dcells q cur.D (cur.a : Int) cur.f)) ∧ Aside0 (sameBut W7 wr X)) (fun _ wr => measWR y.val X wr)
        case atStart => exact ⟨⟨s, hss.out, HX7.out⟩, ⟨Keep.refl _ _⟩⟩
        case round =>
          obtain ⟨⟨cur, hrr, hbk⟩, HS⟩ := hrel
          have HBW := Aside0.mk (HBL.out.trans (HS.out.toBelow (by omega) HBL.out.size))
          have HRW := Aside0.mk (cells_below HR.out HBW.out)
          have HRR := Aside0.mk hrr
          have hi1 := hrr.inv hq hs
          have HM1 := Aside0.mk (measWR_eq (m := y.val) (by omega) hbk)
          have HBK := Aside0.mk hbk
          have HI := Aside0.mk hi1
          obtain ⟨D, a, f⟩ := cur
          have ha : 1 ≤ a ∧ a ≤ 28 := hi1.1
          have hDa : 0 ≤ D a ∧ D a ≤ 10000000 := hi1.2 a
          have hai0 : (0 : Int) ≤ (a : Int) := by omega
          have hai1 : (a : Int) < 29 := by omega
          have hXX : X < wr.heap.size := hbk.lt
          have c0 : wr.cell? ⟨X, 0, none⟩ = some (Value.int .i64 q) := hbk.cell 0
          have c30 : wr.cell? ⟨X, 30, none⟩ = some (Value.int .i64 (a : Int)) := hbk.cell 30
          have c31 : wr.cell? ⟨X, 31, none⟩ = some (Value.bool f) := hbk.cell 31
          have ca : wr.cell? ⟨X, 1 + a, none⟩ = some (Value.int .i64 (D a)) := (hbk.cell (1 + a)).trans (dget q D a f (by omega))
          have fa : wr.frozen? ⟨X, 1 + a, none⟩ = false := hbk.frozen _
          have f30 : wr.frozen? ⟨X, 30, none⟩ = false := hbk.frozen _
          have f31 : wr.frozen? ⟨X, 31, none⟩ = false := hbk.frozen _
          have r0 : wr.cell? ⟨w.heap.size, a, none⟩ = some (Value.int .i64 (C a)) := ((HS.out.bk (by omega) K07.out).cell a).trans (rget C (by omega))
          have r1 : wr.cell? ⟨w.heap.size + 1, a, none⟩ = some (Value.int .i64 (T a)) := ((HS.out.bk (by omega) K17.out).cell a).trans (rget T (by omega))
          obtain ⟨P, eP⟩ : ∃ P, P = clip (C a) 40000 := ⟨_, rfl⟩
          obtain ⟨G, eG⟩ : ∃ G, G = clip (T a) 8 := ⟨_, rfl⟩
          have hP : 1 ≤ P ∧ P ≤ 40000 := by rw [eP]; exact clip4 _
          have hG : 1 ≤ G ∧ G ≤ 8 := by rw [eG]; exact clip8 _
          have HP := Aside0.mk eP
          have HG := Aside0.mk eG
          have HPc : Aside0 (P = clip (c (a : Int)) 40000) := ⟨by rw [eP, HC.out a ha]⟩
          have HGc : Aside0 (G = clip (wt (a : Int)) 8) := ⟨by rw [eG, HTT.out a ha]⟩
          have hqG : 0 ≤ q * G ∧ q * G ≤ 8000000 := ⟨Int.mul_nonneg (by omega) (by omega), by have := Int.mul_le_mul hq.2 hG.2 (by omega) (by omega); omega⟩
          clear eP eG hrr hbk hi1
          go_upto_region 9 with (fail)
          go_cut [13] (fun v13 wx => v13 = .int .i64 P ∧ wx = wr)
          case first =>
            go_wp2_with fail
            all_goals
              go_meet
              refine ⟨?_, rfl⟩
              rw [HP.out]
              unfold clip
              first | (congr 1; omega) | rfl
          case rest =>
            obtain ⟨rfl, hwx⟩ := hcut
            subst hwx
            go_upto_region 10 with (fail)
            go_cut [14] (fun v14 wx => v14 = .int .i64 G ∧ wx = wc)
            case first =>
              go_wp2_with fail
              all_goals
                go_meet
                refine ⟨?_, rfl⟩
                rw [HG.out]
                unfold clip
                first | (congr 1; omega) | rfl
            case rest =>
              obtain ⟨rfl, hwx⟩ := hcut
              subst hwx
              cases hw : wd a
              · have HWA := Aside0.mk hw
                clear hw
                go_wp2_with fail
                rw [HN.out]
                refine (wanted_ok _ A cc xs HRW.out (by have := HN.out; omega) (a : Int)).mono ?_
                rintro e wz ⟨rfl, rfl⟩
                rw [wanted_wd ha, ← HWD.out, HWA.out, ← HN.out]
                go_wp2_with fail
                rw [HN.out]
                refine (wanted_ok _ A cc xs HRW.out (by have := HN.out; omega) (a : Int)).mono ?_
                rintro e wz ⟨rfl, rfl⟩
                rw [wanted_wd ha, ← HWD.out, HWA.out, ← HN.out]
                go_wp2_with fail
                rw [HN.out]
                refine (wanted_ok _ A cc xs HRW.out (by have := HN.out; omega) (a : Int)).mono ?_
                rintro e wz ⟨rfl, rfl⟩
                rw [wanted_wd ha, ← HWD.out, HWA.out, ← HN.out]
                go_wp2_with fail
                have HPA := HRR.out.zero (m := y.val) HI.out HWA.out
                have h1 := ((HBK.out.set (1 + a) (.int .i64 0)).set 30 (.int .i64 ((a : Int) % 28 + 1))).set 31 (.bool false)
                rw [dset q D a f (by omega), dset30, dset31] at h1
                have h2 : Bk (((wz.setCell ⟨X, 1 + a, none⟩ (.int .i64 0)).setCell ⟨X, 30, none⟩ (.int .i64 ((a : Int) % 28 + 1))).setCell ⟨X, 31, none⟩ (.bool false)) X 71 (dcells q (⟨(upd D a 0), a % 28 + 1, false⟩ : St).D (((⟨(upd D a 0), a % 28 + 1, false⟩ : St).a : Nat) : Int) (⟨(upd D a 0), a % 28 + 1, false⟩ : St).f) := by
                  rw [show (((⟨(upd D a 0), a % 28 + 1, false⟩ : St).a : Nat) : Int) = (a : Int) % 28 + 1 by simp]
                  exact h1
                refine ⟨⟨⟨_, HPA.1, h2⟩, ⟨HS.out.trans ((((Keep.refl wz (fun k => k = X)).set ⟨X, 1 + a, none⟩ _ (.inl rfl)).set ⟨X, 30, none⟩ _ (.inl rfl)).set ⟨X, 31, none⟩ _ (.inl rfl))⟩⟩, ?_⟩
                show measWR y.val X _ < measWR y.val X wz
                rw [HM1.out, measWR_eq (m := y.val) (by omega) h2]
                exact HPA.2 hyr hwy
              · have HWA := Aside0.mk hw
                clear hw
                by_cases hlp : D a < P
                · have HPN := Aside0.mk hlp
                  cases f
                  · go_wp2_with fail
                    rw [HN.out]
                    refine (wanted_ok _ A cc xs HRW.out (by have := HN.out; omega) (a : Int)).mono ?_
                    rintro e wz ⟨rfl, rfl⟩
                    rw [wanted_wd ha, ← HWD.out, HWA.out, ← HN.out]
                    go_wp2_with fail
                    rw [HN.out]
                    refine (wanted_ok _ A cc xs HRW.out (by have := HN.out; omega) (a : Int)).mono ?_
                    rintro e wz ⟨rfl, rfl⟩
                    rw [wanted_wd ha, ← HWD.out, HWA.out, ← HN.out]
                    go_wp2_with fail
                    refine wp_region_still_tail 14 (by kernel_rfl) (by kernel_rfl) ?_
                    simp only [List.take_succ_cons, List.take_zero, List.drop_succ_cons, List.drop_zero]
                    repeat still_step
                    refine wpStill_nil ?_
                    change wpList _ _ _ _ _ wz.drew
                    go_wp2_with fail
                    have HFE := HRR.out.feed (m := y.val) hq HI.out HWA.out (by rw [← HPc.out]; exact HPN.out) rfl
                    have h1 := (HBK.out.set (1 + a) (.int .i64 (D a + q * G))).set 31 (.bool true)
                    rw [dset q D a false (by omega), dset31] at h1
                    have h2 : Bk (((wz.setCell ⟨X, 1 + a, none⟩ (.int .i64 (D a + q * G))).setCell ⟨X, 31, none⟩ (.bool true)).drew) X 71 (dcells q (fedF q wt ⟨D, a, false⟩).D ((fedF q wt ⟨D, a, false⟩).a : Int) (fedF q wt ⟨D, a, false⟩).f) := by
                      simp only [fedF, ← HGc.out]
                      exact h1
                    refine ⟨⟨⟨_, HFE.1, h2⟩, ⟨HS.out.trans (Keep.drew (((Keep.refl wz (fun k => k = X)).set ⟨X, 1 + a, none⟩ _ (.inl rfl)).set ⟨X, 31, none⟩ _ (.inl rfl)))⟩⟩, ?_⟩
                    show measWR y.val X _ < measWR y.val X wz
                    rw [HM1.out, measWR_eq (m := y.val) (by omega) h2]
                    exact HFE.2
                  · go_wp2_with fail
                    rw [HN.out]
                    refine (wanted_ok _ A cc xs HRW.out (by have := HN.out; omega) (a : Int)).mono ?_
                    rintro e wz ⟨rfl, rfl⟩
                    rw [wanted_wd ha, ← HWD.out, HWA.out, ← HN.out]
                    go_wp2_with fail
                    rw [HN.out]
                    refine (wanted_ok _ A cc xs HRW.out (by have := HN.out; omega) (a : Int)).mono ?_
                    rintro e wz ⟨rfl, rfl⟩
                    rw [wanted_wd ha, ← HWD.out, HWA.out, ← HN.out]
                    go_wp2_with fail
                    rw [HN.out]
                    refine (wanted_ok _ A cc xs HRW.out (by have := HN.out; omega) (a : Int)).mono ?_
                    rintro e wz ⟨rfl, rfl⟩
                    rw [wanted_wd ha, ← HWD.out, HWA.out, ← HN.out]
                    go_wp2_with fail
                    have HPA := HRR.out.pass (m := y.val) HI.out HWA.out (by rw [← HPc.out]; exact HPN.out) rfl
                    have h1 := (HBK.out.set 30 (.int .i64 ((a : Int) % 28 + 1))).set 31 (.bool false)
                    rw [dset30, dset31] at h1
                    have h2 : Bk ((wz.setCell ⟨X, 30, none⟩ (.int .i64 ((a : Int) % 28 + 1))).setCell ⟨X, 31, none⟩ (.bool false)) X 71 (dcells q (⟨D, a % 28 + 1, false⟩ : St).D (((⟨D, a % 28 + 1, false⟩ : St).a : Nat) : Int) (⟨D, a % 28 + 1, false⟩ : St).f) := by
                      rw [show (((⟨D, a % 28 + 1, false⟩ : St).a : Nat) : Int) = (a : Int) % 28 + 1 by simp]
                      exact h1
                    refine ⟨⟨⟨_, HPA.1, h2⟩, ⟨HS.out.trans (((Keep.refl wz (fun k => k = X)).set ⟨X, 30, none⟩ _ (.inl rfl)).set ⟨X, 31, none⟩ _ (.inl rfl))⟩⟩, ?_⟩
                    show measWR y.val X _ < measWR y.val X wz
                    rw [HM1.out, measWR_eq (m := y.val) (by omega) h2]
                    exact HPA.2 hyr
                · have HPN := Aside0.mk hlp
                  go_wp2_with fail
                  rw [HN.out]
                  refine (wanted_ok _ A cc xs HRW.out (by have := HN.out; omega) (a : Int)).mono ?_
                  rintro e wz ⟨rfl, rfl⟩
                  rw [wanted_wd ha, ← HWD.out, HWA.out, ← HN.out]
                  go_wp2_with fail
                  refine wp_region_still_tail 11 (by kernel_rfl) (by kernel_rfl) ?_
                  simp only [List.take_succ_cons, List.take_zero, List.drop_succ_cons, List.drop_zero]
                  repeat still_step
                  refine wpStill_nil ?_
                  change wpList _ _ _ _ _ wz.drew
                  go_wp2
                  go_ret2
                  have HR1 := HRR.out.ret HWA.out (by rw [← HPc.out]; show ¬ (D a < P); have := HPN.out; omega)
                  have h1 := HBK.out.set (1 + a) (.int .i64 (D a - P))
                  rw [dset q D a f (by omega)] at h1
                  refine ⟨(HBW.out.setCell (p := ⟨X, 1 + a, none⟩) (by show w.heap.size ≤ X; omega) _).drew, .inr ⟨HYN.out, ⟨upd D a (D a - P), a, f⟩, X, ?_, rfl, h1, by omega⟩⟩
                  rw [← HWD.out, HPc.out]
                  exact HR1
      · have hyn : ysOf xs = [] := List.isEmpty_iff.1 hye
        have HYN := Aside0.mk hyn
        clear hyn hye
        rw [Bool.not_true]
        go_wp2_with fail
        go_returns
        exact ⟨HB2.out, .inl ⟨HYN.out, rfl⟩⟩
end Go.Proofs.Ytcmcgjjhbjlkpaa.Pk
