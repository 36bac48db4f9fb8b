import Derived.Test.YtcmcgjjhbjlkpaaPkK
namespace Go.Proofs.Ytcmcgjjhbjlkpaa.Pk
open Go.RowKit Go.Shelf Go.Proofs.Ytcmcgjjhbjlkpaa.Rw Go.Proofs.YtcmcgjjhbjlkpaaW.PrintWords Go.Proofs.YtcmcgjjhbjlkpaaW.PrintLast Go.Proofs.YtcmcgjjhbjlkpaaW.PrintMore Go.Proofs.Ytcmcgjjhbjlkpaa.PPickPlays Go.Proofs.Ytcmcgjjhbjlkpaa.Air
set_option linter.unusedVariables false
set_option linter.unusedSimpArgs false
/-! ### The reference: what is wanted -/
theorem any_take {xs : List Int} {k : Nat} (h : k < xs.length) (a : Int) : (xs.take (k + 1)).any (fun y => decide (y = a)) = ((xs.take k).any (fun y => decide (y = a)) || decide (xs.getD k 0 = a)) := by
  rw [List.take_succ_eq_append_getElem h, List.any_append]
  simp [List.getD_eq_getElem?_getD, h]
theorem any_of_take {xs : List Int} {k : Nat} {p : Int → Bool} (h : (xs.take k).any p = true) : xs.any p = true := by
  rw [List.any_eq_true] at *
  obtain ⟨x, hx, hp⟩ := h
  exact ⟨x, List.mem_of_mem_take hx, hp⟩
set_option maxHeartbeats 2000000 in
set_option maxRecDepth 100000 in
theorem wanted_ok (w : World) (A : Option Addr) (c : Nat) (xs : List Int) (hr : Kd.C (Kd.int .i64) w A xs.length xs) (hm : xs.length ≤ 9223372036854775806) (a : Int) :
    Calls Try.prog 80 #[.slice A xs.length c, .int .i64 a] w fun e w' => e = .returned (.bool (xs.any (fun y => decide (y = a)))) ∧ w' = w := by
  have HR := Aside0.mk hr
  obtain ⟨n, hn⟩ : ∃ n, n = xs.length := ⟨_, rfl⟩
  have HN := Aside0.mk hn
  rw [← hn] at hm ⊢
  clear hr hn
  go_enter Try.func80, Try.ntmps80
  go_wp2_with fail
  go_loop [5] (fun v5 => ∃ i : Nat, i ≤ n ∧ v5 = .int .i64 i ∧ Aside0 ((xs.take i).any (fun y => decide (y = a)) = false)) (fun v5 => n - (intOf v5).toNat)
  case atStart => exact ⟨0, by omega, rfl, ⟨rfl⟩⟩
  case round =>
    obtain ⟨i, hi, rfl, HA⟩ := hrel
    by_cases hlt : i < n
    · obtain ⟨ad, rfl, hx⟩ := at_int HR.out i (by rw [← HN.out]; exact hlt)
      have HT := Aside0.mk (any_take (xs := xs) (k := i) (by rw [← HN.out]; exact hlt) a)
      obtain ⟨x, ex⟩ : ∃ x, x = xs.getD i 0 := ⟨_, rfl⟩
      rw [← ex] at hx HT
      clear ex
      by_cases hxa : x = a
      · have hb : (x == a) = true := by simpa using hxa
        have HX := Aside0.mk hxa
        clear hxa
        go_wp2
        go_ret
        refine ⟨?_, rfl⟩
        have : (xs.take (i + 1)).any (fun y => decide (y = a)) = true := by rw [HT.out, decide_eq_true HX.out]; simp
        rw [any_of_take this]
        rfl
      · have hb : (x == a) = false := by simpa using hxa
        have HX := Aside0.mk hxa
        clear hxa
        go_wp2
        go_round
        case rel => exact ⟨i + 1, by omega, by go_num, ⟨by rw [HT.out, HA.out, decide_eq_false HX.out]; rfl⟩⟩
        case measure => simp [intOf]; omega
    · obtain rfl : i = n := by omega
      go_wp2
      go_ret
      have := HA.out
      rw [HN.out, List.take_length] at this
      exact ⟨by rw [this]; rfl, rfl⟩
theorem wanted_wd {xs : List Int} {a : Nat} (h : 1 ≤ a ∧ a ≤ 28) : xs.any (fun y => decide (y = (a : Int))) = wdOf (ysOf xs) a := by
  rw [Bool.eq_iff_iff, List.any_eq_true]
  unfold wdOf
  rw [List.any_eq_true]
  constructor
  · rintro ⟨x, hx, e⟩
    have e' : x = (a : Int) := by simpa using e
    have hv := fi_val (x := x) (by omega) (by omega)
    refine ⟨fi x, ?_, ?_⟩
    · unfold ysOf
      exact List.mem_map.2 ⟨x, List.mem_filter.2 ⟨hx, by simp [inR]; omega⟩, rfl⟩
    · have : (fi x).val = a := by omega
      simpa using this
  · rintro ⟨y, hy, e⟩
    unfold ysOf at hy
    obtain ⟨x, hx, rfl⟩ := List.mem_map.1 hy
    obtain ⟨h1, h2⟩ := List.mem_filter.1 hx
    simp [inR] at h2
    have hv := fi_val h2.1 h2.2
    have e' : (fi x).val = a := by simpa using e
    exact ⟨x, h1, by simp; omega⟩
/-- Where the first is. -/
def FirstAt (p : S74 → Bool) (l : List S74) (i : Int) : Prop := (i = -1 ∧ fst p l = none) ∨ ∃ j : Nat, i = (j : Int) ∧ j < l.length ∧ fst p l = some (rd_T74 l i)
section
variable {p : S74 → Bool} {l : List S74} {k : Nat} {i : Int}
theorem FirstAt.skip (h : FirstAt p (l.take k) i) (hk : k < l.length) (hp : p (rd_T74 l (k : Int)) = false) : FirstAt p (l.take (k + 1)) i := by
  have ht := fst_take (p := p) hk
  rw [show fstep p (fst p (l.take k)) (rd_T74 l (k : Int)) = fst p (l.take k) by simp [fstep, hp]] at ht
  rcases h with ⟨h1, h2⟩ | ⟨j, h1, h2, h3⟩
  · exact .inl ⟨h1, ht.trans h2⟩
  · refine .inr ⟨j, h1, by simp at h2 ⊢; omega, ht.trans (h3.trans ?_)⟩
    simp at h2
    subst h1
    simp [rd_T74, List.getD_eq_getElem?_getD, List.getElem?_take, show j < k by omega, show j < k + 1 by omega]
theorem FirstAt.some_ (h : FirstAt p (l.take k) i) (hk : k < l.length) (hs : fstep p (fst p (l.take k)) (rd_T74 l (k : Int)) = some (rd_T74 l (k : Int))) : FirstAt p (l.take (k + 1)) (k : Int) := by
  have ht := fst_take (p := p) hk
  rw [hs] at ht
  refine .inr ⟨k, rfl, by simp; omega, ht.trans ?_⟩
  simp [rd_T74, List.getD_eq_getElem?_getD, List.getElem?_take]
theorem FirstAt.keep (h : FirstAt p (l.take k) i) (hk : k < l.length) (hs : fstep p (fst p (l.take k)) (rd_T74 l (k : Int)) = fst p (l.take k)) : FirstAt p (l.take (k + 1)) i := by
  have ht := fst_take (p := p) hk
  rw [hs] at ht
  rcases h with ⟨h1, h2⟩ | ⟨j, h1, h2, h3⟩
  · exact .inl ⟨h1, ht.trans h2⟩
  · refine .inr ⟨j, h1, by simp at h2 ⊢; omega, ht.trans (h3.trans ?_)⟩
    simp at h2
    subst h1
    simp [rd_T74, List.getD_eq_getElem?_getD, List.getElem?_take, show j < k by omega, show j < k + 1 by omega]
end
set_option maxHeartbeats 4000000 in
set_option maxRecDepth 100000 in
theorem first_voice (w : World) (A : Option Addr) (c : Nat) (xs : List S74) (hr : Kd.C k74 w A xs.length xs) (hm : xs.length ≤ 9223372036854775806) (hw : ∀ x ∈ xs, 0 ≤ x.f0) :
    Calls Try.prog 71 #[.slice A xs.length c, .int .i64 0, .int .i64 1] w fun e w' => (∃ i : Int, e = .returned (.int .i64 i) ∧ FirstAt qVoice xs i) ∧ Below w.heap.size w w' := by
  have HR := Aside0.mk hr
  obtain ⟨n, hn⟩ : ∃ n, n = xs.length := ⟨_, rfl⟩
  have HN := Aside0.mk hn
  rw [← hn] at hm ⊢
  have HWX := Aside0.mk hw
  clear hr hn hw
  go_enter Try.func71, Try.ntmps71
  go_wp2_with fail
  go_loopw [7, 8] (fun v7 v8 wr => ∃ (i : Nat) (at_ : Int), i ≤ n ∧ v8 = .int .i64 i ∧ v7 = .int .i64 at_ ∧ Aside0 (FirstAt qVoice (xs.take i) at_) ∧ Aside0 (Below w.heap.size w wr)) (fun _ v8 _ => n - (intOf v8).toNat)
  case atStart => exact ⟨0, -1, by omega, rfl, rfl, ⟨.inl ⟨rfl, rfl⟩⟩, ⟨Below.refl _ _⟩⟩
  case round =>
    obtain ⟨i, at_, hi, rfl, rfl, HA, HB⟩ := hrel
    by_cases hlt : i < n
    · obtain ⟨ad, rfl, h0, h1, h2, h3⟩ := at_T74 HR.out (i : Int) (by omega) (by rw [← HN.out]; omega)
      rw [Int.toNat_natCast] at h0 h1 h2 h3
      obtain ⟨x, hx⟩ : ∃ x, x = rd_T74 xs (i : Int) := ⟨_, rfl⟩
      have HXX := Aside0.mk hx
      have HLT := Aside0.mk (show i < xs.length by rw [← HN.out]; exact hlt)
      rw [← hx] at h0 h1 h2 h3
      have hx0 : 0 ≤ x.f0 := by
        rw [hx]
        refine HWX.out _ ?_
        unfold rd_T74
        rw [List.getD_eq_getElem?_getD, Int.toNat_natCast, List.getElem?_eq_getElem HLT.out]
        exact List.getElem_mem HLT.out
      clear hx
      replace h0 := cell_below h0 HB.out
      replace h1 := cell_below h1 HB.out
      replace h2 := cell_below h2 HB.out
      replace h3 := cell_below h3 HB.out
      have HBA := Aside0.mk (HB.out.alloc HB.out.size (.cells #[Value.int .u64 x.f0, Value.int .i64 x.f1, Value.bool x.f2, Value.bool x.f3] 74))
      cases hq : (qVoice) x
      · have HF := Aside0.mk (HA.out.skip HLT.out (by rw [← HXX.out]; exact hq))
        have hc : x.f0 = 0 ∨ (0 < x.f0 ∧ x.f1 < 1) ∨ (0 < x.f0 ∧ 1 ≤ x.f1 ∧ 28 < x.f1) ∨ (0 < x.f0 ∧ 1 ≤ x.f1 ∧ x.f1 ≤ 28 ∧ x.f2 = false) := by
          have hq' := hq
          simp [qVoice, cnt] at hq'
          by_cases e0 : x.f0 = 0; exact .inl e0; by_cases e1 : x.f1 < 1; exact .inr (.inl ⟨by omega, e1⟩); by_cases e2 : 28 < x.f1; exact .inr (.inr (.inl ⟨by omega, by omega, e2⟩)); exact .inr (.inr (.inr ⟨by omega, by omega, by omega, hq' (by omega) (by omega) (by omega)⟩))
        clear hq
        rcases hc with h | ⟨h, h'⟩ | ⟨h, h', h''⟩ | ⟨h, h', h'', h4⟩
        · have hb : (x.f0 == 0) = true := by simpa using h
          clear h
          go_wp2
          go_roundw
          case rel => exact ⟨i + 1, _, by omega, by go_num, rfl, HF, HBA⟩
          case measure => simp [intOf]; omega
        · have hb : (x.f0 == 0) = false := beq_eq_false_iff_ne.2 (by omega)
          go_wp2
          go_roundw
          case rel => exact ⟨i + 1, _, by omega, by go_num, rfl, HF, HBA⟩
          case measure => simp [intOf]; omega
        · have hb : (x.f0 == 0) = false := beq_eq_false_iff_ne.2 (by omega)
          go_wp2
          go_roundw
          case rel => exact ⟨i + 1, _, by omega, by go_num, rfl, HF, HBA⟩
          case measure => simp [intOf]; omega
        · have hb : (x.f0 == 0) = false := beq_eq_false_iff_ne.2 (by omega)
          rw [h4] at h2 HBA
          go_wp2
          go_roundw
          case rel => exact ⟨i + 1, _, by omega, by go_num, rfl, HF, HBA⟩
          case measure => simp [intOf]; omega
      · have hc : 0 < x.f0 ∧ 1 ≤ x.f1 ∧ x.f1 ≤ 28 ∧ x.f2 = true := by
          have hq' := hq
          simp [qVoice, cnt] at hq'
          exact ⟨hq'.1.1, hq'.1.2.1, hq'.1.2.2, hq'.2⟩
        have HQ := Aside0.mk hq
        clear hq
        obtain ⟨h, h', h'', h4⟩ := hc
        have hb : (x.f0 == 0) = false := beq_eq_false_iff_ne.2 (by omega)
        rw [h4] at h2 HBA
        rcases HA.out with ⟨rfl, hn⟩ | ⟨j, rfl, hj, hs⟩
        · have HF := Aside0.mk (HA.out.some_ HLT.out (by rw [hn, ← HXX.out]; simp [fstep, HQ.out]))
          clear hn
          go_wp2_with fail
          go_quiet (fail)
          go_wp2
          go_roundw
          case rel => exact ⟨i + 1, _, by omega, by go_num, rfl, HF, ⟨pw_below_drewN HBA.out _⟩⟩
          case measure => simp [intOf]; omega
        · have hji : j < i := by simp at hj; omega
          obtain ⟨ae, ea, g0, _, _, _⟩ := at_T74 HR.out (j : Int) (by omega) (by rw [← HN.out]; omega)
          obtain rfl := Option.some.inj ea
          rw [Int.toNat_natCast] at g0
          replace g0 := cell_below g0 HB.out
          have gl := World.block_lt_of_cell? _ _ g0
          have hrd : rd_T74 (xs.take i) (j : Int) = rd_T74 xs (j : Int) := by
            simp [rd_T74, List.getD_eq_getElem?_getD, List.getElem?_take, hji]
          rw [hrd] at hs
          obtain ⟨y, hy⟩ : ∃ y, y = rd_T74 xs (j : Int) := ⟨_, rfl⟩
          rw [← hy] at g0 hs
          have HS := Aside0.mk hs
          clear hs hy hrd ea
          have hj0 : ¬ ((j : Int) < 0) := by omega
          have hj1 : (j : Int) < (n : Int) := by omega
          by_cases hxy : x.f0 < y.f0
          · have HF := Aside0.mk (HA.out.some_ HLT.out (by rw [HS.out, ← HXX.out]; simp [fstep, HQ.out, hxy]))
            go_wp2_with fail
            go_quiet (fail)
            go_wp2
            go_roundw
            case rel => exact ⟨i + 1, _, by omega, by go_num, rfl, HF, ⟨pw_below_drewN HBA.out _⟩⟩
            case measure => simp [intOf]; omega
          · have HF := Aside0.mk (HA.out.keep HLT.out (by rw [HS.out, ← HXX.out]; simp [fstep, HQ.out, hxy]))
            have hd : decide (x.f0 < y.f0) = false := decide_eq_false hxy
            go_wp2_with fail
            go_quiet (fail)
            go_wp2
            go_roundw
            case rel => exact ⟨i + 1, _, by omega, by go_num, rfl, HF, ⟨pw_below_drewN HBA.out _⟩⟩
            case measure => simp [intOf]; omega
    · obtain rfl : i = n := by omega
      go_wp2
      go_ret
      have := HA.out
      rw [HN.out, List.take_length] at this
      exact ⟨⟨_, rfl, this⟩, HB.out⟩
set_option maxHeartbeats 4000000 in
set_option maxRecDepth 100000 in
theorem first_old (w : World) (A : Option Addr) (c : Nat) (xs : List S74) (hr : Kd.C k74 w A xs.length xs) (hm : xs.length ≤ 9223372036854775806) (hw : ∀ x ∈ xs, 0 ≤ x.f0) :
    Calls Try.prog 71 #[.slice A xs.length c, .int .i64 0, .int .i64 2] w fun e w' => (∃ i : Int, e = .returned (.int .i64 i) ∧ FirstAt qOld xs i) ∧ Below w.heap.size w w' := by
  have HR := Aside0.mk hr
  obtain ⟨n, hn⟩ : ∃ n, n = xs.length := ⟨_, rfl⟩
  have HN := Aside0.mk hn
  rw [← hn] at hm ⊢
  have HWX := Aside0.mk hw
  clear hr hn hw
  go_enter Try.func71, Try.ntmps71
  go_wp2_with fail
  go_loopw [7, 8] (fun v7 v8 wr => ∃ (i : Nat) (at_ : Int), i ≤ n ∧ v8 = .int .i64 i ∧ v7 = .int .i64 at_ ∧ Aside0 (FirstAt qOld (xs.take i) at_) ∧ Aside0 (Below w.heap.size w wr)) (fun _ v8 _ => n - (intOf v8).toNat)
  case atStart => exact ⟨0, -1, by omega, rfl, rfl, ⟨.inl ⟨rfl, rfl⟩⟩, ⟨Below.refl _ _⟩⟩
  case round =>
    obtain ⟨i, at_, hi, rfl, rfl, HA, HB⟩ := hrel
    by_cases hlt : i < n
    · obtain ⟨ad, rfl, h0, h1, h2, h3⟩ := at_T74 HR.out (i : Int) (by omega) (by rw [← HN.out]; omega)
      rw [Int.toNat_natCast] at h0 h1 h2 h3
      obtain ⟨x, hx⟩ : ∃ x, x = rd_T74 xs (i : Int) := ⟨_, rfl⟩
      have HXX := Aside0.mk hx
      have HLT := Aside0.mk (show i < xs.length by rw [← HN.out]; exact hlt)
      rw [← hx] at h0 h1 h2 h3
      have hx0 : 0 ≤ x.f0 := by
        rw [hx]
        refine HWX.out _ ?_
        unfold rd_T74
        rw [List.getD_eq_getElem?_getD, Int.toNat_natCast, List.getElem?_eq_getElem HLT.out]
        exact List.getElem_mem HLT.out
      clear hx
      replace h0 := cell_below h0 HB.out
      replace h1 := cell_below h1 HB.out
      replace h2 := cell_below h2 HB.out
      replace h3 := cell_below h3 HB.out
      have HBA := Aside0.mk (HB.out.alloc HB.out.size (.cells #[Value.int .u64 x.f0, Value.int .i64 x.f1, Value.bool x.f2, Value.bool x.f3] 74))
      cases hq : (qOld) x
      · have HF := Aside0.mk (HA.out.skip HLT.out (by rw [← HXX.out]; exact hq))
        have hc : x.f0 = 0 ∨ (0 < x.f0 ∧ x.f1 < 1) ∨ (0 < x.f0 ∧ 1 ≤ x.f1 ∧ 28 < x.f1) ∨ (0 < x.f0 ∧ 1 ≤ x.f1 ∧ x.f1 ≤ 28 ∧ x.f3 = false) := by
          have hq' := hq
          simp [qOld, cnt] at hq'
          by_cases e0 : x.f0 = 0; exact .inl e0; by_cases e1 : x.f1 < 1; exact .inr (.inl ⟨by omega, e1⟩); by_cases e2 : 28 < x.f1; exact .inr (.inr (.inl ⟨by omega, by omega, e2⟩)); exact .inr (.inr (.inr ⟨by omega, by omega, by omega, hq' (by omega) (by omega) (by omega)⟩))
        clear hq
        rcases hc with h | ⟨h, h'⟩ | ⟨h, h', h''⟩ | ⟨h, h', h'', h4⟩
        · have hb : (x.f0 == 0) = true := by simpa using h
          clear h
          go_wp2
          go_roundw
          case rel => exact ⟨i + 1, _, by omega, by go_num, rfl, HF, HBA⟩
          case measure => simp [intOf]; omega
        · have hb : (x.f0 == 0) = false := beq_eq_false_iff_ne.2 (by omega)
          go_wp2
          go_roundw
          case rel => exact ⟨i + 1, _, by omega, by go_num, rfl, HF, HBA⟩
          case measure => simp [intOf]; omega
        · have hb : (x.f0 == 0) = false := beq_eq_false_iff_ne.2 (by omega)
          go_wp2
          go_roundw
          case rel => exact ⟨i + 1, _, by omega, by go_num, rfl, HF, HBA⟩
          case measure => simp [intOf]; omega
        · have hb : (x.f0 == 0) = false := beq_eq_false_iff_ne.2 (by omega)
          rw [h4] at h3 HBA
          go_wp2
          go_roundw
          case rel => exact ⟨i + 1, _, by omega, by go_num, rfl, HF, HBA⟩
          case measure => simp [intOf]; omega
      · have hc : 0 < x.f0 ∧ 1 ≤ x.f1 ∧ x.f1 ≤ 28 ∧ x.f3 = true := by
          have hq' := hq
          simp [qOld, cnt] at hq'
          exact ⟨hq'.1.1, hq'.1.2.1, hq'.1.2.2, hq'.2⟩
        have HQ := Aside0.mk hq
        clear hq
        obtain ⟨h, h', h'', h4⟩ := hc
        have hb : (x.f0 == 0) = false := beq_eq_false_iff_ne.2 (by omega)
        rw [h4] at h3 HBA
        rcases HA.out with ⟨rfl, hn⟩ | ⟨j, rfl, hj, hs⟩
        · have HF := Aside0.mk (HA.out.some_ HLT.out (by rw [hn, ← HXX.out]; simp [fstep, HQ.out]))
          clear hn
          go_wp2_with fail
          go_quiet (fail)
          go_wp2
          go_roundw
          case rel => exact ⟨i + 1, _, by omega, by go_num, rfl, HF, ⟨pw_below_drewN HBA.out _⟩⟩
          case measure => simp [intOf]; omega
        · have hji : j < i := by simp at hj; omega
          obtain ⟨ae, ea, g0, _, _, _⟩ := at_T74 HR.out (j : Int) (by omega) (by rw [← HN.out]; omega)
          obtain rfl := Option.some.inj ea
          rw [Int.toNat_natCast] at g0
          replace g0 := cell_below g0 HB.out
          have gl := World.block_lt_of_cell? _ _ g0
          have hrd : rd_T74 (xs.take i) (j : Int) = rd_T74 xs (j : Int) := by
            simp [rd_T74, List.getD_eq_getElem?_getD, List.getElem?_take, hji]
          rw [hrd] at hs
          obtain ⟨y, hy⟩ : ∃ y, y = rd_T74 xs (j : Int) := ⟨_, rfl⟩
          rw [← hy] at g0 hs
          have HS := Aside0.mk hs
          clear hs hy hrd ea
          have hj0 : ¬ ((j : Int) < 0) := by omega
          have hj1 : (j : Int) < (n : Int) := by omega
          by_cases hxy : x.f0 < y.f0
          · have HF := Aside0.mk (HA.out.some_ HLT.out (by rw [HS.out, ← HXX.out]; simp [fstep, HQ.out, hxy]))
            go_wp2_with fail
            go_quiet (fail)
            go_wp2
            go_roundw
            case rel => exact ⟨i + 1, _, by omega, by go_num, rfl, HF, ⟨pw_below_drewN HBA.out _⟩⟩
            case measure => simp [intOf]; omega
          · have HF := Aside0.mk (HA.out.keep HLT.out (by rw [HS.out, ← HXX.out]; simp [fstep, HQ.out, hxy]))
            have hd : decide (x.f0 < y.f0) = false := decide_eq_false hxy
            go_wp2_with fail
            go_quiet (fail)
            go_wp2
            go_roundw
            case rel => exact ⟨i + 1, _, by omega, by go_num, rfl, HF, ⟨pw_below_drewN HBA.out _⟩⟩
            case measure => simp [intOf]; omega
    · obtain rfl : i = n := by omega
      go_wp2
      go_ret
      have := HA.out
      rw [HN.out, List.take_length] at this
      exact ⟨⟨_, rfl, this⟩, HB.out⟩
set_option maxHeartbeats 4000000 in
set_option maxRecDepth 100000 in
theorem first_mode (w : World) (A : Option Addr) (c : Nat) (xs : List S74) (hr : Kd.C k74 w A xs.length xs) (hm : xs.length ≤ 9223372036854775806) (hw : ∀ x ∈ xs, 0 ≤ x.f0) (m : Int) (h1m : 1 ≤ m) :
    Calls Try.prog 71 #[.slice A xs.length c, .int .i64 m, .int .i64 0] w fun e w' => (∃ i : Int, e = .returned (.int .i64 i) ∧ FirstAt (qMode m) xs i) ∧ Below w.heap.size w w' := by
  have HR := Aside0.mk hr
  obtain ⟨n, hn⟩ : ∃ n, n = xs.length := ⟨_, rfl⟩
  have HN := Aside0.mk hn
  rw [← hn] at hm ⊢
  have HWX := Aside0.mk hw
  clear hr hn hw
  go_enter Try.func71, Try.ntmps71
  go_wp2_with fail
  go_loopw [7, 8] (fun v7 v8 wr => ∃ (i : Nat) (at_ : Int), i ≤ n ∧ v8 = .int .i64 i ∧ v7 = .int .i64 at_ ∧ Aside0 (FirstAt (qMode m) (xs.take i) at_) ∧ Aside0 (Below w.heap.size w wr)) (fun _ v8 _ => n - (intOf v8).toNat)
  case atStart => exact ⟨0, -1, by omega, rfl, rfl, ⟨.inl ⟨rfl, rfl⟩⟩, ⟨Below.refl _ _⟩⟩
  case round =>
    obtain ⟨i, at_, hi, rfl, rfl, HA, HB⟩ := hrel
    by_cases hlt : i < n
    · obtain ⟨ad, rfl, h0, h1, h2, h3⟩ := at_T74 HR.out (i : Int) (by omega) (by rw [← HN.out]; omega)
      rw [Int.toNat_natCast] at h0 h1 h2 h3
      obtain ⟨x, hx⟩ : ∃ x, x = rd_T74 xs (i : Int) := ⟨_, rfl⟩
      have HXX := Aside0.mk hx
      have HLT := Aside0.mk (show i < xs.length by rw [← HN.out]; exact hlt)
      rw [← hx] at h0 h1 h2 h3
      have hx0 : 0 ≤ x.f0 := by
        rw [hx]
        refine HWX.out _ ?_
        unfold rd_T74
        rw [List.getD_eq_getElem?_getD, Int.toNat_natCast, List.getElem?_eq_getElem HLT.out]
        exact List.getElem_mem HLT.out
      clear hx
      replace h0 := cell_below h0 HB.out
      replace h1 := cell_below h1 HB.out
      replace h2 := cell_below h2 HB.out
      replace h3 := cell_below h3 HB.out
      have HBA := Aside0.mk (HB.out.alloc HB.out.size (.cells #[Value.int .u64 x.f0, Value.int .i64 x.f1, Value.bool x.f2, Value.bool x.f3] 74))
      cases hq : ((qMode m)) x
      · have HF := Aside0.mk (HA.out.skip HLT.out (by rw [← HXX.out]; exact hq))
        have hc : x.f0 = 0 ∨ (0 < x.f0 ∧ x.f1 < 1) ∨ (0 < x.f0 ∧ 1 ≤ x.f1 ∧ 28 < x.f1) ∨ (0 < x.f0 ∧ 1 ≤ x.f1 ∧ x.f1 ≤ 28 ∧ x.f1 ≠ m) := by
          have hq' := hq
          simp [qMode, cnt] at hq'
          by_cases e0 : x.f0 = 0; exact .inl e0; by_cases e1 : x.f1 < 1; exact .inr (.inl ⟨by omega, e1⟩); by_cases e2 : 28 < x.f1; exact .inr (.inr (.inl ⟨by omega, by omega, e2⟩)); exact .inr (.inr (.inr ⟨by omega, by omega, by omega, hq' (by omega) (by omega) (by omega)⟩))
        clear hq
        rcases hc with h | ⟨h, h'⟩ | ⟨h, h', h''⟩ | ⟨h, h', h'', h4⟩
        · have hb : (x.f0 == 0) = true := by simpa using h
          clear h
          go_wp2
          go_roundw
          case rel => exact ⟨i + 1, _, by omega, by go_num, rfl, HF, HBA⟩
          case measure => simp [intOf]; omega
        · have hb : (x.f0 == 0) = false := beq_eq_false_iff_ne.2 (by omega)
          go_wp2
          go_roundw
          case rel => exact ⟨i + 1, _, by omega, by go_num, rfl, HF, HBA⟩
          case measure => simp [intOf]; omega
        · have hb : (x.f0 == 0) = false := beq_eq_false_iff_ne.2 (by omega)
          go_wp2
          go_roundw
          case rel => exact ⟨i + 1, _, by omega, by go_num, rfl, HF, HBA⟩
          case measure => simp [intOf]; omega
        · have hb : (x.f0 == 0) = false := beq_eq_false_iff_ne.2 (by omega)
          have hbm : (x.f1 != m) = true := by simpa using h4
          clear h4
          go_wp2
          go_roundw
          case rel => exact ⟨i + 1, _, by omega, by go_num, rfl, HF, HBA⟩
          case measure => simp [intOf]; omega
      · have hc : 0 < x.f0 ∧ 1 ≤ x.f1 ∧ x.f1 ≤ 28 ∧ x.f1 = m := by
          have hq' := hq
          simp [qMode, cnt] at hq'
          exact ⟨hq'.1.1, hq'.1.2.1, hq'.1.2.2, hq'.2⟩
        have HQ := Aside0.mk hq
        clear hq
        obtain ⟨h, h', h'', h4⟩ := hc
        have hb : (x.f0 == 0) = false := beq_eq_false_iff_ne.2 (by omega)
        have hbm : (x.f1 != m) = false := by simpa using h4
        clear h4
        rcases HA.out with ⟨rfl, hn⟩ | ⟨j, rfl, hj, hs⟩
        · have HF := Aside0.mk (HA.out.some_ HLT.out (by rw [hn, ← HXX.out]; simp [fstep, HQ.out]))
          clear hn
          go_wp2_with fail
          go_quiet (fail)
          go_wp2
          go_roundw
          case rel => exact ⟨i + 1, _, by omega, by go_num, rfl, HF, ⟨pw_below_drewN HBA.out _⟩⟩
          case measure => simp [intOf]; omega
        · have hji : j < i := by simp at hj; omega
          obtain ⟨ae, ea, g0, _, _, _⟩ := at_T74 HR.out (j : Int) (by omega) (by rw [← HN.out]; omega)
          obtain rfl := Option.some.inj ea
          rw [Int.toNat_natCast] at g0
          replace g0 := cell_below g0 HB.out
          have gl := World.block_lt_of_cell? _ _ g0
          have hrd : rd_T74 (xs.take i) (j : Int) = rd_T74 xs (j : Int) := by
            simp [rd_T74, List.getD_eq_getElem?_getD, List.getElem?_take, hji]
          rw [hrd] at hs
          obtain ⟨y, hy⟩ : ∃ y, y = rd_T74 xs (j : Int) := ⟨_, rfl⟩
          rw [← hy] at g0 hs
          have HS := Aside0.mk hs
          clear hs hy hrd ea
          have hj0 : ¬ ((j : Int) < 0) := by omega
          have hj1 : (j : Int) < (n : Int) := by omega
          by_cases hxy : x.f0 < y.f0
          · have HF := Aside0.mk (HA.out.some_ HLT.out (by rw [HS.out, ← HXX.out]; simp [fstep, HQ.out, hxy]))
            go_wp2_with fail
            go_quiet (fail)
            go_wp2
            go_roundw
            case rel => exact ⟨i + 1, _, by omega, by go_num, rfl, HF, ⟨pw_below_drewN HBA.out _⟩⟩
            case measure => simp [intOf]; omega
          · have HF := Aside0.mk (HA.out.keep HLT.out (by rw [HS.out, ← HXX.out]; simp [fstep, HQ.out, hxy]))
            have hd : decide (x.f0 < y.f0) = false := decide_eq_false hxy
            go_wp2_with fail
            go_quiet (fail)
            go_wp2
            go_roundw
            case rel => exact ⟨i + 1, _, by omega, by go_num, rfl, HF, ⟨pw_below_drewN HBA.out _⟩⟩
            case measure => simp [intOf]; omega
    · obtain rfl : i = n := by omega
      go_wp2
      go_ret
      have := HA.out
      rw [HN.out, List.take_length] at this
      exact ⟨⟨_, rfl, this⟩, HB.out⟩
end Go.Proofs.Ytcmcgjjhbjlkpaa.Pk
