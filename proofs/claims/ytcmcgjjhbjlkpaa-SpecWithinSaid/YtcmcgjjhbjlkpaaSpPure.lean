/- The plain laws of spec: windows, order. -/
import Derived.Test.YtcmcgjjhbjlkpaaSpx6
import Derived.Test.YtcmcgjjhbjlkpaaSpx5
set_option linter.unusedVariables false
set_option linter.unusedSimpArgs false
namespace Go.Proofs.Ytcmcgjjhbjlkpaa.Sp
open Go.RowKit Go.Proofs.YtcmcgjjhbjlkpaaW.PrintWords Go.Proofs.YtcmcgjjhbjlkpaaW.PrintLast Go.Proofs.YtcmcgjjhbjlkpaaW.PrintMore
/-! ### The plain law of windows -/
def sm (x : Int) : Int := mn (mx x 0) 1073741824
theorem sm_range (x : Int) : 0 ≤ sm x ∧ sm x ≤ 1073741824 := by unfold sm mn mx; split <;> split <;> omega
theorem w64 {x : Int} (h : -9223372036854775808 ≤ x) (h' : x ≤ 9223372036854775807) : wrap64 x = x := by unfold wrap64; omega
theorem mx_eq (a b : Int) : mx a b = max a b := by unfold mx; split <;> omega
def wst (xs : List Int) (R : Int) : Nat → Int
  | 0 => 0
  | i + 1 => max (wst xs R i) 0 + sm (xs.getD i 0) - R
theorem wst_range (xs : List Int) {R : Int} (h0 : 0 ≤ R) (h1 : R ≤ 1073741824) : ∀ i : Nat, -1073741824 ≤ wst xs R i ∧ wst xs R i ≤ i * 1073741824
  | 0 => by simp [wst]
  | i + 1 => by
    have ih := wst_range xs h0 h1 i
    have := sm_range (xs.getD i 0)
    simp only [wst]
    push_cast
    omega
/-- The first place at which the worst window is above D. -/
def over (xs : List Int) (D R : Int) : Nat → Nat → Int
  | 0, _ => -1
  | d + 1, i => if wst xs R (i + 1) > D then (i : Int) else over xs D R d (i + 1)
theorem rd_nat (xs : List Int) (i : Nat) : rd xs (i : Int) = xs.getD i 0 := by simp [rd]
theorem windows_spec (xs : List Int) (hl : xs.length ≤ 200) (a1 a2 : Int) : Ev (fun k => spec_Windows.f k xs a1 a2) (over xs (sm a1) (sm a2) xs.length 0) := by
  have hR := sm_range a2
  have hD := sm_range a1
  have key : ∀ (d i : Nat), i + d = xs.length → Ev (fun k => spec_Windows.l0 k (sm a1) (sm a2) (wst xs (sm a2) i) xs (xs.length : Int) (i : Int)) (over xs (sm a1) (sm a2) d i) := by
    intro d
    induction d with
    | zero =>
      intro i hi
      refine Ev.step (f := fun _ => some (-1)) (fun k => ?_) (Ev.now _)
      simp only [spec_Windows.l0]
      rw [if_neg (by omega)]
    | succ d ih =>
      intro i hi
      have hw := wst_range xs hR.1 hR.2 i
      have hs := sm_range (xs.getD i 0)
      have e1 : wrap64 ((wrap64 ((mx (wst xs (sm a2) i) 0) + sm (xs.getD i 0))) - sm a2) = wst xs (sm a2) (i + 1) := by
        simp only [wst]
        rw [mx_eq, w64 (x := max (wst xs (sm a2) i) 0 + sm (xs.getD i 0)) (by omega) (by omega), w64 (by omega) (by omega)]
      have e2 : wrap64 ((i : Int) + 1) = ((i + 1 : Nat) : Int) := by rw [w64 (by omega) (by omega)]; push_cast; rfl
      have step : ∀ k, spec_Windows.l0 (k + 1) (sm a1) (sm a2) (wst xs (sm a2) i) xs (xs.length : Int) (i : Int) =
          if wst xs (sm a2) (i + 1) > sm a1 then some (i : Int) else spec_Windows.l0 k (sm a1) (sm a2) (wst xs (sm a2) (i + 1)) xs (xs.length : Int) ((i + 1 : Nat) : Int) := by
        intro k
        simp only [spec_Windows.l0]
        rw [if_pos (by omega), if_pos (by omega), if_pos (by omega), rd_nat]
        rw [show spec_small.f (xs.getD i 0) = some (sm (xs.getD i 0)) from rfl]
        simp only [Option.bind_some]
        rw [e1, e2]
      by_cases hc : wst xs (sm a2) (i + 1) > sm a1
      · simp only [over]
        rw [if_pos hc]
        exact Ev.step (fun k => by rw [step, if_pos hc]) (Ev.now _)
      · simp only [over]
        rw [if_neg hc]
        exact Ev.step (fun k => by rw [step, if_neg hc]) (ih (i + 1) (by omega))
  have := key xs.length 0 (by omega)
  refine Ev.congr (fun k => ?_) this
  unfold spec_Windows.f
  rw [show spec_small.f a1 = some (sm a1) from rfl, show spec_small.f a2 = some (sm a2) from rfl]
  simp only [Option.bind_some]
  rfl
/-- The reference's inner search, downwards. -/
def bad (xs : List Int) (D R : Int) (i : Nat) : Nat → Int → Bool
  | 0, _ => false
  | k + 1, s => if s + sm (xs.getD k 0) > D + ((i : Int) - k + 1) * R then true else bad xs D R i k (s + sm (xs.getD k 0))
theorem bad_iff (xs : List Int) (D R : Int) (i : Nat) : ∀ (k : Nat) (s : Int), bad xs D R i k s = false ↔ (k = 0 ∨ wst xs R k ≤ D - (s - ((i : Int) - k + 1) * R))
  | 0, s => by simp [bad]
  | k + 1, s => by
    have ih := bad_iff xs D R i k (s + sm (xs.getD k 0))
    simp only [bad]
    have e : ((i : Int) - k + 1) * R = ((i : Int) - (k + 1 : Nat) + 1) * R + R := by
      have : ((i : Int) - k + 1) = ((i : Int) - (k + 1 : Nat) + 1) + 1 := by push_cast; omega
      rw [this, Int.add_mul, Int.one_mul]
    generalize ((i : Int) - (k + 1 : Nat) + 1) * R = T at *
    rw [e] at ih ⊢
    simp only [wst]
    generalize sm (xs.getD k 0) = y at *
    by_cases hc : s + y > D + (T + R)
    · rw [if_pos hc]
      simp
      omega
    · rw [if_neg hc, ih]
      cases k with
      | zero => simp only [wst, true_or, true_iff]; omega
      | succ k => simp only [Nat.add_eq_zero_iff, Nat.one_ne_zero, and_false, false_or]; omega
theorem windows_ref (xs : List Int) (hl : xs.length ≤ 200) (a1 a2 : Int) : Ev (fun k => aerialref30_Windows.f k xs a1 a2) (over xs (sm a1) (sm a2) xs.length 0) := by
  have hR := sm_range a2
  have hD := sm_range a1
  have key : ∀ (d i : Nat), i + d = xs.length → Ev (fun k => aerialref30_Windows.l0 k xs a1 a2 (i : Int)) (over xs (sm a1) (sm a2) d i) := by
    intro d
    induction d with
    | zero =>
      intro i hi
      refine Ev.step (f := fun _ => some (-1)) (fun k => ?_) (Ev.now _)
      simp only [aerialref30_Windows.l0]
      rw [if_neg (by omega)]
    | succ d ih =>
      intro i hi
      have hin : ∀ (k : Nat) (s : Int), k ≤ i + 1 → 0 ≤ s → s ≤ ((i + 1 : Nat) - k : Int) * 1073741824 →
          Ev (fun n => aerialref30_Windows.l1 n xs a1 a2 (i : Int) s ((k : Int) - 1)) (if bad xs (sm a1) (sm a2) i k s then (i : Int) else over xs (sm a1) (sm a2) d (i + 1)) := by
        intro k
        induction k with
        | zero =>
          intro s _ _ _
          have e2 : wrap64 ((i : Int) + 1) = ((i + 1 : Nat) : Int) := by rw [w64 (by omega) (by omega)]; push_cast; rfl
          refine Ev.step (fun n => ?_) (ih (i + 1) (by omega))
          simp only [aerialref30_Windows.l1]
          rw [if_neg (by omega), e2]
        | succ k ihk =>
          intro s hk h0 h1
          have hs := sm_range (xs.getD k 0)
          have hik : ((i : Int) - k + 1) * sm a2 ≤ 201 * 1073741824 := by
            have := Int.mul_le_mul (show ((i : Int) - k + 1) ≤ 201 by omega) hR.2 hR.1 (by omega)
            exact this
          have hik0 : 0 ≤ ((i : Int) - k + 1) * sm a2 := Int.mul_nonneg (by omega) hR.1
          have h1' : s ≤ ((i : Int) - k) * 1073741824 := by
            have : ((i + 1 : Nat) - (k + 1 : Nat) : Int) = (i : Int) - k := by push_cast; omega
            rw [this] at h1; exact h1
          have h1'' : s ≤ 200 * 1073741824 := Int.le_trans h1' (Int.mul_le_mul_of_nonneg_right (by omega) (by omega))
          have e0 : ((k + 1 : Nat) : Int) - 1 = (k : Int) := by push_cast; omega
          have step : ∀ n, aerialref30_Windows.l1 (n + 1) xs a1 a2 (i : Int) s (((k + 1 : Nat) : Int) - 1) =
              if s + sm (xs.getD k 0) > sm a1 + ((i : Int) - k + 1) * sm a2 then some (i : Int) else aerialref30_Windows.l1 n xs a1 a2 (i : Int) (s + sm (xs.getD k 0)) ((k : Int) - 1) := by
            intro n
            simp only [aerialref30_Windows.l1]
            rw [e0, if_pos (by omega), if_pos (by omega), if_pos (by omega), rd_nat]
            rw [show aerialref30_small.f (xs.getD k 0) = some (sm (xs.getD k 0)) from rfl, show aerialref30_small.f a1 = some (sm a1) from rfl, show aerialref30_small.f a2 = some (sm a2) from rfl]
            simp only [Option.bind_some]
            rw [w64 (x := s + sm (xs.getD k 0)) (by omega) (by omega), w64 (x := (i : Int) - k) (by omega) (by omega), w64 (x := (i : Int) - k + 1) (by omega) (by omega), w64 (x := ((i : Int) - k + 1) * sm a2) (by omega) (by omega), w64 (x := sm a1 + ((i : Int) - k + 1) * sm a2) (by omega) (by omega), w64 (x := (k : Int) - 1) (by omega) (by omega)]
          by_cases hc : s + sm (xs.getD k 0) > sm a1 + ((i : Int) - k + 1) * sm a2
          · have hb : bad xs (sm a1) (sm a2) i (k + 1) s = true := by simp only [bad]; rw [if_pos hc]
            rw [if_pos hb]
            exact Ev.step (fun n => by rw [step, if_pos hc]) (Ev.now _)
          · have hb : bad xs (sm a1) (sm a2) i (k + 1) s = bad xs (sm a1) (sm a2) i k (s + sm (xs.getD k 0)) := by simp only [bad]; rw [if_neg hc]
            simp only [hb]
            refine Ev.step (fun n => by rw [step, if_neg hc]) (ihk _ (by omega) (by omega) ?_)
            have : ((i + 1 : Nat) - k : Int) * 1073741824 = ((i : Int) - k) * 1073741824 + 1073741824 := by push_cast; omega
            rw [this]; omega
      have h := hin (i + 1) 0 (Nat.le_refl _) (by omega) (by simp)
      have hb := bad_iff xs (sm a1) (sm a2) i (i + 1) 0
      have e3 : ((i : Int) - (i + 1 : Nat) + 1) * sm a2 = 0 := by
        have : ((i : Int) - (i + 1 : Nat) + 1) = 0 := by push_cast; omega
        rw [this, Int.zero_mul]
      rw [e3] at hb
      have e4 : (if bad xs (sm a1) (sm a2) i (i + 1) 0 then (i : Int) else over xs (sm a1) (sm a2) d (i + 1)) = over xs (sm a1) (sm a2) (d + 1) i := by
        simp only [over]
        by_cases hc : wst xs (sm a2) (i + 1) > sm a1
        · have : bad xs (sm a1) (sm a2) i (i + 1) 0 = true := by
            rw [← Bool.not_eq_false, hb]; omega
          rw [if_pos hc, if_pos this]
        · have : bad xs (sm a1) (sm a2) i (i + 1) 0 = false := by rw [hb]; omega
          rw [if_neg hc, this]; simp
      rw [e4] at h
      refine Ev.step (fun n => ?_) h
      simp only [aerialref30_Windows.l0]
      rw [if_pos (by omega)]
      congr 1
      push_cast; omega
  exact key xs.length 0 (by omega)
theorem mn_eq (a b : Int) : mn a b = min a b := by unfold mn; split <;> omega
/-! ### The plain law of order -/
def ofL (ps : List S38) (k : Int × Int) : List S38 := ps.filter fun p => decide (keyOf p = k)
theorem grp_of (ps : List S38) (k : Int × Int) : grp ps k = (ofL ps k).map (·.f3) := rfl
theorem rd38 (ps : List S38) (i : Nat) (h : i < ps.length) : rd_T38 ps (i : Int) = ps[i] := by simp [rd_T38, List.getElem?_eq_getElem h]
theorem rd35 (ps : List S35) (i : Nat) (h : i < ps.length) : rd_T35 ps (i : Int) = ps[i] := by simp [rd_T35, List.getElem?_eq_getElem h]
theorem ofL_cons (p : S38) (ps : List S38) (k : Int × Int) : ofL (p :: ps) k = if keyOf p = k then p :: ofL ps k else ofL ps k := by
  by_cases h : keyOf p = k <;> simp [ofL, List.filter_cons, h]
theorem ofL_le (ps : List S38) (k : Int × Int) : (ofL ps k).length ≤ ps.length := List.length_filter_le _ _
theorem nat_succ {i n : Nat} (h : i < n) (hn : n ≤ 1000) : wrap64 ((i : Int) + 1) = ((i + 1 : Nat) : Int) := by rw [w64 (by omega) (by omega)]; push_cast; rfl
theorem of_ref (ps : List S38) (hl : ps.length ≤ 1000) (t c : Int) : Ev (fun k => aerialref30_of.f k ps t c) (ofL ps (t, c)) := by
  have key : ∀ (d i : Nat) (acc : List S38), i + d = ps.length → acc.length ≤ i → Ev (fun k => aerialref30_of.l0 k ps t c acc (i : Int)) (acc ++ ofL (ps.drop i) (t, c)) := by
    intro d
    induction d with
    | zero =>
      intro i acc hi _
      refine Ev.step (f := fun _ => some acc) (fun k => ?_) ?_
      · simp only [aerialref30_of.l0]
        rw [if_neg (by omega)]
      · rw [List.drop_of_length_le (by omega)]
        simpa [ofL] using Ev.now acc
    | succ d ih =>
      intro i acc hi ha
      have hlt : i < ps.length := by omega
      have e1 := rd38 ps i hlt
      have e2 := nat_succ hlt hl
      rw [List.drop_eq_getElem_cons hlt, ofL_cons]
      by_cases hk : keyOf ps[i] = (t, c)
      · rw [if_pos hk]
        have h1 : ps[i].f1 = t := congrArg Prod.fst hk
        have h2 : ps[i].f2 = c := congrArg Prod.snd hk
        have := ih (i + 1) (acc ++ [ps[i]]) (by omega) (by simp; omega)
        rw [List.append_assoc] at this
        refine Ev.step (fun k => ?_) this
        simp only [aerialref30_of.l0]
        rw [if_pos (by omega), if_pos (by omega), e1, if_pos h1, if_pos h2, if_pos (by omega), e2]
      · rw [if_neg hk]
        refine Ev.step (fun k => ?_) (ih (i + 1) acc (by omega) (by omega))
        simp only [aerialref30_of.l0]
        rw [if_pos (by omega), if_pos (by omega), e1]
        by_cases h1 : ps[i].f1 = t
        · have h2 : ¬ ps[i].f2 = c := fun h2 => hk (by simp [keyOf, h1, h2])
          rw [if_pos h1, if_neg h2, e2]
        · rw [if_neg h1, e2]
  have := key ps.length 0 [] (by omega) (by simp)
  have h2 : Ev (fun k => aerialref30_of.l0 k ps t c [] 0) (ofL ps (t, c)) := by simpa using this
  exact h2
/-! #### beginnings -/
def cnt (l : List S35) (k : Int × Int) : Nat := (l.filter fun g => decide (gkey g = k)).length
theorem cnt_snoc (l : List S35) (g : S35) (k : Int × Int) : cnt (l ++ [g]) k = if gkey g = k then cnt l k + 1 else cnt l k := by
  by_cases h : gkey g = k <;> simp [cnt, List.filter_append, h]
theorem cnt_cons (l : List S35) (g : S35) (k : Int × Int) : cnt (g :: l) k = if gkey g = k then cnt l k + 1 else cnt l k := by
  by_cases h : gkey g = k <;> simp [cnt, List.filter_cons, h]
theorem cnt_le (l : List S35) (k : Int × Int) : cnt l k ≤ l.length := List.length_filter_le _ _
theorem take_snoc35 (xs : List S35) (i : Nat) (h : i < xs.length) : xs.take (i + 1) = xs.take i ++ [xs[i]] := List.take_succ_eq_append_getElem h
theorem pnext_drop (l : List ByteArray) (n : Nat) (s : ByteArray) : pnext (l.drop n) s = if h : n < l.length then (if (l[n]).toList = s.toList then some (l.drop (n + 1)) else none) else none := by
  by_cases h : n < l.length
  · rw [dif_pos h, List.drop_eq_getElem_cons h]
    rfl
  · rw [dif_neg h, List.drop_of_length_le (by omega)]
    rfl
theorem prefix_ref (xs : List S35) (ps : List S38) (hx : xs.length ≤ 1000) (hp : ps.length ≤ 1000) : Ev (fun k => aerialref30_Prefix.f k xs ps) (firstF pnext xs (grp ps) 0) := by
  have key : ∀ (d i : Nat) (left : Int × Int → List ByteArray), i + d = xs.length → (∀ k, left k = (grp ps k).drop (cnt (xs.take i) k)) → Ev (fun k => aerialref30_Prefix.l0 k xs ps (i : Int)) (firstF pnext (xs.drop i) left (i : Int)) := by
    intro d
    induction d with
    | zero =>
      intro i left hi _
      rw [List.drop_of_length_le (by omega)]
      refine Ev.step (f := fun _ => some (-1)) (fun k => ?_) (Ev.now _)
      simp only [aerialref30_Prefix.l0]
      rw [if_neg (by omega)]
    | succ d ih =>
      intro i left hi hleft
      have hlt : i < xs.length := by omega
      have ei := rd35 xs i hlt
      have hcnt := cnt_le (xs.take i) (gkey xs[i])
      rw [List.length_take] at hcnt
      -- behind the count
      have tail : Ev (fun k => (if 0 ≤ (i : Int) then (if (i : Int) < (xs.length : Int) then ((aerialref30_of.f k ps ((rd_T35 xs (i : Int)).f0) ((rd_T35 xs (i : Int)).f1)).bind fun t113 => (if ((cnt (xs.take i) (gkey xs[i]) : Nat) : Int) ≥ (t113.length : Int) then (some (i : Int)) else (if 0 ≤ ((cnt (xs.take i) (gkey xs[i]) : Nat) : Int) then (if ((cnt (xs.take i) (gkey xs[i]) : Nat) : Int) < (t113.length : Int) then (if ((rd_T38 t113 ((cnt (xs.take i) (gkey xs[i]) : Nat) : Int)).f3).toList = ((rd_T35 xs (i : Int)).f2).toList then (aerialref30_Prefix.l0 k xs ps (wrap64 ((i : Int) + 1))) else (some (i : Int))) else (none)) else (none)))) else (none)) else (none)))
          (firstF pnext (xs.drop i) left (i : Int)) := by
        have hof := of_ref ps hp xs[i].f0 xs[i].f1
        refine Ev.congr (fun k => by rw [if_pos (by omega), if_pos (by omega), ei]) (Ev.bind hof ?_)
        rw [nat_succ hlt hx, List.drop_eq_getElem_cons hlt]
        generalize hn : cnt (xs.take i) (gkey xs[i]) = n at *
        have hl : left (gkey xs[i]) = (grp ps (gkey xs[i])).drop n := by rw [hleft, hn]
        have hk : (xs[i].f0, xs[i].f1) = gkey xs[i] := rfl
        rw [hk]
        by_cases hlen : n < (ofL ps (gkey xs[i])).length
        · have hp1 := pnext_drop (grp ps (gkey xs[i])) n xs[i].f2
          have hlen' : n < (grp ps (gkey xs[i])).length := by rw [grp_of, List.length_map]; exact hlen
          rw [dif_pos hlen'] at hp1
          have hget : (grp ps (gkey xs[i]))[n] = ((ofL ps (gkey xs[i]))[n]).f3 := by simp [grp_of]
          rw [hget, ← hl] at hp1
          by_cases hs : (((ofL ps (gkey xs[i]))[n]).f3).toList = xs[i].f2.toList
          · rw [if_pos hs] at hp1
            rw [firstF_some hp1]
            refine Ev.congr (fun k => by rw [if_neg (by omega), if_pos (by omega), if_pos (by omega), rd38 _ _ hlen, if_pos hs]) (ih (i + 1) _ (by omega) ?_)
            intro k
            rw [take_snoc35 xs i hlt, cnt_snoc]
            by_cases e : k = gkey xs[i]
            · rw [if_pos e, e, if_pos rfl, hn]
            · rw [if_neg e, if_neg (fun e' => e e'.symm), hleft]
          · rw [if_neg hs] at hp1
            rw [firstF_none hp1]
            exact Ev.congr (fun k => by rw [if_neg (by omega), if_pos (by omega), if_pos (by omega), rd38 _ _ hlen, if_neg hs]) (Ev.now _)
        · have hp1 := pnext_drop (grp ps (gkey xs[i])) n xs[i].f2
          rw [dif_neg (by rw [grp_of, List.length_map]; exact hlen), ← hl] at hp1
          rw [firstF_none hp1]
          exact Ev.congr (fun k => by rw [if_pos (by omega)]) (Ev.now _)
      -- the count
      have hin : ∀ (e j : Nat), j + e = i → Ev (fun k => aerialref30_Prefix.l1 k xs ps (i : Int) ((cnt (xs.take j) (gkey xs[i]) : Nat) : Int) (j : Int)) (firstF pnext (xs.drop i) left (i : Int)) := by
        intro e
        induction e with
        | zero =>
          intro j hj
          obtain rfl : j = i := by omega
          refine Ev.step (fun k => ?_) tail
          simp only [aerialref30_Prefix.l1]
          rw [if_neg (by omega)]
        | succ e ihe =>
          intro j hj
          have hjl : j < xs.length := by omega
          have ej := rd35 xs j hjl
          have hn := cnt_le (xs.take j) (gkey xs[i])
          rw [List.length_take] at hn
          have hs := cnt_snoc (xs.take j) xs[j] (gkey xs[i])
          rw [← take_snoc35 xs j hjl] at hs
          refine Ev.step (fun k => ?_) (ihe (j + 1) (by omega))
          simp only [aerialref30_Prefix.l1]
          rw [if_pos (by omega), if_pos (by omega), if_pos (by omega), if_pos (by omega), if_pos (by omega), ei, ej, nat_succ hjl hx, hs]
          by_cases h1 : xs[j].f0 = xs[i].f0
          · by_cases h2 : xs[j].f1 = xs[i].f1
            · rw [if_pos h1, if_pos h2, if_pos (by simp [gkey, h1, h2]), w64 (by omega) (by omega)]
              push_cast; rfl
            · rw [if_pos h1, if_neg h2, if_neg (by simp [gkey, h1, h2])]
          · rw [if_neg h1, if_neg (by simp [gkey, h1])]
      refine Ev.step (fun k => ?_) (hin i 0 (by omega))
      simp only [aerialref30_Prefix.l0]
      rw [if_pos (by omega)]
      simp [cnt]
  have := key xs.length 0 (grp ps) (by omega) (fun k => by simp [cnt])
  have h2 : Ev (fun k => aerialref30_Prefix.l0 k xs ps 0) (firstF pnext xs (grp ps) 0) := by simpa using this
  exact h2

/-! #### within -/
def ofK (l : List S35) (k : Int × Int) : List ByteArray := (l.filter fun g => decide (gkey g = k)).map (·.f2)
theorem ofK_snoc (l : List S35) (g : S35) (k : Int × Int) : ofK (l ++ [g]) k = if gkey g = k then ofK l k ++ [g.f2] else ofK l k := by
  by_cases h : gkey g = k <;> simp [ofK, List.filter_append, h]
theorem ofK_cons (l : List S35) (g : S35) (k : Int × Int) : ofK (g :: l) k = if gkey g = k then g.f2 :: ofK l k else ofK l k := by
  by_cases h : gkey g = k <;> simp [ofK, List.filter_cons, h]
def scanW (l : List ByteArray) : List ByteArray → Option (List ByteArray)
  | [] => some l
  | s :: ss => match wnext l s with
    | none => none
    | some r => scanW r ss
theorem scanW_snoc (ss : List ByteArray) (s : ByteArray) : ∀ l : List ByteArray, scanW l (ss ++ [s]) = (scanW l ss).bind fun r => wnext r s := by
  induction ss with
  | nil => intro l; simp only [List.nil_append, scanW, Option.bind_some]; cases wnext l s <;> rfl
  | cons x ss ih =>
    intro l
    simp only [List.cons_append, scanW]
    cases wnext l x with
    | none => rfl
    | some r => exact ih r
/-- The reference's search from a place on. -/
theorem find_ref (l : List S38) (hl : l.length ≤ 1000) (s : ByteArray) : ∀ (d i : Nat), i + d = l.length →
    (wnext ((l.map (·.f3)).drop i) s = none ∧ Ev (fun k => aerialref30_find.f k l (i : Int) s) (-1)) ∨
    (∃ n : Nat, n < l.length ∧ wnext ((l.map (·.f3)).drop i) s = some ((l.map (·.f3)).drop (n + 1)) ∧ Ev (fun k => aerialref30_find.f k l (i : Int) s) (n : Int)) := by
  intro d
  induction d with
  | zero =>
    intro i hi
    refine .inl ⟨by rw [List.drop_of_length_le (by simp; omega)]; rfl, ?_⟩
    refine Ev.step (f := fun _ => some (-1)) (fun k => ?_) (Ev.now _)
    simp only [aerialref30_find.f, aerialref30_find.l0]
    rw [if_neg (by omega)]
  | succ d ih =>
    intro i hi
    have hlt : i < l.length := by omega
    have e1 := rd38 l i hlt
    have ed : (l.map (·.f3)).drop i = l[i].f3 :: (l.map (·.f3)).drop (i + 1) := by
      rw [List.drop_eq_getElem_cons (by simpa using hlt)]
      simp
    have step : ∀ k, aerialref30_find.f (k + 1) l (i : Int) s = if l[i].f3.toList = s.toList then some (i : Int) else aerialref30_find.f k l ((i + 1 : Nat) : Int) s := by
      intro k
      simp only [aerialref30_find.f, aerialref30_find.l0]
      rw [if_pos (by omega), if_pos (by omega), e1, nat_succ hlt hl]
    rw [ed]
    by_cases hs : l[i].f3.toList = s.toList
    · refine .inr ⟨i, hlt, by simp only [wnext, if_pos hs], ?_⟩
      exact Ev.step (fun k => by rw [step, if_pos hs]) (Ev.now _)
    · have e2 : wnext (l[i].f3 :: (l.map (·.f3)).drop (i + 1)) s = wnext ((l.map (·.f3)).drop (i + 1)) s := by simp only [wnext, if_neg hs]
      rw [e2]
      rcases ih (i + 1) (by omega) with ⟨h1, h2⟩ | ⟨n, h0, h1, h2⟩
      · exact .inl ⟨h1, Ev.step (fun k => by rw [step, if_neg hs]) h2⟩
      · exact .inr ⟨n, h0, h1, Ev.step (fun k => by rw [step, if_neg hs]) h2⟩
theorem within_ref (xs : List S35) (ps : List S38) (hx : xs.length ≤ 1000) (hp : ps.length ≤ 1000) : Ev (fun k => aerialref30_Within.f k xs ps) (firstF wnext xs (grp ps) 0) := by
  have key : ∀ (d i : Nat) (left : Int × Int → List ByteArray), i + d = xs.length → (∀ k, scanW (grp ps k) (ofK (xs.take i) k) = some (left k)) → Ev (fun k => aerialref30_Within.l0 k xs ps (i : Int)) (firstF wnext (xs.drop i) left (i : Int)) := by
    intro d
    induction d with
    | zero =>
      intro i left hi _
      rw [List.drop_of_length_le (by omega)]
      refine Ev.step (f := fun _ => some (-1)) (fun k => ?_) (Ev.now _)
      simp only [aerialref30_Within.l0]
      rw [if_neg (by omega)]
    | succ d ih =>
      intro i left hi hleft
      have hlt : i < xs.length := by omega
      have ei := rd35 xs i hlt
      have hol := ofL_le ps (gkey xs[i])
      -- what the scan up to i comes to
      have hscan : scanW (grp ps (gkey xs[i])) (ofK (xs.take (i + 1)) (gkey xs[i])) = wnext (left (gkey xs[i])) xs[i].f2 := by
        rw [take_snoc35 xs i hlt, ofK_snoc, if_pos rfl, scanW_snoc, hleft]
        rfl
      -- the inner loop
      have hin : ∀ (e j at_ : Nat), j + e = i + 1 → at_ ≤ (ofL ps (gkey xs[i])).length → scanW ((grp ps (gkey xs[i])).drop at_) (ofK ((xs.take (i + 1)).drop j) (gkey xs[i])) = wnext (left (gkey xs[i])) xs[i].f2 →
          Ev (fun k => aerialref30_Within.l1 k xs ps (i : Int) (ofL ps (gkey xs[i])) (at_ : Int) (j : Int)) (firstF wnext (xs.drop i) left (i : Int)) := by
        intro e
        induction e with
        | zero =>
          intro j at_ hj hat hs
          obtain rfl : j = i + 1 := by omega
          have hd : (xs.take (i + 1)).drop (i + 1) = [] := List.drop_of_length_le (by rw [List.length_take]; omega)
          rw [hd] at hs
          have hs' : wnext (left (gkey xs[i])) xs[i].f2 = some ((grp ps (gkey xs[i])).drop at_) := by rw [← hs]; rfl
          rw [List.drop_eq_getElem_cons hlt, firstF_some hs']
          refine Ev.step (fun k => ?_) (ih (i + 1) _ (by omega) ?_)
          · simp only [aerialref30_Within.l1]
            rw [if_neg (by omega), nat_succ hlt hx]
          · intro k
            rw [take_snoc35 xs i hlt, ofK_snoc]
            by_cases e : k = gkey xs[i]
            · rw [if_pos e, e, if_pos rfl, scanW_snoc, hleft]
              exact hs'
            · rw [if_neg e, if_neg (fun e' => e e'.symm), hleft]
        | succ e ihe =>
          intro j at_ hj hat hs
          have hjl : j < xs.length := by omega
          have ej := rd35 xs j hjl
          have edrop : (xs.take (i + 1)).drop j = xs[j] :: (xs.take (i + 1)).drop (j + 1) := by
            rw [List.drop_eq_getElem_cons (by rw [List.length_take]; omega)]
            simp
          rw [edrop, ofK_cons] at hs
          by_cases hk : gkey xs[j] = gkey xs[i]
          · rw [if_pos hk] at hs
            have h1 : xs[j].f0 = xs[i].f0 := congrArg Prod.fst hk
            have h2 : xs[j].f1 = xs[i].f1 := congrArg Prod.snd hk
            have hf := find_ref (ofL ps (gkey xs[i])) (by omega) xs[j].f2 ((ofL ps (gkey xs[i])).length - at_) at_ (by omega)
            rw [← grp_of] at hf
            rcases hf with ⟨f1, f2⟩ | ⟨n, f0, f1, f2⟩
            · have hs' : wnext (left (gkey xs[i])) xs[i].f2 = none := by rw [← hs]; simp only [scanW, f1]
              rw [List.drop_eq_getElem_cons hlt, firstF_none hs']
              refine Ev.step (f := fun k => aerialref30_Within.j2 k xs ps (i : Int) (ofL ps (gkey xs[i])) (at_ : Int) (j : Int) false) (fun k => ?_) ?_
              · simp only [aerialref30_Within.l1]
                rw [if_pos (by omega), if_pos (by omega), if_pos (by omega), if_pos (by omega), if_pos (by omega), ei, ej, if_pos h1, h2]
                simp
              · refine Ev.step (fun k => ?_) (Ev.bind f2 (f := fun k t129 => if t129 < 0 then (some (i : Int)) else (aerialref30_Within.l1 k xs ps (i : Int) (ofL ps (gkey xs[i])) (wrap64 (t129 + 1)) (wrap64 ((j : Int) + 1)))) (Ev.congr (fun k => by rw [if_pos (by omega)]) (Ev.now _)))
                simp only [aerialref30_Within.j2]
                rw [if_neg (by simp), if_pos (by omega), if_pos (by omega), ej]
            · have hs' : scanW ((grp ps (gkey xs[i])).drop (n + 1)) (ofK ((xs.take (i + 1)).drop (j + 1)) (gkey xs[i])) = wnext (left (gkey xs[i])) xs[i].f2 := by rw [← hs]; simp only [scanW, f1]
              refine Ev.step (f := fun k => aerialref30_Within.j2 k xs ps (i : Int) (ofL ps (gkey xs[i])) (at_ : Int) (j : Int) false) (fun k => ?_) ?_
              · simp only [aerialref30_Within.l1]
                rw [if_pos (by omega), if_pos (by omega), if_pos (by omega), if_pos (by omega), if_pos (by omega), ei, ej, if_pos h1, h2]
                simp
              · refine Ev.step (fun k => ?_) (Ev.bind f2 (f := fun k t129 => if t129 < 0 then (some (i : Int)) else (aerialref30_Within.l1 k xs ps (i : Int) (ofL ps (gkey xs[i])) (wrap64 (t129 + 1)) (wrap64 ((j : Int) + 1)))) (Ev.congr (fun k => by rw [if_neg (by omega), nat_succ f0 (by omega), nat_succ hjl hx]) (ihe (j + 1) (n + 1) (by omega) (by omega) hs')))
                simp only [aerialref30_Within.j2]
                rw [if_neg (by simp), if_pos (by omega), if_pos (by omega), ej]
          · rw [if_neg hk] at hs
            refine Ev.step (f := fun k => aerialref30_Within.j2 k xs ps (i : Int) (ofL ps (gkey xs[i])) (at_ : Int) (j : Int) true) (fun k => ?_) ?_
            · simp only [aerialref30_Within.l1]
              rw [if_pos (by omega), if_pos (by omega), if_pos (by omega), if_pos (by omega), if_pos (by omega), ei, ej]
              by_cases h1 : xs[j].f0 = xs[i].f0
              · have h2 : ¬ xs[j].f1 = xs[i].f1 := fun h2 => hk (by simp [gkey, h1, h2])
                rw [if_pos h1]
                have : (xs[j].f1 != xs[i].f1) = true := by simpa using h2
                rw [this]
              · rw [if_neg h1]
            · refine Ev.step (fun k => ?_) (ihe (j + 1) at_ (by omega) hat hs)
              simp only [aerialref30_Within.j2]
              rw [if_pos trivial, nat_succ hjl hx]
      have hof := of_ref ps hp xs[i].f0 xs[i].f1
      have h0 := hin (i + 1) 0 0 (by omega) (by omega) (by simpa using hscan)
      refine Ev.step (fun k => ?_) (Ev.bind hof (f := fun k t => aerialref30_Within.l1 k xs ps (i : Int) t 0 0) h0)
      simp only [aerialref30_Within.l0]
      rw [if_pos (by omega), if_pos (by omega), ei]
  have := key xs.length 0 (grp ps) (by omega) (fun k => by simp [ofK, scanW])
  have h2 : Ev (fun k => aerialref30_Within.l0 k xs ps 0) (firstF wnext xs (grp ps) 0) := by simpa using this
  exact h2
/-! #### the laws -/
theorem mn_take {α : Type} (l : List α) (z : Int) (n : Nat) (hz : z = n) : 0 ≤ mn (l.length : Int) z ∧ mn (l.length : Int) z ≤ l.length ∧ (mn (l.length : Int) z).toNat = min l.length n := by
  rw [mn_eq]; omega
theorem windows_law (l0 : List Int) (a1 a2 : Int) : ∃ k, aeriallaw30_SpecWindows.f k l0 a1 a2 = some true := by
  obtain ⟨h0, h1, h2⟩ := mn_take l0 200 200 rfl
  have hl : (l0.take (mn (l0.length : Int) 200).toNat).length ≤ 200 := by rw [List.length_take, h2]; omega
  have hs := windows_spec _ hl a1 a2
  have hr := windows_ref _ hl a1 a2
  have := Ev.bind hs (f := fun k t161 => (aerialref30_Windows.f k (l0.take (mn (l0.length : Int) 200).toNat) a1 a2).bind fun t162 => (if t161 = t162 then ((aeriallaw30_works.f).bind fun t163 => (some t163)) else (some false))) (r := true)
    (Ev.bind hr (f := fun k t162 => (if over _ (sm a1) (sm a2) _ 0 = t162 then ((aeriallaw30_works.f).bind fun t163 => (some t163)) else (some false))) (Ev.congr (fun k => by rw [if_pos rfl]; rfl) (Ev.now _)))
  obtain ⟨k, hk⟩ := this.rounds
  exact ⟨k, by unfold aeriallaw30_SpecWindows.f; rw [if_pos h0, if_pos h1]; exact hk⟩
theorem order_law (l0 : List S35) (l1 : List S38) : ∃ k, aeriallaw30_SpecOrder.f k l0 l1 = some true := by
  obtain ⟨h0, h1, h2⟩ := mn_take l0 60 60 rfl
  obtain ⟨g0, g1, g2⟩ := mn_take l1 80 80 rfl
  generalize hx : l0.take (mn (l0.length : Int) 60).toNat = xs
  generalize hp : l1.take (mn (l1.length : Int) 80).toNat = ps
  have hxl : xs.length ≤ 1000 := by rw [← hx, List.length_take, h2]; omega
  have hpl : ps.length ≤ 1000 := by rw [← hp, List.length_take, g2]; omega
  have e1 : spec_Prefix.f xs ps = some (firstF pnext xs (grp ps) 0) := by unfold spec_Prefix.f; rw [if_pos (by omega)]
  have e2 : spec_Within.f xs ps = some (firstF wnext xs (grp ps) 0) := by unfold spec_Within.f; rw [if_pos (by omega)]
  have hs := prefix_ref xs ps hxl hpl
  have hr := within_ref xs ps hxl hpl
  have := Ev.bind hs (f := fun k t161 => (if firstF pnext xs (grp ps) 0 = t161 then ((spec_Within.f xs ps).bind fun t162 => ((aerialref30_Within.f k xs ps).bind fun t163 => (if t162 = t163 then ((aeriallaw30_works.f).bind fun t164 => (some t164)) else (some false)))) else (some false))) (r := true)
    (Ev.congr (fun k => by rw [if_pos rfl, e2]; simp only [Option.bind_some]) (Ev.bind hr (f := fun k t163 => (if firstF wnext xs (grp ps) 0 = t163 then ((aeriallaw30_works.f).bind fun t164 => (some t164)) else (some false))) (Ev.congr (fun k => by rw [if_pos rfl]; rfl) (Ev.now _))))
  obtain ⟨k, hk⟩ := this.rounds
  refine ⟨k, ?_⟩
  unfold aeriallaw30_SpecOrder.f
  rw [if_pos h0, if_pos h1, hx, Option.bind_some, if_pos g0, if_pos g1, hp, Option.bind_some, e1, Option.bind_some]
  exact hk
end Go.Proofs.Ytcmcgjjhbjlkpaa.Sp
