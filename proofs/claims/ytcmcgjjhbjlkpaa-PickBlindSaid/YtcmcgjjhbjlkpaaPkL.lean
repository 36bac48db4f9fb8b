import Derived.Test.YtcmcgjjhbjlkpaaPkK
import Derived.Deep.RegionWith
namespace Go.Proofs.Ytcmcgjjhbjlkpaa.Pk
open Go.RowKit Go.Shelf Go.Proofs.Ytcmcgjjhbjlkpaa.Rw Go.Proofs.YtcmcgjjhbjlkpaaW.PrintWords Go.Proofs.YtcmcgjjhbjlkpaaW.PrintLast Go.Proofs.YtcmcgjjhbjlkpaaW.PrintMore Go.Proofs.Ytcmcgjjhbjlkpaa.PPickPlays Go.Proofs.Ytcmcgjjhbjlkpaa.Air
set_option linter.unusedVariables false
set_option linter.unusedSimpArgs false
/-! ### A literal row of candidates -/
def k4 (x : S74) : List Value := [.int .u64 x.f0, .int .i64 x.f1, .bool x.f2, .bool x.f3]
theorem k4_get (xs : List S74) (j i : Nat) (x : S74) (hj : xs[j]? = some x) (hi : i < 4) : (xs.flatMap k4)[j * 4 + i]? = (k4 x)[i]? := by
  induction xs generalizing j with
  | nil => simp at hj
  | cons y xs ih =>
    rw [List.flatMap_cons]
    cases j with
    | zero =>
      obtain rfl : y = x := by simpa using hj
      rw [Nat.zero_mul, Nat.zero_add, List.getElem?_append_left (by simp [k4]; omega)]
    | succ j =>
      rw [List.getElem?_append_right (by simp [k4]; omega)]
      rw [show (j + 1) * 4 + i - (k4 y).length = j * 4 + i by simp [k4]; omega]
      exact ih j (by simpa using hj)
theorem C_lit {W : World} {b : Nat} {cs : Array Value} (h : Bk W b 74 cs) (xs : List S74) (hx : xs.length ≤ 1000000) (rest : List Value) (hp : cs.toList = xs.flatMap k4 ++ rest) : Kd.C k74 W (some ⟨b, 0, none⟩) xs.length xs := by
  refine ⟨rfl, by omega, fun _ => ⟨_, rfl, fun j p hj => ⟨k4 p, rfl, k74_mk _ _, fun i u hu => ?_⟩⟩⟩
  have hi : i < 4 := (List.getElem?_eq_some_iff.1 hu).1
  have h1 : (xs.flatMap k4)[j * 4 + i]? = some u := by rw [k4_get xs j i p hj hi]; exact hu
  have : cs[j * 4 + i]? = some u := by
    rw [← Array.getElem?_toList, hp, List.getElem?_append_left (List.getElem?_eq_some_iff.1 h1).1]
    exact h1
  have ha : (⟨b, 0, none⟩ : Addr).add (j * 4 + i) = ⟨b, j * 4 + i, none⟩ := by unfold Addr.add; split <;> simp_all
  show W.cell? ((⟨b, 0, none⟩ : Addr).add (j * 4 + i)) = some u
  rw [ha, h.cell, this]
theorem same_new (w : World) (n : Int) : Calls Try.prog 36 #[.int .i64 n] w fun e w' => e = .returned (.func (.func 73) #[] #[.pointer (some ⟨w.heap.size, 0, none⟩)]) ∧ w' = w.alloc (.cells #[.int .i64 n] 3) := by
  go_enter Try.func36, Try.ntmps36
  go_wp2
  go_ret
  exact ⟨rfl, rfl⟩
def s0 : St := ⟨fun _ => 0, 1, false⟩
theorem s0_inv : Inv s0 := ⟨⟨by decide, by decide⟩, fun _ => ⟨Int.le_refl _, by show (0 : Int) ≤ 10000000; decide⟩⟩
section
variable {w w' : World} {g : Nat} {q : Int} {s : St} {xs : List S74} {last : Int} {c wt : Int → Int} {e : Ending}
theorem PickPost.c1 (h : PickPost w g q s xs last c wt e w') (hb : pickB xs last = true) : Below w.heap.size w w' ∧ e = .returned (.agg (choice 1 (fst qVoice xs) (some ⟨g, 0, none⟩))) := by
  obtain ⟨h0, ⟨_, h⟩ | ⟨h1, _⟩ | ⟨h1, _⟩ | ⟨h1, _⟩⟩ := h
  · exact ⟨h0, h⟩
  all_goals (rw [h1] at hb; cases hb)
theorem PickPost.c2 (h : PickPost w g q s xs last c wt e w') (hb : pickB xs last = false) (ho : (fst qOld xs).isSome = true) : Below w.heap.size w w' ∧ e = .returned (.agg (choice 2 (fst qOld xs) (some ⟨g, 0, none⟩))) := by
  obtain ⟨h0, ⟨h1, _⟩ | ⟨_, _, h⟩ | ⟨_, h1, _⟩ | ⟨_, h1, _⟩⟩ := h
  · rw [h1] at hb; cases hb
  · exact ⟨h0, h⟩
  all_goals (rw [h1] at ho; cases ho)
theorem PickPost.c3 (h : PickPost w g q s xs last c wt e w') (hb : pickB xs last = false) (ho : (fst qOld xs).isSome = false) (hy : ysOf (wantL xs) = []) : Below w.heap.size w w' ∧ e = .returned (.agg (choice 0 none (some ⟨g, 0, none⟩))) := by
  obtain ⟨h0, ⟨h1, _⟩ | ⟨_, h1, h⟩ | ⟨_, h1, _, h⟩ | ⟨_, _, h1, _⟩⟩ := h
  · rw [h1] at hb; cases hb
  · rw [h1] at ho; cases ho
  · exact ⟨h0, h⟩
  · exact absurd hy h1
theorem PickPost.c4 (h : PickPost w g q s xs last c wt e w') (hb : pickB xs last = false) (ho : (fst qOld xs).isSome = false) (hy : ysOf (wantL xs) ≠ []) : Below w.heap.size w w' ∧ ∃ s' X, Res q (wdOf (ysOf (wantL xs))) c wt s s' ∧ (fst (qMode (s'.a : Int)) xs).isSome = true ∧
      e = .returned (.agg (choice 3 (fst (qMode (s'.a : Int)) xs) (some ⟨X, 0, none⟩))) ∧ Bk w' X 109 (dcells q s'.D (s'.a : Int) s'.f) ∧ w.heap.size ≤ X := by
  obtain ⟨h0, ⟨h1, _⟩ | ⟨_, h1, h⟩ | ⟨_, _, h1, _⟩ | ⟨_, _, _, h⟩⟩ := h
  · rw [h1] at hb; cases hb
  · rw [h1] at ho; cases ho
  · exact absurd h1 hy
  · exact ⟨h0, h⟩
end
theorem bcell {W w1 : World} (hb : Below W.heap.size W w1) : (∀ b o, b < W.heap.size → w1.cell? ⟨b, o, none⟩ = W.cell? ⟨b, o, none⟩) ∧ (∀ b o, b < W.heap.size → w1.frozen? ⟨b, o, none⟩ = W.frozen? ⟨b, o, none⟩) :=
  ⟨fun b o h => hb.cell (p := ⟨b, o, none⟩) h, fun b o h => hb.frozen (p := ⟨b, o, none⟩) h⟩
def L3 : List S74 := [⟨5, 2, false, false⟩, ⟨3, 7, false, true⟩, ⟨9, 1, true, false⟩]
theorem works_share {s' : St} (h : Res 5000 (wdOf (ysOf (wantL (L3.take 1)))) (fun _ => 1000) (fun _ => 1) s0 s') : s'.a = 2 ∧ s'.D 2 = 4000 := by
  have hr : ∃ s'', runF 5000 (wdOf (ysOf (wantL (L3.take 1)))) (fun _ => 1000) (fun _ => 1) 2 s0 = some s'' ∧ s''.a = 2 ∧ s''.D 2 = 4000 := ⟨_, rfl, rfl, rfl⟩
  obtain ⟨s'', h1, h2, h3⟩ := hr
  obtain rfl := h.of_run _ _ h1
  exact ⟨h2, h3⟩
set_option maxHeartbeats 3000000 in
set_option maxRecDepth 100000 in
theorem works (w : World) : Calls Try.prog 35 #[] w fun e w' => e = .returned (.bool true) ∧ Below w.heap.size w w' := by
  go_enter Try.func35, Try.ntmps35
  go_wp2_with fail
  refine (New_ok w).mono ?_
  rintro e w1 ⟨rfl, rfl⟩
  obtain ⟨W1, eW1⟩ : ∃ W1, W1 = w.alloc (.cells (dcells 5000 (fun _ => 0) 1 false) 109) := ⟨_, rfl⟩
  have HD1 : Aside0 (Bk W1 w.heap.size 109 (dcells 5000 s0.D (s0.a : Int) s0.f)) := ⟨by rw [eW1]; exact Bk.new _ _ _⟩
  have HB1 : Aside0 (Below w.heap.size w W1) := ⟨by rw [eW1]; exact (Below.refl _ _).alloc (Nat.le_refl _) _⟩
  obtain ⟨g, eg⟩ : ∃ g, g = w.heap.size := ⟨_, rfl⟩
  rw [← eg] at HD1
  rw [← eg, ← eW1]
  have HG := Aside0.mk eg
  clear eW1 eg
  go_wp2_with fail
  refine (same_new _ _).mono ?_
  rintro e w2 ⟨rfl, rfl⟩
  go_wp2_with fail
  refine (same_new _ _).mono ?_
  rintro e w2 ⟨rfl, rfl⟩
  go_wp2_with fail
  obtain ⟨W2, eW2⟩ : ∃ W2, W2 = allocs W1 [.cells #[.int .u64 5, .int .i64 2, .bool false, .bool false, .int .u64 3, .int .i64 7, .bool false, .bool true, .int .u64 9, .int .i64 1, .bool true, .bool false] 74, .cells #[.int .i64 1000] 3, .cells #[.int .i64 1] 3] := ⟨_, rfl⟩
  have HB2 : Aside0 (Below W1.heap.size W1 W2) := ⟨by rw [eW2]; exact allocs_below _ _⟩
  have HL2 : Aside0 (Bk W2 W1.heap.size 74 _) := ⟨by rw [eW2]; exact allocs_get _ _ 0 _ rfl⟩
  have HX2 : Aside0 (Bk W2 (W1.heap.size + 1) 3 _) := ⟨by rw [eW2]; exact allocs_get _ _ 1 _ rfl⟩
  have HY2 : Aside0 (Bk W2 (W1.heap.size + 1 + 1) 3 _) := ⟨by rw [eW2]; exact allocs_get _ _ 2 _ rfl⟩
  simp only [allocs] at eW2
  rw [← eW2]
  clear eW2
  refine (Pick_ok W2 _ _ L3 (C_lit HL2.out L3 (by decide) [] rfl) (by decide) 0 g 5000 (by decide) s0 s0_inv (HD1.out.below HB2.out) _ _ (fun _ => 1000) (fun _ => 1) (.inl ⟨_, _, _, _, rfl, rfl, HX2.out.cell 0, HY2.out.cell 0, rfl, rfl⟩)).mono ?_
  rintro e w3 hp
  obtain ⟨hb3, rfl⟩ := hp.c1 rfl
  clear hp
  have HB3 := Aside0.mk (HB2.out.trans (hb3.mono HB2.out.size))
  have HD3 := Aside0.mk (HD1.out.below HB3.out)
  have HL3 := Aside0.mk (HL2.out.below hb3)
  clear hb3
  rw [show choice 1 (fst qVoice L3) (some ⟨g, 0, none⟩) = #[.int .i64 1, .int .u64 9, .int .i64 1, .pointer (some ⟨g, 0, none⟩)] from rfl]
  go_wp2_with fail
  refine (same_new _ _).mono ?_
  rintro e w2 ⟨rfl, rfl⟩
  go_wp2_with fail
  refine (same_new _ _).mono ?_
  rintro e w2 ⟨rfl, rfl⟩
  go_wp2_with fail
  obtain ⟨W4, eW4⟩ : ∃ W4, W4 = allocs w3 [.cells #[.int .i64 1, .int .u64 9, .int .i64 1, .pointer (some ⟨g, 0, none⟩)] 63, .cells #[.int .i64 1000] 3, .cells #[.int .i64 1] 3] := ⟨_, rfl⟩
  have HB4 : Aside0 (Below w3.heap.size w3 W4) := ⟨by rw [eW4]; exact allocs_below _ _⟩
  have HA4 : Aside0 (Bk W4 w3.heap.size 63 _) := ⟨by rw [eW4]; exact allocs_get _ _ 0 _ rfl⟩
  have HX4 : Aside0 (Bk W4 (w3.heap.size + 1) 3 _) := ⟨by rw [eW4]; exact allocs_get _ _ 1 _ rfl⟩
  have HY4 : Aside0 (Bk W4 (w3.heap.size + 1 + 1) 3 _) := ⟨by rw [eW4]; exact allocs_get _ _ 2 _ rfl⟩
  simp only [allocs] at eW4
  rw [← eW4]
  clear eW4
  refine (Pick_ok W4 _ _ L3 (C_lit (HL3.out.below HB4.out) L3 (by decide) [] rfl) (by decide) 1 g 5000 (by decide) s0 s0_inv (HD3.out.below HB4.out) _ _ (fun _ => 1000) (fun _ => 1) (.inl ⟨_, _, _, _, rfl, rfl, HX4.out.cell 0, HY4.out.cell 0, rfl, rfl⟩)).mono ?_
  rintro e w5 hp
  obtain ⟨hb5, rfl⟩ := hp.c2 rfl rfl
  clear hp
  have HB5 := Aside0.mk (HB4.out.trans (hb5.mono HB4.out.size))
  have HD5 := Aside0.mk (HD3.out.below HB5.out)
  have HL5 := Aside0.mk (HL3.out.below HB5.out)
  have HA5 := Aside0.mk (HA4.out.below hb5)
  clear hb5
  rw [show choice 2 (fst qOld L3) (some ⟨g, 0, none⟩) = #[.int .i64 2, .int .u64 3, .int .i64 7, .pointer (some ⟨g, 0, none⟩)] from rfl]
  go_wp2_with fail
  have h50 := HA5.out.cell 0
  have h51 := HA5.out.cell 1
  have h52 := HA5.out.cell 2
  change _ = some (Value.int .i64 1) at h50
  change _ = some (Value.int .u64 9) at h51
  change _ = some (Value.int .i64 1) at h52
  have h5l : w3.heap.size < w5.heap.size := HA5.out.lt
  obtain ⟨W6, eW6⟩ : ∃ W6, W6 = w5.alloc (.cells #[.int .i64 2, .int .u64 3, .int .i64 7, .pointer (some ⟨g, 0, none⟩)] 63) := ⟨_, rfl⟩
  have HB56 : Aside0 (Below w5.heap.size w5 W6) := ⟨by rw [eW6]; exact (Below.refl _ _).alloc (Nat.le_refl _) _⟩
  have HZ6 : Aside0 (Bk W6 w5.heap.size 63 #[.int .i64 2, .int .u64 3, .int .i64 7, .pointer (some ⟨g, 0, none⟩)]) := ⟨by rw [eW6]; exact Bk.new _ _ _⟩
  have HA6 := Aside0.mk (HA5.out.below HB56.out)
  have HD6 := Aside0.mk (HD5.out.below HB56.out)
  have HL6 := Aside0.mk (HL5.out.below HB56.out)
  have HB6 := Aside0.mk (HB5.out.trans (HB56.out.mono HB5.out.size))
  rw [← eW6]
  clear eW6 h50 h51 h52 h5l
  have h60 : W6.cell? ⟨w3.heap.size, 0, none⟩ = some (Value.int .i64 1) := HA6.out.cell 0
  have h61 : W6.cell? ⟨w3.heap.size, 1, none⟩ = some (Value.int .u64 9) := HA6.out.cell 1
  have h62 : W6.cell? ⟨w3.heap.size, 2, none⟩ = some (Value.int .i64 1) := HA6.out.cell 2
  have h63 : W6.cell? ⟨w5.heap.size, 0, none⟩ = some (Value.int .i64 2) := HZ6.out.cell 0
  have h64 : W6.cell? ⟨w5.heap.size, 1, none⟩ = some (Value.int .u64 3) := HZ6.out.cell 1
  have h65 : W6.cell? ⟨w5.heap.size, 2, none⟩ = some (Value.int .i64 7) := HZ6.out.cell 2
  have hl6 : w3.heap.size < W6.heap.size := HA6.out.lt
  have hl7 : w5.heap.size < W6.heap.size := HZ6.out.lt
  have hl8 : g < W6.heap.size := HD6.out.lt
  have HBW6 := Aside0.mk (HB1.out.trans ((HB3.out.trans (HB6.out.mono HB3.out.size)).mono HB1.out.size))
  have hl9 : w.heap.size ≤ W6.heap.size := HBW6.out.size
  go_region_with (first
    | (go_at_call 31; refine (Pick_ok _ _ _ (L3.take 1) (C_lit (b := W1.heap.size) (cs := #[.int .u64 5, .int .i64 2, .bool false, .bool false, .int .u64 3, .int .i64 7, .bool false, .bool true, .int .u64 9, .int .i64 1, .bool true, .bool false]) (by repeat (first | (with_reducible exact HL6.out) | (with_reducible refine Bk.alloc ?_ _) | (with_reducible refine Bk.drew ?_))) (L3.take 1) (by decide) _ rfl) (by decide) 1 g 5000 (by decide) s0 s0_inv (by repeat (first | (with_reducible exact HD6.out) | (with_reducible refine Bk.alloc ?_ _) | (with_reducible refine Bk.drew ?_))) _ _ (fun _ => 1000) (fun _ => 1) (.inl ⟨_, _, _, _, rfl, rfl, (by go_simp), (by go_simp), rfl, rfl⟩)).mono ?_; rintro e w7 hp; obtain ⟨hb7, s', X, hres, hsm, he, hbk, hX⟩ := hp.c4 rfl rfl (by decide); obtain ⟨ha, hv⟩ := works_share hres; rw [ha, show choice 3 (fst (qMode ((2 : Nat) : Int)) (L3.take 1)) (some ⟨X, 0, none⟩) = #[.int .i64 3, .int .u64 5, .int .i64 2, .pointer (some ⟨X, 0, none⟩)] from rfl] at he; have HX7 := Aside0.mk hbk; have HV := Aside0.mk hv; have HAA := Aside0.mk ha; have HB67 : Aside0 (Below W6.heap.size W6 w7) := ⟨by refine Below.trans ?_ (hb7.mono (by simp <;> omega)); repeat (first | exact Below.refl _ _ | refine Below.drew ?_ | refine Below.alloc ?_ (by simp <;> omega) _)⟩; have hz7 := hb7.size; simp at hz7 hX; have HBW7 := Aside0.mk (HBW6.out.trans (HB67.out.mono HBW6.out.size)); have HD67 := Aside0.mk (HD6.out.below HB67.out); have q0 := cell_below h60 HB67.out; have q1 := cell_below h61 HB67.out; have q2 := cell_below h62 HB67.out; have q3 := cell_below h63 HB67.out; have q4 := cell_below h64 HB67.out; have q5 := cell_below h65 HB67.out; have q6 : w3.heap.size < w7.heap.size := (by omega); have q7 : w5.heap.size < w7.heap.size := (by omega); obtain ⟨hcc, hff⟩ := bcell hb7; clear hp hres hsm hbk hv ha; subst he)
    | (go_at_call 36; refine (same_new _ _).mono ?_; rintro e wz ⟨rfl, rfl⟩))
  all_goals first
    | ((go_wp2_with fail); (refine (Deficit_ok _ g 5000 s0.D (s0.a : Int) s0.f (by repeat (first | (with_reducible exact HD67.out) | (with_reducible refine Bk.alloc ?_ _) | (with_reducible refine Bk.set_other ?_ (by omega) _ _) | (with_reducible refine Bk.drew ?_))) 2 (by decide) (by decide)).mono ?_); (rintro e wz ⟨rfl, rfl⟩); (go_wp2_with fail); (refine (Deficit_ok _ X 5000 s'.D (s'.a : Int) s'.f (by repeat (first | (with_reducible exact HX7.out) | (with_reducible refine Bk.alloc ?_ _) | (with_reducible refine Bk.set_other ?_ (by omega) _ _) | (with_reducible refine Bk.drew ?_))) 2 (by decide) (by decide)).mono ?_); (rintro e wz ⟨rfl, rfl⟩); (rw [HV.out]); (go_wp2); (go_ret); (refine ⟨rfl, ?_⟩); (repeat (first | (with_reducible exact HBW7.out) | (with_reducible refine Below.alloc ?_ (by first | omega | (simp <;> omega)) _) | (with_reducible refine Below.setCell ?_ (by first | omega | (simp <;> omega)) _) | (with_reducible refine Below.drew ?_))))
    | (have z0 := hcc W6.heap.size 0 (by simp <;> omega); have z1 := hcc W6.heap.size 1 (by simp <;> omega); have z2 := hcc W6.heap.size 2 (by simp <;> omega); have z3 := hcc W6.heap.size 3 (by simp <;> omega); simp [go_sem] at z0 z1 z2 z3; (go_wp2_with fail); (refine (Deficit_ok _ g 5000 s0.D (s0.a : Int) s0.f (by repeat (first | (with_reducible exact HD67.out) | (with_reducible refine Bk.alloc ?_ _) | (with_reducible refine Bk.set_other ?_ (by omega) _ _) | (with_reducible refine Bk.drew ?_))) 2 (by decide) (by decide)).mono ?_); (rintro e wz ⟨rfl, rfl⟩); (go_wp2_with fail); (refine (Deficit_ok _ X 5000 s'.D (s'.a : Int) s'.f (by repeat (first | (with_reducible exact HX7.out) | (with_reducible refine Bk.alloc ?_ _) | (with_reducible refine Bk.set_other ?_ (by omega) _ _) | (with_reducible refine Bk.drew ?_))) 2 (by decide) (by decide)).mono ?_); (rintro e wz ⟨rfl, rfl⟩); (rw [HV.out]); (go_wp2); (go_ret); (refine ⟨rfl, ?_⟩); (repeat (first | (with_reducible exact HBW7.out) | (with_reducible refine Below.alloc ?_ (by first | omega | (simp <;> omega)) _) | (with_reducible refine Below.setCell ?_ (by first | omega | (simp <;> omega)) _) | (with_reducible refine Below.drew ?_))))
end Go.Proofs.Ytcmcgjjhbjlkpaa.Pk
