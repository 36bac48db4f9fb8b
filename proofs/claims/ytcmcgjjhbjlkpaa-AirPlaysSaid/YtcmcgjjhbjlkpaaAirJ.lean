import Derived.Test.YtcmcgjjhbjlkpaaAirI
namespace Go.Proofs.Ytcmcgjjhbjlkpaa.Air
open Go.RowKit Go.Proofs.YtcmcgjjhbjlkpaaW.PrintWords Go.Proofs.YtcmcgjjhbjlkpaaW.PrintLast Go.Proofs.YtcmcgjjhbjlkpaaW.PrintMore
set_option linter.unusedVariables false
set_option linter.unusedSimpArgs false
set_option maxHeartbeats 2000000 in
set_option maxRecDepth 100000 in
theorem rTurn (w : World) (base g : Nat) (vm vt : Value) (n : Int) (ms : List Int) (ts : List (Int × Int)) (at_ mask : Int) (h : AirIs w base 94 100 g vm vt n ms ts) (hbase : base ≤ w.heap.size) :
    Calls Try.prog 24 #[.pointer (some ⟨g, 0, none⟩), .int .i64 at_, .int .i64 mask] w fun e w' => e = .returned (.int .i64 (turnE at_ mask ts)) ∧ Left w w' base 94 100 g vm vt n ms (turnL at_ mask ts) := by
  obtain ⟨A, c, rfl, hnc⟩ := q_slice h.qt
  have hcm := h.ct.cell
  have hfm := h.ct.frozen
  have H := Aside0.mk h
  obtain ⟨k, hk⟩ : ∃ k, k = ts.length := ⟨_, rfl⟩
  have HK := Aside0.mk hk
  have hlm := h.lt
  rw [← hk] at hcm hnc hlm
  clear h hk
  have bad : turnB at_ mask = false → ∀ w', Below w.heap.size w w' → Ending.returned (.int .i64 2) = Ending.returned (.int .i64 (turnE at_ mask ts)) ∧ Left w w' base 94 100 g vm (.slice A ts.length c) n ms (turnL at_ mask ts) := by
    intro hb w' hB
    rw [turnE, turnL, hb]
    exact ⟨rfl, H.out.left hB⟩
  have BAD := Aside0.mk bad
  clear bad
  by_cases hb0 : at_ < 0
  · go_enter Try.func24, Try.ntmps24
    go_wp2
    go_ret
    exact BAD.out (by simp only [turnB, Bool.and_eq_false_iff, decide_eq_false_iff_not]; omega) _ (Below.refl _ _)
  · by_cases hb1 : 72 < at_
    · go_enter Try.func24, Try.ntmps24
      go_wp2
      go_ret
      exact BAD.out (by simp only [turnB, Bool.and_eq_false_iff, decide_eq_false_iff_not]; omega) _ (Below.refl _ _)
    · by_cases hb2 : mask < 1
      · go_enter Try.func24, Try.ntmps24
        go_wp2
        go_ret
        exact BAD.out (by simp only [turnB, Bool.and_eq_false_iff, decide_eq_false_iff_not]; omega) _ (Below.refl _ _)
      · by_cases hb3 : 255 < mask
        · go_enter Try.func24, Try.ntmps24
          go_wp2
          go_ret
          exact BAD.out (by simp only [turnB, Bool.and_eq_false_iff, decide_eq_false_iff_not]; omega) _ (Below.refl _ _)
        · have hq : turnB at_ mask = true := by simp only [turnB, Bool.and_eq_true, decide_eq_true_eq]; omega
          have HQ := Aside0.mk hq
          clear hq
          by_cases hlt : 4096 ≤ k
          · go_enter Try.func24, Try.ntmps24
            go_wp2
            go_ret
            obtain ⟨rfl⟩ := HK
            rw [turnE, turnL, HQ.out, if_pos rfl, if_pos rfl, putE, if_pos hlt, putL, if_pos hlt]
            exact ⟨rfl, H.out.left (Below.refl _ _)⟩
          · go_enter Try.func24, Try.ntmps24
            go_wp2_with ((with_reducible refine gate_builtin (b := .append) (xs := #[.tmp 31, .tmp 35]) rfl ?_); at_builtin; refine q_put (W := w) base rfl (.tmp 31) (.tmp 35) 92 100 (.agg #[.int .i64 0, .int .i64 0]) 2 16 rfl Try.underlying92 info100 rfl (by decide) (by decide) (.slice A k c) k (tcs ts) [.int .i64 at_, .int .i64 mask] rfl rfl rfl (by simp [Value.oneCell']) (by rw [HK.out]; exact H.out.qt) hbase (by omega) ?_; intro v1 w1 hq1 hg1 hat1; obtain ⟨A1, c1, rfl, hnc1⟩ := q_slice hq1; have HQ1 := Aside0.mk hq1; have HG1 := Aside0.mk hg1; have HAT := Aside0.mk hat1; clear hq1 hg1 hat1; have HAP := Aside0.mk (apart H.out.ct H.out.qt (by decide)); have HKP := Aside0.mk ((Keep.refl w (fun i => i = g ∨ (Value.slice A k c).ownBlock = some i)).grown HG1.out (fun i hi => .inl (.inr hi))); have HC1 := Aside0.mk (H.out.ct.move (S := fun i => (Value.slice A k c).ownBlock = some i) ((Keep.refl w _).grown HG1.out (fun i hi => .inl hi)) (by rw [HK.out]; exact HAP.out)); have hf2 := HC1.out.frozen; have hc2 := HC1.out.cell)
            go_ret
            obtain ⟨rfl⟩ := HK
            rw [turnE, turnL, HQ.out, if_pos rfl, if_pos rfl, putE, if_neg hlt]
            refine ⟨rfl, H.out.setT (by decide) (by decide) (vt' := .slice A1 (ts.length + 1) c1) (HC1.out.set _) ?_ (HKP.out.set ⟨g, 2, none⟩ _ (.inl (.inl rfl))) ?_ (putL_len _ H.out.lt)⟩
            · rw [putL, if_neg hlt]
              have : (ts ++ [(at_, mask)]).length = ts.length + 1 := by simp
              rw [this, tcs_append]
              exact q_set HQ1.out (apart_after HAP.out H.out.size HAT.out) _
            · intro i hi
              rcases HAT.out with h | ⟨b, h, hb⟩
              · exact .inl (h ▸ hi)
              · rw [h] at hi; injection hi with hi; exact .inr (hi ▸ hb)
end Go.Proofs.Ytcmcgjjhbjlkpaa.Air
