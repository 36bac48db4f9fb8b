import Derived.Test.YtcmcgjjhbjlkpaaAirH
namespace Go.Proofs.Ytcmcgjjhbjlkpaa.Air
open Go.RowKit Go.Proofs.YtcmcgjjhbjlkpaaW.PrintWords Go.Proofs.YtcmcgjjhbjlkpaaW.PrintLast Go.Proofs.YtcmcgjjhbjlkpaaW.PrintMore
set_option linter.unusedVariables false
set_option linter.unusedSimpArgs false
set_option maxHeartbeats 2000000 in
set_option maxRecDepth 100000 in
theorem rErase (w : World) (base g : Nat) (vm vt : Value) (n : Int) (ms : List Int) (ts : List (Int × Int)) (mask : Int) (h : AirIs w base 94 100 g vm vt n ms ts) (hbase : base ≤ w.heap.size) :
    Calls Try.prog 22 #[.pointer (some ⟨g, 0, none⟩), .int .i64 mask] w fun e w' => e = .returned (.int .i64 (eraseE n mask ms)) ∧ Left w w' base 94 100 g vm vt n (eraseL n mask ms) ts := by
  obtain ⟨A, c, rfl, hnc⟩ := q_slice h.qm
  have hc0 := h.c0
  have hcm := h.cm.cell
  have hfm := h.cm.frozen
  have H := Aside0.mk h
  obtain ⟨k, hk⟩ : ∃ k, k = ms.length := ⟨_, rfl⟩
  have HK := Aside0.mk hk
  have hlm := h.lm
  rw [← hk] at hcm hnc hlm
  have hn := h.hn
  clear h hk
  have hmw : wrap64 (2 ^ n.toNat) = (2 : Int) ^ n.toNat := by
    have hcase : n = 1 ∨ n = 2 ∨ n = 3 ∨ n = 4 ∨ n = 5 ∨ n = 6 ∨ n = 7 ∨ n = 8 := by omega
    rcases hcase with rfl | rfl | rfl | rfl | rfl | rfl | rfl | rfl <;> simp [wrap64, IntKind.wrap, IntKind.signed, IntKind.bits]
  have HMW := Aside0.mk hmw
  clear hmw
  have bad : eraseB n mask = false → ∀ w', Below w.heap.size w w' → Ending.returned (.int .i64 2) = Ending.returned (.int .i64 (eraseE n mask ms)) ∧ Left w w' base 94 100 g (.slice A ms.length c) vt n (eraseL n mask ms) ts := by
    intro hb w' hB
    rw [eraseE, eraseL, hb]
    exact ⟨rfl, H.out.left hB⟩
  have BAD := Aside0.mk bad
  clear bad
  by_cases hb0 : mask < 0
  · go_enter Try.func22, Try.ntmps22
    go_wp2
    go_ret
    exact BAD.out (by simp [eraseB]; omega) _ (Below.refl _ _)
  · by_cases hb1 : mask < wrap64 (2 ^ n.toNat)
    · have hq : eraseB n mask = true := by rw [eraseB, ← HMW.out]; simp only [Bool.and_eq_true, decide_eq_true_eq]; omega
      have HQ := Aside0.mk hq
      clear hq
      by_cases hlt : 4096 ≤ k
      · go_enter Try.func22, Try.ntmps22
        go_wp2
        go_ret
        obtain ⟨rfl⟩ := HK
        rw [eraseE, eraseL, HQ.out, if_pos rfl, if_pos rfl, putE, if_pos hlt, putL, if_pos hlt]
        exact ⟨rfl, H.out.left (Below.refl _ _)⟩
      · go_enter Try.func22, Try.ntmps22
        go_wp2_with ((with_reducible refine gate_builtin (b := .append) (xs := #[.tmp 26, .tmp 28]) rfl ?_); at_builtin; refine q_put (W := w) base rfl (.tmp 26) (.tmp 28) 27 3 (.int .i64 0) 1 8 rfl Try.underlying27 info3 rfl (by decide) (by decide) (.slice A k c) k (nums .i64 ms) [.int .i64 mask] rfl rfl rfl (by simp [Value.oneCell']) (by rw [HK.out]; exact H.out.qm) hbase (by omega) ?_; intro v1 w1 hq1 hg1 hat1; obtain ⟨A1, c1, rfl, hnc1⟩ := q_slice hq1; have HQ1 := Aside0.mk hq1; have HG1 := Aside0.mk hg1; have HAT := Aside0.mk hat1; clear hq1 hg1 hat1; have HAP := Aside0.mk (apart H.out.cm H.out.qm (by decide)); have HKP := Aside0.mk ((Keep.refl w (fun i => i = g ∨ (Value.slice A k c).ownBlock = some i)).grown HG1.out (fun i hi => .inl (.inr hi))); have HC1 := Aside0.mk (H.out.cm.move (S := fun i => (Value.slice A k c).ownBlock = some i) ((Keep.refl w _).grown HG1.out (fun i hi => .inl hi)) (by rw [HK.out]; exact HAP.out)); have hf2 := HC1.out.frozen; have hc2 := HC1.out.cell)
        go_ret
        obtain ⟨rfl⟩ := HK
        rw [eraseE, eraseL, HQ.out, if_pos rfl, if_pos rfl, putE, if_neg hlt]
        refine ⟨rfl, H.out.setM (by decide) (by decide) (vm' := .slice A1 (ms.length + 1) c1) (HC1.out.set _) ?_ (HKP.out.set ⟨g, 1, none⟩ _ (.inl (.inl rfl))) ?_ (putL_len _ H.out.lm)⟩
        · rw [putL, if_neg hlt]
          have : (ms ++ [mask]).length = ms.length + 1 := by simp
          rw [this, nums_append]
          exact q_set HQ1.out (apart_after HAP.out H.out.size HAT.out) _
        · intro i hi
          rcases HAT.out with h | ⟨b, h, hb⟩
          · exact .inl (h ▸ hi)
          · rw [h] at hi; injection hi with hi; exact .inr (hi ▸ hb)
    · go_enter Try.func22, Try.ntmps22
      go_wp2
      go_ret
      exact BAD.out (by rw [eraseB, ← HMW.out, Bool.and_eq_false_iff]; simp only [decide_eq_false_iff_not]; omega) _ (Below.refl _ _)
end Go.Proofs.Ytcmcgjjhbjlkpaa.Air
