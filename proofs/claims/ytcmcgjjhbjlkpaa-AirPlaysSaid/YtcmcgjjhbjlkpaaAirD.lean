import Derived.Test.YtcmcgjjhbjlkpaaAirC
namespace Go.Proofs.Ytcmcgjjhbjlkpaa.Air
open Go.RowKit Go.Proofs.YtcmcgjjhbjlkpaaW.PrintWords Go.Proofs.YtcmcgjjhbjlkpaaW.PrintLast Go.Proofs.YtcmcgjjhbjlkpaaW.PrintMore
set_option linter.unusedVariables false
set_option linter.unusedSimpArgs false
/-- Turns as cells. -/
def tcs (ts : List (Int × Int)) : List Value := ts.flatMap fun t => [.int .i64 t.1, .int .i64 t.2]
theorem tcs_append (xs ys : List (Int × Int)) : tcs (xs ++ ys) = tcs xs ++ tcs ys := by simp [tcs]
theorem q_alloc {w : World} {base e size n : Nat} {v : Value} {xs : List Value} (h : QRow w base e size v n xs) (o : Obj) : QRow (w.alloc o) base e size v n xs := q_move h (fun k hk => Below.heap_alloc w o k (q_lt h k hk))
theorem Cellv.alloc {w : World} {g t j : Nat} {cs : Array Value} {v : Value} (h : Cellv w g t j cs v) (o : Obj) : Cellv (w.alloc o) g t j cs v := ⟨(Below.heap_alloc w o g h.lt).trans h.1, h.2⟩
theorem Cellv.drew {w : World} {g t j : Nat} {cs : Array Value} {v : Value} (h : Cellv w g t j cs v) : Cellv w.drew g t j cs v := h
set_option maxHeartbeats 1000000 in
set_option maxRecDepth 100000 in
theorem putT (w : World) (base g t j : Nat) (cs : Array Value) (v : Value) (xs : List (Int × Int)) (x : Int × Int) (hc : Cellv w g t j cs v) (hq : QRow w base 99 2 v xs.length (tcs xs)) (hne : 99 ≠ t) (hl : xs.length ≤ 4096) (hbase : base ≤ w.heap.size) :
    Calls Try.prog 53 #[.pointer (some ⟨g, j, none⟩), .agg #[.int .i64 x.1, .int .i64 x.2]] w fun e w' => ∃ v', e = .returned (.int .i64 (putE xs)) ∧ Cellv w' g t j (cs.setIfInBounds j v') v' ∧ QRow w' base 99 2 v' (putL x xs).length (tcs (putL x xs)) ∧
      Keep w w' (fun k => k = g ∨ v.ownBlock = some k) ∧ ∀ k, v'.ownBlock = some k → v.ownBlock = some k ∨ w.heap.size ≤ k := by
  have hap := apart hc hq hne
  obtain ⟨A, c, rfl, hnc⟩ := q_slice hq
  have hc1 := hc.cell
  have hf1 := hc.frozen
  have HC := Aside0.mk hc
  have HQ := Aside0.mk hq
  have HAP := Aside0.mk hap
  obtain ⟨n, hn⟩ : ∃ n, n = xs.length := ⟨_, rfl⟩
  have HN := Aside0.mk hn
  rw [← hn] at hl hc1 hnc ⊢
  clear hc hq hap hn
  have hlt := HC.out.lt
  go_enter Try.func53, Try.ntmps53
  by_cases hlt : 4096 ≤ n
  · go_wp2
    go_ret
    obtain ⟨hn⟩ := HN
    subst hn
    refine ⟨.slice A xs.length c, by rw [putE, if_pos hlt]; rfl, ?_, by rw [putL, if_pos hlt]; exact q_alloc HQ.out _, (Keep.refl _ _).alloc _, fun k hk => .inl hk⟩
    rw [arr_set_same HC.out.2]
    exact HC.out.alloc _
  · go_wp2
    have HQ2 := Aside0.mk (q_drew (q_alloc HQ.out (.cells #[Value.int .i64 x.1, Value.int .i64 x.2] 99)))
    have HCW := HC.out.alloc (.cells #[Value.int .i64 x.1, Value.int .i64 x.2] 99)
    have hX0 : (w.alloc (.cells #[Value.int .i64 x.1, Value.int .i64 x.2] 99)).drew.cell? ⟨w.heap.size, 0, none⟩ = some (.int .i64 x.1) := by
      exact World.cell?_alloc_new ..
    have hX1 : (w.alloc (.cells #[Value.int .i64 x.1, Value.int .i64 x.2] 99)).drew.cell? ⟨w.heap.size, 1, none⟩ = some (.int .i64 x.2) := by
      exact World.cell?_alloc_new ..
    have HKW := Aside0.mk (((Keep.refl w (fun k => k = g ∨ (Value.slice A n c).ownBlock = some k)).alloc (.cells #[Value.int .i64 x.1, Value.int .i64 x.2] 99)).drew)
    have hsz : w.heap.size ≤ (w.alloc (.cells #[Value.int .i64 x.1, Value.int .i64 x.2] 99)).drew.heap.size := HKW.out.size
    have hcW : (w.alloc (.cells #[Value.int .i64 x.1, Value.int .i64 x.2] 99)).drew.cell? ⟨g, j, none⟩ = some (.slice A n c) := by rw [HN.out]; exact HCW.drew.cell
    obtain ⟨W, hW⟩ : ∃ W, W = w.alloc (.cells #[Value.int .i64 x.1, Value.int .i64 x.2] 99) := ⟨_, rfl⟩
    rw [← hW] at HQ2 HCW hX0 hX1 HKW hcW hsz ⊢
    have HCD := Aside0.mk HCW.drew
    clear HCW hW hf1 hc1
    have hcWa : ∀ o, (W.alloc o).cell? ⟨g, j, none⟩ = some (.slice A n c) := fun o => by rw [HN.out]; exact (HCD.out.alloc o).cell
    go_region_law (refine q_put_step (W := W.drew) base rfl (.tmp 15) (.tmp 17) 87 99 (.agg #[.int .i64 0, .int .i64 0]) 2 16 rfl Try.underlying87 info99 rfl (by decide) (by decide) (.slice A n c) n (tcs xs) [.int .i64 x.1, .int .i64 x.2] rfl rfl rfl (by simp [Value.oneCell']) (by rw [HN.out]; exact HQ2.out) (by omega) (by omega) ?_; intro v1 w1 hq1 hg1 hat1; obtain ⟨A1, c1, rfl, hnc1⟩ := q_slice hq1; have HQ1 := Aside0.mk hq1; have HG1 := Aside0.mk hg1; have HAT := Aside0.mk hat1; clear hq1 hg1 hat1; have HK := Aside0.mk (HKW.out.grown HG1.out (fun k hk => .inl (.inr hk))); have HC1 := Aside0.mk (HCD.out.move (S := fun k => (Value.slice A n c).ownBlock = some k) ((Keep.refl W.drew _).grown HG1.out (fun k hk => .inl hk)) (by rw [HN.out]; exact HAP.out)); have hf2 := HC1.out.frozen; have hc2 := HC1.out.cell)
    all_goals
      go_wp2
      go_ret
      obtain ⟨hn⟩ := HN
      subst hn
      refine ⟨_, by rw [putE, if_neg hlt]; rfl, HC1.out.set _, ?_, HK.out.set _ _ (.inl (.inl rfl)), ?_⟩
      · rw [putL, if_neg hlt]
        have : (xs ++ [x]).length = xs.length + 1 := by simp
        rw [this, tcs_append]
        exact q_set HQ1.out (apart_after HAP.out HCD.out.lt HAT.out) _
      · intro k hk
        rcases HAT.out with h | ⟨b, h, hb⟩
        · exact .inl (h ▸ hk)
        · rw [h] at hk; injection hk with hk; exact .inr (Nat.le_trans hsz (hk ▸ hb))
end Go.Proofs.Ytcmcgjjhbjlkpaa.Air
