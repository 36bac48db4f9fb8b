import Derived.Test.YtcmcgjjhbjlkpaaAirA
namespace Go.Proofs.Ytcmcgjjhbjlkpaa.Air
open Go.RowKit Go.Proofs.YtcmcgjjhbjlkpaaW.PrintWords Go.Proofs.YtcmcgjjhbjlkpaaW.PrintLast Go.Proofs.YtcmcgjjhbjlkpaaW.PrintMore
set_option linter.unusedVariables false
set_option linter.unusedSimpArgs false
theorem info3 : (Try.prog.info? 3).map (fun i => (i.zero, i.size, i.bytes)) = some (some (.int .i64 0), 1, 8) := by kernel_rfl
theorem info99 : (Try.prog.info? 99).map (fun i => (i.zero, i.size, i.bytes)) = some (some (.agg #[.int .i64 0, .int .i64 0]), 2, 16) := by kernel_rfl
theorem info100 : (Try.prog.info? 100).map (fun i => (i.zero, i.size, i.bytes)) = some (some (.agg #[.int .i64 0, .int .i64 0]), 2, 16) := by kernel_rfl
theorem arr_set_same {cs : Array Value} {j : Nat} {v : Value} (h : cs[j]? = some v) : cs.setIfInBounds j v = cs := by
  obtain ⟨hl, he⟩ := Array.getElem?_eq_some_iff.1 h
  apply Array.ext (by simp)
  intro i h1 h2
  rw [Array.getElem_setIfInBounds (by simpa using h1)]
  split
  · rename_i hij; subst hij; exact he.symm
  · rfl
theorem apart_after {w : World} {v v1 : Value} {g : Nat} (h : v.ownBlock ≠ some g) (hg : g < w.heap.size) (hat : v1.ownBlock = v.ownBlock ∨ ∃ b, v1.ownBlock = some b ∧ w.heap.size ≤ b) : v1.ownBlock ≠ some g := by
  rcases hat with e | ⟨b, e, hb⟩
  · rw [e]; exact h
  · rw [e]; intro h'; injection h' with h'; omega
theorem q_set {w : World} {base e size n : Nat} {v : Value} {xs : List Value} (h : QRow w base e size v n xs) {p : Addr} (hp : v.ownBlock ≠ some p.block) (u : Value) : QRow (w.setCell p u) base e size v n xs :=
  q_move h (fun k hk => Below.heap_setCell w p u k (fun e => hp (by rw [hk, e])))
set_option maxHeartbeats 1000000 in
set_option maxRecDepth 100000 in
theorem putI (w : World) (base g t j : Nat) (cs : Array Value) (v : Value) (xs : List Int) (x : Int) (hc : Cellv w g t j cs v) (hq : QRow w base 3 1 v xs.length (nums .i64 xs)) (hne : 3 ≠ t) (hl : xs.length ≤ 4096) (hbase : base ≤ w.heap.size) :
    Calls Try.prog 50 #[.pointer (some ⟨g, j, none⟩), .int .i64 x] w fun e w' => ∃ v', e = .returned (.int .i64 (putE xs)) ∧ Cellv w' g t j (cs.setIfInBounds j v') v' ∧ QRow w' base 3 1 v' (putL x xs).length (nums .i64 (putL x xs)) ∧
      Keep w w' (fun k => k = g ∨ v.ownBlock = some k) ∧ ∀ k, v'.ownBlock = some k → v.ownBlock = some k ∨ w.heap.size ≤ k := by
  have hap := apart hc hq hne
  obtain ⟨A, c, rfl, hnc⟩ := q_slice hq
  have hc1 := hc.cell
  have hf1 := hc.frozen
  have HC := Aside0.mk hc
  have HQ := Aside0.mk hq
  have HAP := Aside0.mk hap
  obtain ⟨n, hn⟩ : ∃ n, n = xs.length := ⟨_, rfl⟩
  have HN := Aside0.mk hn
  rw [← hn] at hl hc1 hnc ⊢
  clear hc hq hap hn
  have hlt := HC.out.lt
  go_enter Try.func50, Try.ntmps50
  by_cases hlt : 4096 ≤ n
  · go_wp2
    go_ret
    obtain ⟨hn⟩ := HN
    subst hn
    refine ⟨.slice A xs.length c, by rw [putE, if_pos hlt]; rfl, ?_, by rw [putL, if_pos hlt]; exact HQ.out, Keep.refl _ _, fun k hk => .inl hk⟩
    rw [arr_set_same HC.out.2]
    exact HC.out
  · go_wp2_with ((with_reducible refine gate_builtin (b := .append) (xs := #[.tmp 15, .tmp 17]) rfl ?_); at_builtin; refine q_put (W := w) base rfl (.tmp 15) (.tmp 17) 27 3 (.int .i64 0) 1 8 rfl Try.underlying27 info3 rfl (by decide) (by decide) (.slice A n c) n (nums .i64 xs) [.int .i64 x] rfl rfl rfl (by simp [Value.oneCell']) (by rw [HN.out]; exact HQ.out) hbase (by omega) ?_; intro v1 w1 hq1 hg1 hat1; obtain ⟨A1, c1, rfl, hnc1⟩ := q_slice hq1; have HQ1 := Aside0.mk hq1; have HG1 := Aside0.mk hg1; have HAT := Aside0.mk hat1; clear hq1 hg1 hat1; have HK := Aside0.mk ((Keep.refl w (fun k => k = g ∨ (Value.slice A n c).ownBlock = some k)).grown HG1.out (fun k hk => .inl (.inr hk))); have HC1 := Aside0.mk (HC.out.move (S := fun k => (Value.slice A n c).ownBlock = some k) ((Keep.refl w _).grown HG1.out (fun k hk => .inl hk)) (by rw [HN.out]; exact HAP.out)); have hf2 := HC1.out.frozen; have hc2 := HC1.out.cell)
    go_ret
    obtain ⟨hn⟩ := HN
    subst hn
    refine ⟨_, by rw [putE, if_neg hlt]; rfl, HC1.out.set _, ?_, HK.out.set _ _ (.inl (.inl rfl)), ?_⟩
    · rw [putL, if_neg hlt]
      have : (xs ++ [x]).length = xs.length + 1 := by simp
      rw [this, nums_append]
      exact q_set HQ1.out (apart_after HAP.out HC.out.lt HAT.out) _
    · intro k hk
      rcases HAT.out with h | ⟨b, h, hb⟩
      · exact .inl (h ▸ hk)
      · rw [h] at hk; injection hk with hk; exact .inr (hk ▸ hb)
end Go.Proofs.Ytcmcgjjhbjlkpaa.Air
