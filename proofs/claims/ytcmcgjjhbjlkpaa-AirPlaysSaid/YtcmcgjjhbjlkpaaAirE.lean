import Derived.Test.YtcmcgjjhbjlkpaaAirD
import Derived.Handy
namespace Go.Proofs.Ytcmcgjjhbjlkpaa.Air
open Go.RowKit Go.Proofs.YtcmcgjjhbjlkpaaW.PrintWords Go.Proofs.YtcmcgjjhbjlkpaaW.PrintLast Go.Proofs.YtcmcgjjhbjlkpaaW.PrintMore
set_option linter.unusedVariables false
set_option linter.unusedSimpArgs false
set_option maxHeartbeats 1000000 in
set_option maxRecDepth 100000 in
theorem takeT (w : World) (base g t j : Nat) (cs : Array Value) (v : Value) (xs : List (Int × Int)) (hc : Cellv w g t j cs v) (hq : QRow w base 99 2 v xs.length (tcs xs)) (hne : 99 ≠ t) (hbase : base ≤ w.heap.size) :
    Calls Try.prog 55 #[.pointer (some ⟨g, j, none⟩)] w fun e w' => ∃ v', e = .returned (.tuple #[.agg #[.int .i64 (xs.headD (0, 0)).1, .int .i64 (xs.headD (0, 0)).2], .bool (!xs.isEmpty)]) ∧ Cellv w' g t j (cs.setIfInBounds j v') v' ∧ QRow w' base 99 2 v' xs.tail.length (tcs xs.tail) ∧
      Keep w w' (fun k => k = g) ∧ ∀ k, v'.ownBlock = some k → v.ownBlock = some k ∨ w.heap.size ≤ k := by
  have hap := apart hc hq hne
  obtain ⟨A, c, rfl, hnc⟩ := q_slice hq
  have hc1 := hc.cell
  have hf1 := hc.frozen
  have HC := Aside0.mk hc
  have HQ := Aside0.mk hq
  have HAP := Aside0.mk hap
  rcases xs with _ | ⟨y, ys⟩
  · clear hc hq hap
    have hlt := HC.out.lt
    go_enter Try.func55, Try.ntmps55
    go_wp2
    go_returns
    refine ⟨.slice A 0 c, rfl, ?_, q_alloc HQ.out _, (Keep.refl w (fun k => k = g)).alloc _, fun k hk => .inl hk⟩
    have : Cellv _ g t j cs (.slice A 0 c) := HC.out.alloc (.cells #[Value.int .i64 0, Value.int .i64 0] 99)
    rw [arr_set_same this.2]
    exact this
  · obtain ⟨ad, rfl, hcell⟩ := q_cells hq (by simp)
    have h0 := hcell 0 (.int .i64 y.1) (by simp [tcs])
    have h1 := hcell 1 (.int .i64 y.2) (by simp [tcs])
    have e0 : ad.add 0 = ad := by unfold Addr.add; split <;> simp_all
    rw [e0] at h0
    have e1 : ad.add 1 = ⟨ad.block, ad.off + 1, none⟩ := by unfold Addr.add; split <;> simp_all
    rw [e1] at h1
    have hcut := cut1 87 99 (i := default) (size := 2) Try.underlying87 (by kernel_rfl) (some ad) (y :: ys).length c (by simp)
    have hq2 := q_drop HQ.out (show 1 ≤ (y :: ys).length by simp)
    have hown : (Value.slice (if c = 1 then some ad else (some ad).map (·.add (1 * 2))) ((y :: ys).length - 1) (c - 1)).ownBlock = (Value.slice (some ad) (y :: ys).length c).ownBlock := cutV_own (A := some ad) (n := (y :: ys).length) (c := c) (size := 2)
    have hlen : (y :: ys).length = ys.length + 1 := rfl
    obtain ⟨A2, hA2⟩ : ∃ A2, A2 = (if c = 1 then some ad else (some ad).map (·.add 2)) := ⟨_, rfl⟩
    simp only [Nat.one_mul, ← hA2, hlen, Nat.add_sub_cancel] at hq2 hown hcut
    rw [hlen] at hc1 hnc ⊢
    have HQ2 := Aside0.mk hq2
    have HOWN := Aside0.mk hown
    have hlt := HC.out.lt
    have hlta : ad.block < w.heap.size := World.block_lt_of_cell? w _ h0
    have hlta1 : (⟨ad.block, ad.off + 1, none⟩ : Addr).block < w.heap.size := World.block_lt_of_cell? w _ h1
    have h0a : ∀ o, (w.alloc o).cell? ad = some (.int .i64 y.1) := fun o => (World.cell?_alloc_lt _ _ _ hlta).trans h0
    have h1a : ∀ o, (w.alloc o).cell? ⟨ad.block, ad.off + 1, none⟩ = some (.int .i64 y.2) := fun o => (World.cell?_alloc_lt _ _ _ hlta1).trans h1
    have hca : ∀ o, (w.alloc o).cell? ⟨g, j, none⟩ = some (.slice (some ad) (ys.length + 1) c) := fun o => (World.cell?_alloc_lt _ _ _ hlt).trans hc1
    have hfa : ∀ o, (w.alloc o).frozen? ⟨g, j, none⟩ = false := fun o => (HC.out.alloc o).frozen
    clear hc hq hap hcell hA2 hq2 hown
    go_enter Try.func55, Try.ntmps55
    go_wp2
    go_region
    go_wp2
    go_returns
    refine ⟨.slice A2 ys.length (c - 1), rfl, ⟨((HC.out.set _).alloc _).1, (HC.out.set _).2⟩, ?_, (((Keep.refl w (fun k => k = g)).set ⟨g, j, none⟩ _ (.inl rfl)).alloc _).drew, ?_⟩
    · exact q_drew (q_alloc (q_set HQ2.out (by rw [HOWN.out]; exact HAP.out) _) _)
    · exact fun k hk => .inl (by rw [HOWN.out] at hk; exact hk)
end Go.Proofs.Ytcmcgjjhbjlkpaa.Air
