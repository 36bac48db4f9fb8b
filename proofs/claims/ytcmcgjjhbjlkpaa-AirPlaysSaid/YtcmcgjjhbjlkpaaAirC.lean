import Derived.Test.YtcmcgjjhbjlkpaaAirB
namespace Go.Proofs.Ytcmcgjjhbjlkpaa.Air
open Go.RowKit Go.Proofs.YtcmcgjjhbjlkpaaW.PrintWords Go.Proofs.YtcmcgjjhbjlkpaaW.PrintLast Go.Proofs.YtcmcgjjhbjlkpaaW.PrintMore
set_option linter.unusedVariables false
set_option linter.unusedSimpArgs false
theorem cut1 (t e : TypeId) {i : TypeInfo} {size : Nat} (ht : Try.prog.underlying t = some (.slice e)) (hinfo : (Try.prog.info? e).map (fun i => i.size) = some size) (A : Option Addr) (n c : Nat) (hm : 1 ≤ n) :
    ∀ W : World, (Instr.slice t (.slice A n c) (some (.int .i64 1)) none none).run Try.prog W = .ok (.slice (if c = 1 then A else A.map (·.add size)) (n - 1) (c - 1)) W := by
  intro W
  obtain ⟨i0, hi, rfl⟩ := Option.map_eq_some_iff.1 hinfo
  have := cut_from (P := Try.prog) t e .i64 ht hi _ rfl A n c 1 (by decide) (by omega) W
  simpa using this
def cutV (v : Value) (size : Nat) : Value := match v with
  | .slice A n c => .slice (if c = 1 then A else A.map (·.add size)) (n - 1) (c - 1)
  | v => v
theorem cutV_own {A : Option Addr} {n c size : Nat} : (cutV (.slice A n c) size).ownBlock = (Value.slice A n c).ownBlock := by
  unfold cutV
  simp only
  split
  · cases A <;> rfl
  · cases A with
    | none => rfl
    | some a => simp [Value.ownBlock]; unfold Addr.add; split <;> rfl
theorem q_drew {w : World} {base e size n : Nat} {v : Value} {xs : List Value} (h : QRow w base e size v n xs) : QRow w.drew base e size v n xs := q_move h (fun _ _ => rfl)
set_option maxHeartbeats 1000000 in
set_option maxRecDepth 100000 in
theorem takeI (w : World) (base g t j : Nat) (cs : Array Value) (v : Value) (xs : List Int) (hc : Cellv w g t j cs v) (hq : QRow w base 3 1 v xs.length (nums .i64 xs)) (hne : 3 ≠ t) (hbase : base ≤ w.heap.size) :
    Calls Try.prog 54 #[.pointer (some ⟨g, j, none⟩)] w fun e w' => ∃ v', e = .returned (.tuple #[.int .i64 (xs.headD 0), .bool (!xs.isEmpty)]) ∧ Cellv w' g t j (cs.setIfInBounds j v') v' ∧ QRow w' base 3 1 v' xs.tail.length (nums .i64 xs.tail) ∧
      Keep w w' (fun k => k = g) ∧ ∀ k, v'.ownBlock = some k → v.ownBlock = some k ∨ w.heap.size ≤ k := by
  have hap := apart hc hq hne
  obtain ⟨A, c, rfl, hnc⟩ := q_slice hq
  have hc1 := hc.cell
  have hf1 := hc.frozen
  have HC := Aside0.mk hc
  have HQ := Aside0.mk hq
  have HAP := Aside0.mk hap
  rcases xs with _ | ⟨y, ys⟩
  · clear hc hq hap
    go_enter Try.func54, Try.ntmps54
    go_wp2
    go_ret2
    refine ⟨_, rfl, ?_, HQ.out, Keep.refl _ _, fun k hk => .inl hk⟩
    rw [arr_set_same HC.out.2]
    exact HC.out
  · obtain ⟨ad, rfl, hcell⟩ := q_cells hq (by simp)
    have h0 := hcell 0 (.int .i64 y) (by simp [nums])
    have e0 : ad.add 0 = ad := by unfold Addr.add; split <;> simp_all
    rw [e0] at h0
    have hcut := cut1 27 3 (i := default) (size := 1) Try.underlying27 (by kernel_rfl) (some ad) (y :: ys).length c (by simp)
    have hq2 := q_drop HQ.out (show 1 ≤ (y :: ys).length by simp)
    have hown : (Value.slice (if c = 1 then some ad else (some ad).map (·.add (1 * 1))) ((y :: ys).length - 1) (c - 1)).ownBlock = (Value.slice (some ad) (y :: ys).length c).ownBlock := cutV_own (A := some ad) (n := (y :: ys).length) (c := c) (size := 1)
    have hlen : (y :: ys).length = ys.length + 1 := rfl
    obtain ⟨A2, hA2⟩ : ∃ A2, A2 = (if c = 1 then some ad else (some ad).map (·.add 1)) := ⟨_, rfl⟩
    simp only [Nat.one_mul, ← hA2, hlen, Nat.add_sub_cancel] at hq2 hown hcut
    rw [hlen] at hc1 hnc ⊢
    have HQ2 := Aside0.mk hq2
    have HOWN := Aside0.mk hown
    clear hc hq hap hcell hA2 hq2 hown
    go_enter Try.func54, Try.ntmps54
    go_wp2
    go_region
    go_wp2
    go_ret2
    refine ⟨.slice A2 ys.length (c - 1), rfl, ⟨(HC.out.set _).1, (HC.out.set _).2⟩, ?_, ((Keep.refl w (fun k => k = g)).set ⟨g, j, none⟩ _ (.inl rfl)).drew, ?_⟩
    · exact q_drew (q_set HQ2.out (by rw [HOWN.out]; exact HAP.out) _)
    · exact fun k hk => .inl (by rw [HOWN.out] at hk; exact hk)
end Go.Proofs.Ytcmcgjjhbjlkpaa.Air
