import Derived.Test.YtcmcgjjhbjlkpaaAirF
namespace Go.Proofs.Ytcmcgjjhbjlkpaa.Air
open Go.RowKit Go.Proofs.YtcmcgjjhbjlkpaaW.PrintWords Go.Proofs.YtcmcgjjhbjlkpaaW.PrintLast Go.Proofs.YtcmcgjjhbjlkpaaW.PrintMore
set_option linter.unusedVariables false
set_option linter.unusedSimpArgs false
set_option maxHeartbeats 1000000 in
set_option maxRecDepth 100000 in
theorem askE1 (w : World) (pm : Addr) (mask : Int) (hm : w.cell? pm = some (.int .i64 mask)) : Asks w 48 #[.pointer (some pm)] (decide (0 ≤ mask)) := by
  intro W hB
  have hm' : W.cell? pm = some (.int .i64 mask) := (hB.cell (World.block_lt_of_cell? w _ hm)).trans hm
  have HB := Aside0.mk hB
  clear hm hB
  go_enter Try.func48, Try.ntmps48
  go_wp2
  go_ret
  exact ⟨rfl, HB.out⟩
set_option maxHeartbeats 2000000 in
set_option maxRecDepth 100000 in
theorem askE2 (w : World) (pm pa : Addr) (g : Nat) (mask n : Int) (hn : 1 ≤ n ∧ n ≤ 8) (hm : w.cell? pm = some (.int .i64 mask)) (ha : w.cell? pa = some (.pointer (some ⟨g, 0, none⟩))) (hg : w.cell? ⟨g, 0, none⟩ = some (.int .i64 n)) :
    Asks w 49 #[.pointer (some pm), .pointer (some pa)] (decide (mask < 2 ^ n.toNat)) := by
  intro W hB
  have hm' : W.cell? pm = some (.int .i64 mask) := (hB.cell (World.block_lt_of_cell? w _ hm)).trans hm
  have ha' : W.cell? pa = some (.pointer (some ⟨g, 0, none⟩)) := (hB.cell (World.block_lt_of_cell? w _ ha)).trans ha
  have hg' : W.cell? ⟨g, 0, none⟩ = some (.int .i64 n) := (hB.cell (World.block_lt_of_cell? w _ hg)).trans hg
  have HB := Aside0.mk hB
  clear hm ha hg hB
  have hcase : n = 1 ∨ n = 2 ∨ n = 3 ∨ n = 4 ∨ n = 5 ∨ n = 6 ∨ n = 7 ∨ n = 8 := by omega
  clear hn
  rcases hcase with rfl | rfl | rfl | rfl | rfl | rfl | rfl | rfl
  all_goals
    go_enter Try.func49, Try.ntmps49
    go_wp2
    go_quiet (fail)
    go_wp2
    go_ret
    exact ⟨rfl, pw_below_drewN HB.out _⟩
set_option maxHeartbeats 1000000 in
set_option maxRecDepth 100000 in
theorem askT1 (w : World) (pm : Addr) (at_ : Int) (hm : w.cell? pm = some (.int .i64 at_)) : Asks w 51 #[.pointer (some pm)] (decide (0 ≤ at_) && decide (at_ ≤ 72)) := by
  intro W hB
  have hm' : W.cell? pm = some (.int .i64 at_) := (hB.cell (World.block_lt_of_cell? w _ hm)).trans hm
  have HB := Aside0.mk hB
  clear hm hB
  by_cases h0 : 0 ≤ at_
  · go_enter Try.func51, Try.ntmps51
    go_wp2
    go_ret
    exact ⟨by simp [h0], HB.out⟩
  · go_enter Try.func51, Try.ntmps51
    go_wp2
    go_ret
    exact ⟨by simp [h0]; intro; omega, HB.out⟩
set_option maxHeartbeats 1000000 in
set_option maxRecDepth 100000 in
theorem askT2 (w : World) (pm : Addr) (mask : Int) (hm : w.cell? pm = some (.int .i64 mask)) : Asks w 52 #[.pointer (some pm)] (decide (0 < mask) && decide (mask < 256)) := by
  intro W hB
  have hm' : W.cell? pm = some (.int .i64 mask) := (hB.cell (World.block_lt_of_cell? w _ hm)).trans hm
  have HB := Aside0.mk hB
  clear hm hB
  by_cases h0 : 0 < mask
  · go_enter Try.func52, Try.ntmps52
    go_wp2
    go_ret
    exact ⟨by simp [h0], HB.out⟩
  · go_enter Try.func52, Try.ntmps52
    go_wp2
    go_ret
    exact ⟨by simp [h0]; intro; omega, HB.out⟩
end Go.Proofs.Ytcmcgjjhbjlkpaa.Air
