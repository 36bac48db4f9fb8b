import Derived.Test.YtcmcgjjhbjlkpaaAirL
namespace Go.Proofs.Ytcmcgjjhbjlkpaa.Air
open Go.RowKit Go.Proofs.YtcmcgjjhbjlkpaaW.PrintWords Go.Proofs.YtcmcgjjhbjlkpaaW.PrintLast Go.Proofs.YtcmcgjjhbjlkpaaW.PrintMore
set_option linter.unusedVariables false
set_option linter.unusedSimpArgs false
theorem air_new (w : World) (base t e : Nat) (n : Int) (hn : 1 ≤ n ∧ n ≤ 8) (hb : base ≤ w.heap.size) :
    AirIs (w.alloc (.cells #[.int .i64 n, .slice none 0 0, .slice none 0 0] t)) base t e w.heap.size (.slice none 0 0) (.slice none 0 0) n [] [] :=
  ⟨heap_alloc_new w _, hb, q_of_own (own_nil _ _ _ _), q_of_own (own_nil _ _ _ _), by simp, by simp, hn⟩
set_option maxHeartbeats 1000000 in
set_option maxRecDepth 100000 in
theorem New_bad (w : World) (n : Int) (hn : ¬ (1 ≤ n ∧ n ≤ 8)) : Calls Try.prog 18 #[.int .i64 n] w fun e w' => e = .returned (.pointer none) ∧ w' = w := by
  by_cases h : n < 1
  · go_enter Try.func18, Try.ntmps18
    go_wp2
    go_ret
    exact ⟨rfl, rfl⟩
  · have h8 : 8 < n := by omega
    go_enter Try.func18, Try.ntmps18
    go_wp2
    go_ret
    exact ⟨rfl, rfl⟩
set_option maxHeartbeats 1000000 in
set_option maxRecDepth 100000 in
theorem New_ok (w : World) (n : Int) (hn : 1 ≤ n ∧ n ≤ 8) : Calls Try.prog 18 #[.int .i64 n] w fun e w' => e = .returned (.pointer (some ⟨w.heap.size, 0, none⟩)) ∧ w' = w.alloc (.cells #[.int .i64 n, .slice none 0 0, .slice none 0 0] 91) := by
  obtain ⟨h1, h2⟩ := hn
  go_enter Try.func18, Try.ntmps18
  go_wp2
  go_ret
  exact ⟨rfl, rfl⟩
set_option maxHeartbeats 1000000 in
set_option maxRecDepth 100000 in
theorem rNew_bad (w : World) (n : Int) (hn : ¬ (1 ≤ n ∧ n ≤ 8)) : Calls Try.prog 19 #[.int .i64 n] w fun e w' => e = .returned (.pointer none) ∧ w' = w := by
  by_cases h : n < 1
  · go_enter Try.func19, Try.ntmps19
    go_wp2
    go_ret
    exact ⟨rfl, rfl⟩
  · have h8 : 8 < n := by omega
    go_enter Try.func19, Try.ntmps19
    go_wp2
    go_ret
    exact ⟨rfl, rfl⟩
set_option maxHeartbeats 1000000 in
set_option maxRecDepth 100000 in
theorem rNew_ok (w : World) (n : Int) (hn : 1 ≤ n ∧ n ≤ 8) : Calls Try.prog 19 #[.int .i64 n] w fun e w' => e = .returned (.pointer (some ⟨w.heap.size, 0, none⟩)) ∧ w' = w.alloc (.cells #[.int .i64 n, .slice none 0 0, .slice none 0 0] 94) := by
  obtain ⟨h1, h2⟩ := hn
  go_enter Try.func19, Try.ntmps19
  go_wp2
  go_ret
  exact ⟨rfl, rfl⟩
end Go.Proofs.Ytcmcgjjhbjlkpaa.Air
