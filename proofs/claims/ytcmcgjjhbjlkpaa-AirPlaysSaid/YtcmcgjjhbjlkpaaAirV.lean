import Derived.Test.YtcmcgjjhbjlkpaaAirT
namespace Go.Proofs.Ytcmcgjjhbjlkpaa.Air
open Go.RowKit Go.Proofs.YtcmcgjjhbjlkpaaW.PrintWords Go.Proofs.YtcmcgjjhbjlkpaaW.PrintLast Go.Proofs.YtcmcgjjhbjlkpaaW.PrintMore
set_option linter.unusedVariables false
theorem k46_mk (w : World) (x : S46) : k46.K w x [.int .i64 x.f0, .int .i64 x.f1, .int .i64 x.f2, .string x.f3] :=
  ⟨[.int .i64 x.f0], [.int .i64 x.f1, .int .i64 x.f2, .string x.f3], rfl, rfl, ⟨[.int .i64 x.f1], [.int .i64 x.f2, .string x.f3], rfl, rfl, ⟨[.int .i64 x.f2], [.string x.f3], rfl, rfl, rfl⟩⟩⟩
theorem law (w : World) (n : Int) (A0 : Option Addr) (m c : Nat) (l : List S46) (hr : Kd.C k46 w A0 m l) :
    Calls Try.prog 6 #[.int .i64 n, .slice A0 m c] w fun e w' => e = .returned (.bool true) ∧ Below w.heap.size w w' := by
  by_cases hn : 1 ≤ n ∧ n ≤ 8
  · exact law_ok w n hn A0 m c l hr
  · exact law_bad w n hn A0 m c
end Go.Proofs.Ytcmcgjjhbjlkpaa.Air
