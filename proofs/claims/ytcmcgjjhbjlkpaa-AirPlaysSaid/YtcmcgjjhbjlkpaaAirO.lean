import Derived.Test.YtcmcgjjhbjlkpaaAirN
namespace Go.Proofs.Ytcmcgjjhbjlkpaa.Air
open Go.RowKit Go.Proofs.YtcmcgjjhbjlkpaaW.PrintWords Go.Proofs.YtcmcgjjhbjlkpaaW.PrintLast Go.Proofs.YtcmcgjjhbjlkpaaW.PrintMore
set_option linter.unusedVariables false
set_option linter.unusedSimpArgs false
set_option maxHeartbeats 2000000 in
set_option maxRecDepth 100000 in
theorem passes_true (w : World) (base g : Nat) (vm vt : Value) (n : Int) (ms : List Int) (ts : List (Int × Int)) (s : ByteArray) (h : AirIs w base 91 99 g vm vt n ms ts) (hbase : base ≤ w.heap.size) (htb : TB ts) (hs : s.size ≤ 1000) (want : ByteArray) (lost : Int) (turned : Bool)
    (h1 : passS ts s = want) (h2 : ms.headD 0 = lost) (h3 : (!ts.isEmpty) = turned) :
    Calls Try.prog 46 #[.pointer (some ⟨g, 0, none⟩), .string s, .string want, .int .i64 lost, .bool turned] w fun e w' => e = .returned (.bool true) ∧ Left w w' base 91 99 g vm vt n ms.tail ts.tail := by
  have hP := Pass w base g vm vt n ms ts s h hbase htb hs
  rw [h1, h2, h3] at hP
  have HP := Aside0.mk hP
  clear hP h htb h1 h2 h3
  go_enter Try.func46, Try.ntmps46
  go_wp2_with fail
  refine HP.out.mono ?_
  rintro e w1 ⟨rfl, hL⟩
  have HL := Aside0.mk hL
  clear hL HP
  go_wp2
  go_ret
  exact ⟨by simp, HL.out⟩
theorem TB_nil : TB [] := fun _ h => by cases h
theorem TB_put {a m : Int} {ts : List (Int × Int)} (h : TB ts) : TB (turnL a m ts) := by
  unfold turnL
  split
  · rename_i hb
    unfold putL
    split
    · exact h
    · intro t ht
      rcases List.mem_append.1 ht with ht | ht
      · exact h t ht
      · simp at ht
        subst ht
        exact hb
  · exact h
theorem TB_tail {ts : List (Int × Int)} (h : TB ts) : TB ts.tail := fun t ht => h t (List.mem_of_mem_tail ht)
end Go.Proofs.Ytcmcgjjhbjlkpaa.Air
