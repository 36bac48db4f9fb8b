import Derived.Test.YtcmcgjjhbjlkpaaAirO
namespace Go.Proofs.Ytcmcgjjhbjlkpaa.Air
open Go.RowKit Go.Proofs.YtcmcgjjhbjlkpaaW.PrintWords Go.Proofs.YtcmcgjjhbjlkpaaW.PrintLast Go.Proofs.YtcmcgjjhbjlkpaaW.PrintMore
set_option linter.unusedVariables false
set_option linter.unusedSimpArgs false
theorem Left.below {w w1 w2 : World} {B t e g : Nat} {vm vt : Value} {n : Int} {ms ms' : List Int} {ts ts' : List (Int × Int)} (hB : Below B w w1) (h : AirIs w1 B t e g vm vt n ms ts) (hL : Left w1 w2 B t e g vm vt n ms' ts') (hs : B ≤ w1.heap.size) :
    Below B w w2 ∧ ∃ vm' vt', AirIs w2 B t e g vm' vt' n ms' ts' := by
  obtain ⟨vm', vt', h1, h2, h3⟩ := hL
  refine ⟨hB.trans ⟨h2.os, h2.tape, h2.output, h2.size, fun k hk => h2.block k (by omega) (fun hf => ?_)⟩, vm', vt', h1⟩
  have := h.foot_base k hf
  omega
set_option maxHeartbeats 4000000 in
set_option maxRecDepth 100000 in
theorem works (w : World) : Calls Try.prog 20 #[] w fun e w' => e = .returned (.bool true) ∧ Below w.heap.size w w' := by
  go_enter Try.func20, Try.ntmps20
  go_wp2_with fail
  refine (New_ok w 2 (by decide)).mono ?_
  rintro e w1 ⟨rfl, rfl⟩
  have HA0 := Aside0.mk (air_new w w.heap.size 91 99 2 (by decide) (Nat.le_refl _))
  have HB0 := Aside0.mk ((Below.refl w.heap.size w).alloc (Nat.le_refl _) (.cells #[.int .i64 2, .slice none 0 0, .slice none 0 0] 91))
  obtain ⟨g, eg⟩ : ∃ g, g = w.heap.size := ⟨_, rfl⟩
  have HG := Aside0.mk eg
  obtain ⟨W0, eW⟩ : ∃ W0, W0 = w.alloc (.cells #[.int .i64 2, .slice none 0 0, .slice none 0 0] 91) := ⟨_, rfl⟩
  rw [← eW] at HA0 HB0 ⊢
  clear eW
  obtain ⟨vm0, em⟩ : ∃ v : Value, v = .slice none 0 0 := ⟨_, rfl⟩
  rw [← em, ← eg] at HA0
  rw [← eg]
  clear em
  obtain ⟨vt0, et⟩ : ∃ v : Value, v = vm0 := ⟨_, rfl⟩
  have HA0 : Aside0 (AirIs W0 g 91 99 g vm0 vt0 2 [] []) := by rw [et]; exact HA0
  have HB0 : Aside0 (Below g w W0) := ⟨by rw [HG.out]; exact HB0.out⟩
  clear et eg
  go_wp2_with fail
  refine (Erase W0 g g _ _ 2 [] [] 2 HA0.out (Nat.le_of_lt HA0.out.size)).mono ?_
  rintro e W1 ⟨rfl, hL⟩
  obtain ⟨hB, vm1, vt1, hA⟩ := Left.below (ms' := [2]) (ts' := []) HB0.out HA0.out hL (Nat.le_of_lt HA0.out.size)
  have HA1 := Aside0.mk hA
  have HB1 := Aside0.mk hB
  clear hA hB hL HA0 HB0
  go_wp2_with fail
  refine (Erase W1 g g _ _ 2 [2] [] 0 HA1.out (Nat.le_of_lt HA1.out.size)).mono ?_
  rintro e W2 ⟨rfl, hL⟩
  obtain ⟨hB, vm2, vt2, hA⟩ := Left.below (ms' := [2, 0]) (ts' := []) HB1.out HA1.out hL (Nat.le_of_lt HA1.out.size)
  have HA2 := Aside0.mk hA
  have HB2 := Aside0.mk hB
  clear hA hB hL HA1 HB1
  go_wp2_with fail
  refine (Erase W2 g g _ _ 2 [2, 0] [] 4 HA2.out (Nat.le_of_lt HA2.out.size)).mono ?_
  rintro e W3 ⟨rfl, hL⟩
  obtain ⟨hB, vm3, vt3, hA⟩ := Left.below (ms' := [2, 0]) (ts' := []) HB2.out HA2.out hL (Nat.le_of_lt HA2.out.size)
  have HA3 := Aside0.mk hA
  have HB3 := Aside0.mk hB
  clear hA hB hL HA2 HB2
  go_wp2_with fail
  refine (Turn W3 g g _ _ 2 [2, 0] [] 4 3 HA3.out (Nat.le_of_lt HA3.out.size)).mono ?_
  rintro e W4 ⟨rfl, hL⟩
  obtain ⟨hB, vm4, vt4, hA⟩ := Left.below (ms' := [2, 0]) (ts' := [(4, 3)]) HB3.out HA3.out hL (Nat.le_of_lt HA3.out.size)
  have HA4 := Aside0.mk hA
  have HB4 := Aside0.mk hB
  clear hA hB hL HA3 HB3
  go_wp2_with fail
  refine (Turn W4 g g _ _ 2 [2, 0] [(4, 3)] 73 1 HA4.out (Nat.le_of_lt HA4.out.size)).mono ?_
  rintro e W5 ⟨rfl, hL⟩
  obtain ⟨hB, vm5, vt5, hA⟩ := Left.below (ms' := [2, 0]) (ts' := [(4, 3)]) HB4.out HA4.out hL (Nat.le_of_lt HA4.out.size)
  have HA5 := Aside0.mk hA
  have HB5 := Aside0.mk hB
  clear hA hB hL HA4 HB4
  go_wp2_with fail
  refine (passes_true W5 g g _ _ 2 [2, 0] [(4, 3)] ⟨#[0, 0]⟩ HA5.out (Nat.le_of_lt HA5.out.size) (by intro t ht; simp at ht; subst ht; rfl) (by decide) ⟨#[12, 0]⟩ 2 true (by kernel_rfl) rfl rfl).mono ?_
  rintro e W6 ⟨rfl, hL⟩
  obtain ⟨hB, vm6, vt6, hA⟩ := Left.below (ms' := [0]) (ts' := []) HB5.out HA5.out hL (Nat.le_of_lt HA5.out.size)
  have HA6 := Aside0.mk hA
  have HB6 := Aside0.mk hB
  clear hA hB hL HA5 HB5
  go_wp2_with fail
  refine (passes_true W6 g g _ _ 2 [0] [] ⟨#[0]⟩ HA6.out (Nat.le_of_lt HA6.out.size) TB_nil (by decide) ⟨#[0]⟩ 0 false rfl rfl rfl).mono ?_
  rintro e W7 ⟨rfl, hL⟩
  obtain ⟨hB, vm7, vt7, hA⟩ := Left.below (ms' := []) (ts' := []) HB6.out HA6.out hL (Nat.le_of_lt HA6.out.size)
  have HA7 := Aside0.mk hA
  have HB7 := Aside0.mk hB
  clear hA hB hL HA6 HB6
  go_wp2_with fail
  refine (passes_true W7 g g _ _ 2 [] [] ⟨#[0]⟩ HA7.out (Nat.le_of_lt HA7.out.size) TB_nil (by decide) ⟨#[0]⟩ 0 false rfl rfl rfl).mono ?_
  rintro e W8 ⟨rfl, hL⟩
  obtain ⟨hB, vm8, vt8, hA⟩ := Left.below (ms' := []) (ts' := []) HB7.out HA7.out hL (Nat.le_of_lt HA7.out.size)
  have HA8 := Aside0.mk hA
  have HB8 := Aside0.mk hB
  clear hA hB hL HA7 HB7
  go_wp2
  go_ret
  exact ⟨by simp, by rw [← HG.out]; exact HB8.out⟩
end Go.Proofs.Ytcmcgjjhbjlkpaa.Air
