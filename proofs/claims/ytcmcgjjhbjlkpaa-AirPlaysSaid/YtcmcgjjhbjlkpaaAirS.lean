import Derived.Test.YtcmcgjjhbjlkpaaAirQ
namespace Go.Proofs.Ytcmcgjjhbjlkpaa.Air
open Go.RowKit Go.Proofs.YtcmcgjjhbjlkpaaW.PrintWords Go.Proofs.YtcmcgjjhbjlkpaaW.PrintLast Go.Proofs.YtcmcgjjhbjlkpaaW.PrintMore
set_option linter.unusedVariables false
set_option linter.unusedSimpArgs false
/-- Both objects, apart from each other, made since w0. -/
structure Two (w0 w : World) (ga gr : Nat) (vma vta vmr vtr : Value) (n : Int) (msa : List Int) (tsa : List (Int × Int)) (msr : List Int) (tsr : List (Int × Int)) : Prop where
  a : AirIs w w0.heap.size 91 99 ga vma vta n msa tsa
  r : AirIs w w0.heap.size 94 100 gr vmr vtr n msr tsr
  ap : ∀ k, Foot ga vma vta k → ¬ Foot gr vmr vtr k
  b : Below w0.heap.size w0 w
section
variable {w0 w w1 : World} {ga gr : Nat} {vma vta vmr vtr : Value} {n : Int} {msa msr ms' : List Int} {tsa tsr ts' : List (Int × Int)}
theorem Two.stepA (h : Two w0 w ga gr vma vta vmr vtr n msa tsa msr tsr) (hL : Left w w1 w0.heap.size 91 99 ga vma vta n ms' ts') : ∃ vma' vta', Two w0 w1 ga gr vma' vta' vmr vtr n ms' ts' msr tsr := by
  obtain ⟨vm', vt', h1, h2, h3⟩ := hL
  refine ⟨vm', vt', h1, h.r.move h2 (fun i hi ha => h.ap i ha hi), fun k hk hr => ?_, h.b.trans ⟨h2.os, h2.tape, h2.output, h2.size, fun k hk => h2.block k (by have := h.b.size; omega) (fun hf => ?_)⟩⟩
  · rcases h3 k hk with h4 | h4
    · exact h.ap k h4 hr
    · have := h.r.foot_lt k hr
      omega
  · have := h.a.foot_base k hf
    omega
theorem Two.stepR (h : Two w0 w ga gr vma vta vmr vtr n msa tsa msr tsr) (hL : Left w w1 w0.heap.size 94 100 gr vmr vtr n ms' ts') : ∃ vmr' vtr', Two w0 w1 ga gr vma vta vmr' vtr' n msa tsa ms' ts' := by
  obtain ⟨vm', vt', h1, h2, h3⟩ := hL
  refine ⟨vm', vt', h.a.move h2 (fun i hi hr => h.ap i hi hr), h1, fun k hk hr => ?_, h.b.trans ⟨h2.os, h2.tape, h2.output, h2.size, fun k hk => h2.block k (by have := h.b.size; omega) (fun hf => ?_)⟩⟩
  · rcases h3 k hr with h4 | h4
    · exact h.ap k hk h4
    · have := h.a.foot_lt k hk
      omega
  · have := h.r.foot_base k hf
    omega
theorem Two.below (h : Two w0 w ga gr vma vta vmr vtr n msa tsa msr tsr) (hB : Below w.heap.size w w1) : Two w0 w1 ga gr vma vta vmr vtr n msa tsa msr tsr :=
  ⟨h.a.below hB, h.r.below hB, h.ap, h.b.trans (hB.mono h.b.size)⟩
end
theorem two_new (w : World) (n : Int) (hn : 1 ≤ n ∧ n ≤ 8) : Two w ((w.alloc (.cells #[.int .i64 n, .slice none 0 0, .slice none 0 0] 91)).alloc (.cells #[.int .i64 n, .slice none 0 0, .slice none 0 0] 94)) w.heap.size (w.heap.size + 1) (.slice none 0 0) (.slice none 0 0) (.slice none 0 0) (.slice none 0 0) n [] [] [] [] := by
  have ha := air_new w w.heap.size 91 99 n hn (Nat.le_refl _)
  have hr := air_new (w.alloc (.cells #[.int .i64 n, .slice none 0 0, .slice none 0 0] 91)) w.heap.size 94 100 n hn (by simp)
  rw [World.size_alloc] at hr
  refine ⟨ha.below ((Below.refl _ _).alloc (Nat.le_refl _) _), hr, fun k hk hf => ?_, ((Below.refl _ w).alloc (Nat.le_refl _) _).alloc (by simp) _⟩
  rcases hk with rfl | hk | hk
  · rcases hf with hf | hf | hf
    · omega
    · simp [Value.ownBlock] at hf
    · simp [Value.ownBlock] at hf
  · simp [Value.ownBlock] at hk
  · simp [Value.ownBlock] at hk
end Go.Proofs.Ytcmcgjjhbjlkpaa.Air
