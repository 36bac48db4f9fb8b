import Derived.Test.YtcmcgjjhbjlkpaaAirS
namespace Go.Proofs.Ytcmcgjjhbjlkpaa.Air
open Go.RowKit Go.Proofs.YtcmcgjjhbjlkpaaW.PrintWords Go.Proofs.YtcmcgjjhbjlkpaaW.PrintLast Go.Proofs.YtcmcgjjhbjlkpaaW.PrintMore
set_option linter.unusedVariables false
set_option linter.unusedSimpArgs false
/-- A block that no object has: the act's own. -/
def Far (w0 w : World) (ga gr : Nat) (vma vta vmr vtr : Value) (b : Nat) : Prop := b < w.heap.size ∧ ¬ Foot ga vma vta b ∧ ¬ Foot gr vmr vtr b
theorem far_a {w w1 : World} {B t e g n' : Nat} {vm vt : Value} {n : Int} {ms : List Int} {ts : List (Int × Int)} (hL : Left w w1 B t e g vm vt n ms ts) {p : Addr} (hb : p.block < w.heap.size) (hf : ¬ Foot g vm vt p.block) {v : Value} (hc : w.cell? p = some v) : w1.cell? p = some v := by
  obtain ⟨_, _, _, h2, _⟩ := hL
  exact (World.cell?_of_block (w := w) (h2.block _ hb hf)).trans hc
section
variable {w0 w : World} {ga gr : Nat} {vma vta vmr vtr : Value} {n : Int} {msa msr : List Int} {tsa tsr : List (Int × Int)}
theorem EraseT (h : Two w0 w ga gr vma vta vmr vtr n msa tsa msr tsr) (x : Int) :
    Calls Try.prog 21 #[.pointer (some ⟨ga, 0, none⟩), .int .i64 x] w fun e w' => e = .returned (.int .i64 (eraseE n x msa)) ∧ (∀ (p : Addr) (v : Value), p.block < w.heap.size → ¬ Foot ga vma vta p.block → w.cell? p = some v → w'.cell? p = some v) ∧ ∃ vma' vta', Two w0 w' ga gr vma' vta' vmr vtr n (eraseL n x msa) (tsa) msr tsr := by
  refine (Erase w w0.heap.size ga vma vta n msa tsa x h.a h.b.size).mono ?_
  rintro e w' ⟨he, hL⟩
  exact ⟨he, fun p v hb hf hc => far_a (n' := 0) hL hb hf hc, h.stepA hL⟩
theorem rEraseT (h : Two w0 w ga gr vma vta vmr vtr n msa tsa msr tsr) (x : Int) :
    Calls Try.prog 22 #[.pointer (some ⟨gr, 0, none⟩), .int .i64 x] w fun e w' => e = .returned (.int .i64 (eraseE n x msr)) ∧ (∀ (p : Addr) (v : Value), p.block < w.heap.size → ¬ Foot gr vmr vtr p.block → w.cell? p = some v → w'.cell? p = some v) ∧ ∃ vmr' vtr', Two w0 w' ga gr vma vta vmr' vtr' n msa tsa (eraseL n x msr) (tsr) := by
  refine (rErase w w0.heap.size gr vmr vtr n msr tsr x h.r h.b.size).mono ?_
  rintro e w' ⟨he, hL⟩
  exact ⟨he, fun p v hb hf hc => far_a (n' := 0) hL hb hf hc, h.stepR hL⟩
theorem TurnT (h : Two w0 w ga gr vma vta vmr vtr n msa tsa msr tsr) (x y : Int) :
    Calls Try.prog 23 #[.pointer (some ⟨ga, 0, none⟩), .int .i64 x, .int .i64 y] w fun e w' => e = .returned (.int .i64 (turnE x y tsa)) ∧ (∀ (p : Addr) (v : Value), p.block < w.heap.size → ¬ Foot ga vma vta p.block → w.cell? p = some v → w'.cell? p = some v) ∧ ∃ vma' vta', Two w0 w' ga gr vma' vta' vmr vtr n (msa) (turnL x y tsa) msr tsr := by
  refine (Turn w w0.heap.size ga vma vta n msa tsa x y h.a h.b.size).mono ?_
  rintro e w' ⟨he, hL⟩
  exact ⟨he, fun p v hb hf hc => far_a (n' := 0) hL hb hf hc, h.stepA hL⟩
theorem rTurnT (h : Two w0 w ga gr vma vta vmr vtr n msa tsa msr tsr) (x y : Int) :
    Calls Try.prog 24 #[.pointer (some ⟨gr, 0, none⟩), .int .i64 x, .int .i64 y] w fun e w' => e = .returned (.int .i64 (turnE x y tsr)) ∧ (∀ (p : Addr) (v : Value), p.block < w.heap.size → ¬ Foot gr vmr vtr p.block → w.cell? p = some v → w'.cell? p = some v) ∧ ∃ vmr' vtr', Two w0 w' ga gr vma vta vmr' vtr' n msa tsa (msr) (turnL x y tsr) := by
  refine (rTurn w w0.heap.size gr vmr vtr n msr tsr x y h.r h.b.size).mono ?_
  rintro e w' ⟨he, hL⟩
  exact ⟨he, fun p v hb hf hc => far_a (n' := 0) hL hb hf hc, h.stepR hL⟩
end
end Go.Proofs.Ytcmcgjjhbjlkpaa.Air
