/- How an argument that is a slice of plain structs is opened: what its elements' cells say. No program. -/
import Derived.Test.YtcmcgjjhbjlkpaaWWords
import Derived.Deep.Slices
import Derived.ProofKit
set_option linter.unusedVariables false
set_option linter.unusedSimpArgs false
namespace Go.Proofs.Ytcmcgjjhbjlkpaa.Op
open Go.RowKit Go.Deep Go.Proofs.YtcmcgjjhbjlkpaaW.PrintWords
section
variable {H : Type} {enc : TypeId × Value → H} {P : Program} {w : World} {base : Nat} {spare : Nat → Bool} {held : Bool}
theorem add_add (a : Addr) (m n : Nat) : (a.add m).add n = a.add (m + n) := by
  unfold Addr.add
  by_cases hm : m = 0 <;> by_cases hn : n = 0 <;> simp [hm, hn, Nat.add_assoc]
theorem open_rows {α : Type} (d : Kd α) (Wf : α → Prop) {t e : TypeId} (ht : P.underlying t = some (.slice e)) (hc : P.cellsOf e = d.sz)
    (helem : ∀ (n : Nat) (cs' : List Value) (y : DataW H × List MemPlace), DataW.trod enc P w base spare held n e cs' = some y → cs'.length = d.sz → ∃ x : α, d.K w x cs' ∧ Wf x)
    {fuel : Nat} {A : Option Addr} {len cap : Nat} {x : DataW H × List MemPlace} (h : DataW.trod enc P w base spare held fuel t [.slice A len cap] = some x) :
    ∃ xs : List α, xs.length = len ∧ len ≤ cap ∧ cap ≤ maxLen ∧ d.C w A len xs ∧ ∀ x ∈ xs, Wf x := by
  rcases open_slice ht h with ⟨hcs, _⟩ | ⟨a, len', cap', m, n, D, Pl, hcs, hb, hl, hm, hmm, _, hx⟩
  · simp at hcs
    obtain ⟨rfl, rfl, rfl⟩ := hcs
    exact ⟨[], rfl, Nat.le_refl _, Nat.zero_le _, ⟨rfl, Nat.zero_le _, fun h => absurd h (Nat.lt_irrefl _)⟩, by simp⟩
  · simp only [List.cons.injEq, Value.slice.injEq, and_true] at hcs
    obtain ⟨rfl, rfl, rfl⟩ := hcs
    have hlm : len ≤ m := by rw [hmm]; split <;> omega
    have key : ∀ k, k ≤ len → ∃ xs : List α, xs.length = k ∧ (∀ x ∈ xs, Wf x) ∧ ∀ j p, xs[j]? = some p → ∃ c, c.length = d.sz ∧ d.K w p c ∧ ∀ i u, c[i]? = some u → w.cell? (a.add (j * d.sz + i)) = some u := by
      intro k
      induction k with
      | zero => exact fun _ => ⟨[], rfl, by simp, fun j p hj => by simp at hj⟩
      | succ k ih =>
        intro hk
        obtain ⟨xs, hxl, hxw, hxs⟩ := ih (by omega)
        obtain ⟨cs', h1, h2⟩ := hx k (by omega)
        obtain ⟨_, hlen, hcell⟩ := World.cells?_some h1
        rw [hc] at hlen hcell
        obtain ⟨p, hp, hw⟩ := helem n cs' _ h2 hlen
        refine ⟨xs ++ [p], by simp [hxl], fun x hx => ?_, fun j q hj => ?_⟩
        · rcases List.mem_append.1 hx with hx | hx
          · exact hxw x hx
          · rw [List.mem_singleton.1 hx]; exact hw
        · rcases Nat.lt_or_ge j xs.length with hlt | hge
          · rw [List.getElem?_append_left hlt] at hj
            exact hxs j q hj
          · have hj' : j = xs.length := by
              have := (List.getElem?_eq_some_iff.1 hj).1
              simp at this
              omega
            subst hj'
            have hq : p = q := by simpa using hj
            subst hq
            refine ⟨cs', hlen, hp, fun i u hu => ?_⟩
            have hi : i < d.sz := by rw [← hlen]; exact (List.getElem?_eq_some_iff.1 hu).1
            rw [hxl]
            rw [← add_add, hcell i hi]
            exact hu
    obtain ⟨xs, hxl, hxw, hxs⟩ := key len (Nat.le_refl _)
    exact ⟨xs, hxl, hl, hm, ⟨hxl, by unfold maxLen at hm; omega, fun _ => ⟨a, rfl, hxs⟩⟩, hxw⟩
end
end Go.Proofs.Ytcmcgjjhbjlkpaa.Op
