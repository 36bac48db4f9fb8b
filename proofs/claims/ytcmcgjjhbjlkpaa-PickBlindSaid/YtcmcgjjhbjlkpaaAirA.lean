import Derived.Test.YtcmcgjjhbjlkpaaProg
import Derived.Below
import Derived.Deep.Draws
import Derived.Deep.AppendLies
import Derived.Maps.AppendAt
import Derived.OwnWalk
import Derived.Laws.BytesArg
import Derived.Laws.MakeOwn
import Derived.Laws.OwnMore
import Derived.Deep.OwnRows
import Derived.Tactics
import Derived.Lib.ConvBytes
import Derived.Laws.Slices
import Derived.WalkKit
import Derived.KernelRfl
import Derived.RowKit3
import Derived.Deep.LoopGhost
import Derived.Deep.QuietTactic
import Derived.BigQuiet
import Derived.WideLaws
import Derived.Deep.DeepCutAuto
import Derived.Deep.CutBlock
import Derived.Deep.RegionHeld3
import Derived.Laws.Rows
import Derived.Lib.AppendStr
import Derived.ArgAppend
import Derived.Laws.IdiomCopy
import Derived.OrdersHeld
import Derived.Laws.BitsLemmas
import Derived.RowKit
import Derived.Test.YtcmcgjjhbjlkpaaWWords
import Derived.Test.YtcmcgjjhbjlkpaaWLast
import Derived.Test.YtcmcgjjhbjlkpaaWTab
import Derived.Test.YtcmcgjjhbjlkpaaWFour
import Derived.Test.YtcmcgjjhbjlkpaaWQPut
import Derived.Test.YtcmcgjjhbjlkpaaWApart
import Derived.Test.YtcmcgjjhbjlkpaaWArr
import Derived.Test.YtcmcgjjhbjlkpaaWZeros
import Derived.Test.YtcmcgjjhbjlkpaaWFoot
import Derived.Test.YtcmcgjjhbjlkpaaWKept
import Derived.Test.YtcmcgjjhbjlkpaaWShare
import Derived.Test.YtcmcgjjhbjlkpaaWN
import Derived.Test.YtcmcgjjhbjlkpaaWFootNe
import Derived.Test.YtcmcgjjhbjlkpaaWAt
import Derived.Test.YtcmcgjjhbjlkpaaWEqStruct
import Derived.Test.YtcmcgjjhbjlkpaaWRepsOne
import Derived.Test.YtcmcgjjhbjlkpaaWInv
import Derived.Test.YtcmcgjjhbjlkpaaWInvWords
import Derived.Test.YtcmcgjjhbjlkpaaWGuard
import Derived.Test.YtcmcgjjhbjlkpaaWNEv
import Derived.Test.YtcmcgjjhbjlkpaaWMore
import Derived.RegionTactic
import Derived.ChangeAlike
import Derived.BigRegion
import Derived.Deep.RegionLaw
import Derived.StillTailTactics
namespace Go.Proofs.Ytcmcgjjhbjlkpaa.Air
open Go.RowKit Go.Proofs.YtcmcgjjhbjlkpaaW.PrintWords Go.Proofs.YtcmcgjjhbjlkpaaW.PrintLast Go.Proofs.YtcmcgjjhbjlkpaaW.PrintMore
set_option linter.unusedVariables false
set_option linter.unusedSimpArgs false

/-! ### What a call may touch -/
structure Keep (w w' : World) (S : Nat → Prop) : Prop where
  os : w'.os = w.os
  tape : w'.tape = w.tape
  output : w'.output = w.output
  size : w.heap.size ≤ w'.heap.size
  block : ∀ k, k < w.heap.size → ¬ S k → w'.heap[k]? = w.heap[k]?
theorem Keep.refl (w : World) (S : Nat → Prop) : Keep w w S := ⟨rfl, rfl, rfl, Nat.le_refl _, fun _ _ _ => rfl⟩
theorem Keep.trans {w w1 w2 : World} {S T : Nat → Prop} (h : Keep w w1 S) (k : Keep w1 w2 T) (hT : ∀ i, T i → S i ∨ w.heap.size ≤ i) : Keep w w2 S :=
  ⟨k.os.trans h.os, k.tape.trans h.tape, k.output.trans h.output, Nat.le_trans h.size k.size, fun i hi hn => (k.block i (Nat.lt_of_lt_of_le hi h.size) (fun ht => (hT i ht).elim hn (fun hl => by omega))).trans (h.block i hi hn)⟩
theorem Keep.mono {w w1 : World} {S T : Nat → Prop} (h : Keep w w1 S) (hT : ∀ i, S i → T i ∨ w.heap.size ≤ i) : Keep w w1 T := (Keep.refl w T).trans h hT
theorem Keep.alloc {w w1 : World} {S : Nat → Prop} (h : Keep w w1 S) (o : Obj) : Keep w (w1.alloc o) S :=
  h.trans (T := fun _ => False) ⟨rfl, rfl, rfl, by rw [World.size_alloc]; omega, fun k hk _ => Below.heap_alloc w1 o k hk⟩ (fun _ h => h.elim)
theorem Keep.below {w w1 : World} {S : Nat → Prop} (h : Below w.heap.size w w1) : Keep w w1 S := ⟨h.os, h.tape, h.output, h.size, fun k hk _ => h.block k hk⟩
theorem Keep.toBelow {w w1 : World} (h : Keep w w1 (fun _ => False)) : Below w.heap.size w w1 := ⟨h.os, h.tape, h.output, h.size, fun k hk => h.block k hk id⟩
theorem Keep.grown {w w1 w2 : World} {S : Nat → Prop} (h : Keep w w1 S) {row : Option Nat} (hg : w1.grownBy w2 row) (hr : ∀ k, row = some k → S k ∨ w.heap.size ≤ k) : Keep w w2 S :=
  h.trans (T := fun k => row = some k) ⟨hg.os, hg.tape, hg.output, hg.size, fun k hk hn => hg.block k hk (fun e => hn e.symm)⟩ hr
theorem Keep.set {w w1 : World} {S : Nat → Prop} (h : Keep w w1 S) (p : Addr) (u : Value) (hp : S p.block ∨ w.heap.size ≤ p.block) : Keep w (w1.setCell p u) S :=
  h.trans (T := fun k => k = p.block) ⟨rfl, rfl, rfl, by simp [World.setCell], fun k hk hn => Below.heap_setCell w1 p u k hn⟩ (fun k e => by rw [e]; exact hp)
theorem Keep.drew {w w1 : World} {S : Nat → Prop} (h : Keep w w1 S) : Keep w w1.drew S :=
  h.trans (T := fun _ => False) ⟨rfl, rfl, rfl, Nat.le_refl _, fun k hk _ => rfl⟩ (fun _ h => h.elim)
theorem Keep.drewN {w w1 : World} {S : Nat → Prop} (h : Keep w w1 S) (n : Nat) : Keep w (w1.drewN n) S :=
  h.trans (T := fun _ => False) ⟨rfl, rfl, rfl, Nat.le_refl _, fun k hk _ => rfl⟩ (fun _ h => h.elim)

/-! ### A row that grows behind and is cut in front: append of one thing -/
section
variable {P : Program} {ops : Array Oper} {rest : List Oper} {o : Oper} {a : Act} {Q' : Exit → Act → World → Prop}
theorem q_put {W : World} (base : Nat) (hgd : o.guard = none) (s x : Operand) (t e : TypeId) (z : Value) (size bytes : Nat)
    (ho : o.op = .call { callee := .builtin .append, args := #[s, x], argTypes := #[t, t] })
    (ht : P.underlying t = some (.slice e)) (hinfo : (P.info? e).map (fun i => (i.zero, i.size, i.bytes)) = some (some z, size, bytes)) (hz : z.cells.size = size) (hs0 : 0 < size) (hb0 : 0 < bytes)
    (v : Value) (n : Nat) (xs cs : List Value) (hs : a.eval s = v) (hx : a.eval x = .slice (some ⟨W.heap.size, 0, none⟩) 1 1) (hcs : cs.length = size) (h1 : ∀ u ∈ cs, u.oneCell' = true)
    (HO : QRow W base e size v n xs) (hbase : base ≤ W.heap.size) (hl : (n + 1) * bytes ≤ 140737488355328)
    (h : ∀ v1 w1, QRow w1 base e size v1 (n + 1) (xs ++ cs) → W.grownBy w1 v.ownBlock → (v1.ownBlock = v.ownBlock ∨ ∃ b, v1.ownBlock = some b ∧ W.heap.size ≤ b) → wpList P ops Q' rest (a.put o.dst v1) w1) :
    wpList P ops Q' (o :: rest) a (W.alloc (.cells cs.toArray e)) := by
  obtain ⟨i0, hi, hzz⟩ := Option.map_eq_some_iff.1 hinfo
  simp only [Prod.mk.injEq] at hzz
  obtain ⟨hz0, hz1, hz2⟩ := hzz
  have hlen : n + 1 ≤ 140737488355328 := Nat.le_trans (Nat.le_mul_of_pos_right _ hb0) hl
  have hq : QRow (W.alloc (.cells cs.toArray e)) base e size v n xs := q_move HO (fun k hk => Below.heap_alloc W _ k (q_lt HO k hk))
  obtain ⟨v1, w1, hr, hq1, hg1, hat⟩ := q_append (P := P) (W.alloc (.cells cs.toArray e)) base t o.type e i0 z size bytes ht hi hz0 hz1 hz2 hz hs0 v n xs hq ⟨W.heap.size, 0, none⟩ 1 1 cs (by rw [hcs, Nat.one_mul])
    (by simpa using World.news_of_block (cs := cs.toArray) (t := e) (fr := (0, 0)) (heap_alloc_new W (.cells cs.toArray e))) h1 (by omega) (by simp only [maxLen]; omega) hl (by simp; omega)
  have hg : W.grownBy w1 v.ownBlock := World.grownBy.trans (World.grownBy_alloc W _ _) hg1
  have hat' : v1.ownBlock = v.ownBlock ∨ ∃ b, v1.ownBlock = some b ∧ W.heap.size ≤ b := by
    rcases hat with hat | ⟨b, hb, hle⟩
    · exact .inl hat
    · exact .inr ⟨b, hb, by rw [World.size_alloc] at hle; omega⟩
  refine wpList_plain hgd fun K hK => ?_
  unfold Oper.wp execOp
  simp only [ho, resolve, invoke, builtin, Sem.run_bind, Sem.run_pure, Result.andThen_ok, List.map_toArray, List.map_cons, List.map_nil, hs, hx, hr]
  exact hK _ _ (h v1 w1 hq1 hg hat')
variable {Kc : Act → World → Prop} {E : Prop}
theorem q_put_step {W : World} (base : Nat) (hw : Region.wanted o (yielded ops a.tmps) = true) (s x : Operand) (t e : TypeId) (z : Value) (size bytes : Nat)
    (ho : o.op = .call { callee := .builtin .append, args := #[s, x], argTypes := #[t, t] })
    (ht : P.underlying t = some (.slice e)) (hinfo : (P.info? e).map (fun i => (i.zero, i.size, i.bytes)) = some (some z, size, bytes)) (hz : z.cells.size = size) (hs0 : 0 < size) (hb0 : 0 < bytes)
    (v : Value) (n : Nat) (xs cs : List Value) (hs : a.eval s = v) (hx : a.eval x = .slice (some ⟨W.heap.size, 0, none⟩) 1 1) (hcs : cs.length = size) (h1 : ∀ u ∈ cs, u.oneCell' = true)
    (HO : QRow W base e size v n xs) (hbase : base ≤ W.heap.size) (hl : (n + 1) * bytes ≤ 140737488355328)
    (h : ∀ v1 w1, QRow w1 base e size v1 (n + 1) (xs ++ cs) → W.grownBy w1 v.ownBlock → (v1.ownBlock = v.ownBlock ∨ ∃ b, v1.ownBlock = some b ∧ W.heap.size ≤ b) → Kc (a.put o.dst v1) w1) :
    if Region.wanted o (yielded ops a.tmps) = true then Oper.wp P o a (W.alloc (.cells cs.toArray e)) Kc Q' else E := by
  obtain ⟨i0, hi, hzz⟩ := Option.map_eq_some_iff.1 hinfo
  simp only [Prod.mk.injEq] at hzz
  obtain ⟨hz0, hz1, hz2⟩ := hzz
  have hlen : n + 1 ≤ 140737488355328 := Nat.le_trans (Nat.le_mul_of_pos_right _ hb0) hl
  have hq : QRow (W.alloc (.cells cs.toArray e)) base e size v n xs := q_move HO (fun k hk => Below.heap_alloc W _ k (q_lt HO k hk))
  obtain ⟨v1, w1, hr, hq1, hg1, hat⟩ := q_append (P := P) (W.alloc (.cells cs.toArray e)) base t o.type e i0 z size bytes ht hi hz0 hz1 hz2 hz hs0 v n xs hq ⟨W.heap.size, 0, none⟩ 1 1 cs (by rw [hcs, Nat.one_mul])
    (by simpa using World.news_of_block (cs := cs.toArray) (t := e) (fr := (0, 0)) (heap_alloc_new W (.cells cs.toArray e))) h1 (by omega) (by simp only [maxLen]; omega) hl (by simp; omega)
  have hg : W.grownBy w1 v.ownBlock := World.grownBy.trans (World.grownBy_alloc W _ _) hg1
  have hat' : v1.ownBlock = v.ownBlock ∨ ∃ b, v1.ownBlock = some b ∧ W.heap.size ≤ b := by
    rcases hat with hat | ⟨b, hb, hle⟩
    · exact .inl hat
    · exact .inr ⟨b, hb, by rw [World.size_alloc] at hle; omega⟩
  rw [if_pos hw]
  unfold Oper.wp execOp
  simp only [ho, resolve, invoke, builtin, Sem.run_bind, Sem.run_pure, Result.andThen_ok, List.map_toArray, List.map_cons, List.map_nil, hs, hx, hr]
  exact h v1 w1 hq1 hg hat'
end

/-! ### An object's cell that holds a row -/
/-- Cell j of block g, a block of type t, holds v. -/
def Cellv (w : World) (g t j : Nat) (cs : Array Value) (v : Value) : Prop := w.heap[g]? = some (.cells cs t (0, 0)) ∧ cs[j]? = some v
theorem Cellv.cell {w : World} {g t j : Nat} {cs : Array Value} {v : Value} (h : Cellv w g t j cs v) : w.cell? ⟨g, j, none⟩ = some v := by
  rw [cell_of_row w g _ cs t (0, 0) h.1]; exact h.2
theorem Cellv.frozen {w : World} {g t j : Nat} {cs : Array Value} {v : Value} (h : Cellv w g t j cs v) : w.frozen? ⟨g, j, none⟩ = false := blk_frozen h.1 _
theorem Cellv.lt {w : World} {g t j : Nat} {cs : Array Value} {v : Value} (h : Cellv w g t j cs v) : g < w.heap.size := (Array.getElem?_eq_some_iff.1 h.1).1
theorem Cellv.move {w w1 : World} {g t j : Nat} {cs : Array Value} {v : Value} (h : Cellv w g t j cs v) {S : Nat → Prop} (k : Keep w w1 S) (hS : ¬ S g) : Cellv w1 g t j cs v := ⟨(k.block g h.lt hS).trans h.1, h.2⟩
theorem Cellv.set {w : World} {g t j : Nat} {cs : Array Value} {v : Value} (h : Cellv w g t j cs v) (u : Value) : Cellv (w.setCell ⟨g, j, none⟩ u) g t j (cs.setIfInBounds j u) u :=
  ⟨blk_set h.1 j u, by have := (Array.getElem?_eq_some_iff.1 h.2).1; simp [this]⟩
/-- Block g, of another type than the row's, is not the row's. -/
theorem apart {w : World} {g t j base e size n : Nat} {cs : Array Value} {u v : Value} {xs : List Value} (h : Cellv w g t j cs u) (hq : QRow w base e size v n xs) (hne : e ≠ t) : v.ownBlock ≠ some g := by
  intro he
  obtain ⟨_, cells, hc⟩ := q_typed hq g he
  rw [h.1] at hc
  injection hc with hc
  injection hc with _ hc
  exact hne hc.symm
theorem q_keep {w w1 : World} {base e size n : Nat} {v : Value} {xs : List Value} (h : QRow w base e size v n xs) {S : Nat → Prop} (k : Keep w w1 S) (hS : ∀ i, v.ownBlock = some i → ¬ S i) : QRow w1 base e size v n xs :=
  q_move h (fun i hi => k.block i (q_lt h i hi) (hS i hi))
def putL {α : Type} (x : α) (xs : List α) : List α := if 4096 ≤ xs.length then xs else xs ++ [x]
def putE {α : Type} (xs : List α) : Int := if 4096 ≤ xs.length then 6 else 0
end Go.Proofs.Ytcmcgjjhbjlkpaa.Air
