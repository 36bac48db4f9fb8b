/- The walk's laws on maps whose keys are pairs of ints: a look-up, a store, m[k] = append(m[k], x). No program. -/
import Derived.Test.YtcmcgjjhbjlkpaaKmap
import Derived.WalkKit
import Derived.Maps.AppendAt
set_option linter.unusedVariables false
set_option linter.unusedSimpArgs false
namespace Go.Proofs.Ytcmcgjjhbjlkpaa.Km
open Go.RowKit
open Go.ChangeMaps (setBlock heap_setBlock_same heap_setBlock_other)

/-- Block b alone has turned (what was a map is a map). -/
structure OneBlock (w w1 : World) (b : Nat) : Prop where
  grown : w.grownBy w1 (some b)
  size : w1.heap.size = w.heap.size
  cell : ∀ a : Addr, a.block ≠ b → w1.cell? a = w.cell? a
theorem oneBlock_set {w : World} {b : Nat} {es es' : Array MapEntry} {c c' : Nat} (h : w.heap[b]? = some (.map es c)) : OneBlock w (setBlock w b (.map es' c')) b := by
  refine ⟨⟨rfl, rfl, rfl, ?_, ?_⟩, ?_, ?_⟩
  · simp [setBlock]
  · intro i hi hne
    exact heap_setBlock_other h _ (fun e => hne (by rw [e]))
  · simp [setBlock]
  · intro a ha
    exact World.cell?_of_block (w := w) (heap_setBlock_other h _ ha)
section
variable {P : Program} {kt ki : TypeId} {ops : Array Oper} {rest : List Oper} {o : Oper} {a : Act} {Q : Exit → Act → World → Prop} {w : World}
theorem wpList_mapEntry (K : Ky P kt ki) (hgd : o.guard = none) (t e : TypeId) (m x : Operand) (ho : o.op = .mapEntry t m x) (ht : P.underlying t = some (.map kt e)) (z : Value) (hz : ∀ w : World, (zeroValue e).run P w = .ok z w)
    (b : Nat) (l : Ents) (clock : Nat) (k : Int × Int) (hm : a.eval m = .map (some b)) (hx : a.eval x = skV k) (h : Holds w b l clock) (hs : Stamps l clock)
    (next : ∀ (st : Nat) (w1 : World), Holds w1 b (upd k (val z k l) clock l) (clk k l clock) → OneBlock w w1 b →
      (∀ (w2 : World) (v : Value), Holds w2 b (upd k (val z k l) clock l) (clk k l clock) → (Instr.entryStore t (.map (some b)) (goInt st) v).run P w2 = .ok () (setBlock w2 b (.map ((upd k v clock l).map mkE).toArray (clk k l clock)))) →
      wpList P ops Q rest (a.put o.dst (.tuple #[val z k l, goInt st])) w1) :
    wpList P ops Q (o :: rest) a w := by
  obtain ⟨st, h1, h2⟩ := mapEntry K ht hz h hs k
  refine wpList_plain hgd fun K' hK' => ?_
  unfold Oper.wp
  simp only [execOp, ho, hm, hx, Sem.run_bind, h1, Result.andThen_ok, Sem.run_pure]
  exact hK' _ _ (next st _ (Holds.set h _ _) (oneBlock_set h) h2)
theorem wpList_entryStore (hgd : o.guard = none) (t : TypeId) (m s x : Operand) (ho : o.op = .entryStore t m s x) (b : Nat) (st : Nat) (v : Value) (l l' : Ents) (clock clock' : Nat)
    (hm : a.eval m = .map (some b)) (hs : a.eval s = goInt st) (hx : a.eval x = v) (h : Holds w b l clock) (hrun : (Instr.entryStore t (.map (some b)) (goInt st) v).run P w = .ok () (setBlock w b (.map (l'.map mkE).toArray clock')))
    (next : ∀ (w1 : World), Holds w1 b l' clock' → OneBlock w w1 b → wpList P ops Q rest (a.put o.dst undef) w1) :
    wpList P ops Q (o :: rest) a w := by
  refine wpList_plain hgd fun K' hK' => ?_
  unfold Oper.wp
  simp only [execOp, ho, hm, hs, hx, Sem.run_bind, hrun, Result.andThen_ok, Sem.run_pure]
  exact hK' _ _ (next _ (Holds.set h _ _) (oneBlock_set h))
theorem wpList_mapUpdate (K : Ky P kt ki) (hgd : o.guard = none) (t e : TypeId) (m x v : Operand) (ho : o.op = .mapUpdate t m x v) (ht : P.underlying t = some (.map kt e))
    (b : Nat) (l : Ents) (clock : Nat) (k : Int × Int) (u : Value) (hm : a.eval m = .map (some b)) (hx : a.eval x = skV k) (hv : a.eval v = u) (h : Holds w b l clock)
    (next : ∀ (w1 : World), Holds w1 b (upd k u clock l) (clk k l clock) → OneBlock w w1 b → wpList P ops Q rest (a.put o.dst undef) w1) :
    wpList P ops Q (o :: rest) a w := by
  refine wpList_plain hgd fun K' hK' => ?_
  unfold Oper.wp
  simp only [execOp, ho, hm, hx, hv, Sem.run_bind, mapUpdate K ht h k u, Result.andThen_ok, Sem.run_pure]
  exact hK' _ _ (next _ (Holds.set h _ _) (oneBlock_set h))
theorem wpList_lookup (K : Ky P kt ki) (hgd : o.guard = none) (t e : TypeId) (m x : Operand) (ho : o.op = .lookup t m x false) (ht : P.underlying t = some (.map kt e)) (z : Value) (hz : ∀ w : World, (zeroValue e).run P w = .ok z w)
    (b : Nat) (l : Ents) (clock : Nat) (k : Int × Int) (hm : a.eval m = .map (some b)) (hx : a.eval x = skV k) (h : Holds w b l clock)
    (next : wpList P ops Q rest (a.put o.dst (val z k l)) w) :
    wpList P ops Q (o :: rest) a w := by
  refine wpList_plain hgd fun K' hK' => ?_
  unfold Oper.wp
  simp only [execOp, ho, hm, hx, Sem.run_bind, lookup K ht hz h k, Result.andThen_ok, Sem.run_pure]
  exact hK' _ _ next
end
section
variable {P : Program} {kt ki : TypeId} {o : Oper} {a : Act} {next : Act → World → Prop} {Q : Exit → Act → World → Prop} {W : World}
theorem upon_mapEntry (K : Ky P kt ki) {t e : TypeId} (ht : P.underlying t = some (.map kt e)) (z : Value) (hz : ∀ w : World, (zeroValue e).run P w = .ok z w) {b : Nat} (l : Ents) (clock : Nat) (k1 k2 : Int) (h : Holds W b l clock) (hs : Stamps l clock)
    (hn : ∀ (st : Nat) (w1 : World), Holds w1 b (upd (k1, k2) (val z (k1, k2) l) clock l) (clk (k1, k2) l clock) → OneBlock W w1 b →
      (∀ (w2 : World) (v : Value), Holds w2 b (upd (k1, k2) (val z (k1, k2) l) clock l) (clk (k1, k2) l clock) → (Instr.entryStore t (.map (some b)) (goInt st) v).run P w2 = .ok () (setBlock w2 b (.map ((upd (k1, k2) v clock l).map mkE).toArray (clk (k1, k2) l clock)))) →
      next (a.put o.dst (.tuple #[val z (k1, k2) l, goInt st])) w1) :
    Oper.upon P o a next Q (((Instr.mapEntry t (.map (some b)) (.agg #[.int .i64 k1, .int .i64 k2])).run P W).andThen fun x w' => .ok (.value x) w') := by
  obtain ⟨st, h1, h2⟩ := mapEntry K ht hz h hs (k1, k2)
  rw [show Value.agg #[.int .i64 k1, .int .i64 k2] = skV (k1, k2) from rfl, h1]
  exact hn st _ (Holds.set h _ _) (oneBlock_set h) h2
theorem upon_entryStore {t : TypeId} {b : Nat} {st : Int} {v : Value} {l l' : Ents} {clock clock' : Nat} (h : Holds W b l clock) (hrun : (Instr.entryStore t (.map (some b)) (goInt st) v).run P W = .ok () (setBlock W b (.map (l'.map mkE).toArray clock')))
    (hn : ∀ w1 : World, Holds w1 b l' clock' → OneBlock W w1 b → next (a.put o.dst undef) w1) :
    Oper.upon P o a next Q (((Instr.entryStore t (.map (some b)) (.int .i64 st) v).run P W).andThen fun _ w' => .ok .skip w') := by
  rw [show Value.int .i64 st = goInt st from rfl, hrun]
  exact hn _ (Holds.set h _ _) (oneBlock_set h)
theorem upon_mapUpdate (K : Ky P kt ki) {t e : TypeId} (ht : P.underlying t = some (.map kt e)) {b : Nat} (l : Ents) (clock : Nat) (k1 k2 : Int) (u : Value) (h : Holds W b l clock)
    (hn : ∀ (w1 : World), Holds w1 b (upd (k1, k2) u clock l) (clk (k1, k2) l clock) → OneBlock W w1 b → next (a.put o.dst undef) w1) :
    Oper.upon P o a next Q (((Instr.mapUpdate t (.map (some b)) (.agg #[.int .i64 k1, .int .i64 k2]) u).run P W).andThen fun _ w' => .ok .skip w') := by
  rw [show Value.agg #[.int .i64 k1, .int .i64 k2] = skV (k1, k2) from rfl, mapUpdate K ht h (k1, k2) u]
  exact hn _ (Holds.set h _ _) (oneBlock_set h)
theorem upon_lookup (K : Ky P kt ki) {t e : TypeId} (ht : P.underlying t = some (.map kt e)) (z : Value) (hz : ∀ w : World, (zeroValue e).run P w = .ok z w) {b : Nat} (l : Ents) (clock : Nat) (k1 k2 : Int) (h : Holds W b l clock)
    (hn : next (a.put o.dst (val z (k1, k2) l)) W) :
    Oper.upon P o a next Q (((Instr.lookup t (.map (some b)) (.agg #[.int .i64 k1, .int .i64 k2]) false).run P W).andThen fun x w' => .ok (.value x) w') := by
  rw [show Value.agg #[.int .i64 k1, .int .i64 k2] = skV (k1, k2) from rfl, lookup K ht hz h (k1, k2)]
  exact hn
end
theorem OneBlock.below {B : Nat} {w0 w w1 : World} {b : Nat} (h : OneBlock w w1 b) (hb : Below B w0 w) (hB : B ≤ b) (hw : B ≤ w.heap.size) : Below B w0 w1 :=
  hb.grown h.grown hw (fun k e => by cases e; exact hB)
theorem OneBlock.owns {w w1 : World} {b : Nat} (h : OneBlock w w1 b) {base : Nat} {e : TypeId} {size n : Nat} {v : Value} {xs : List Value} (ho : w.ownsRow base e size v n xs) (hb : b < base) : w1.ownsRow base e size v n xs := by
  refine ho.kept h.grown ?_
  rcases hv : v.ownBlock with _ | k
  · exact .inl rfl
  · refine .inr fun e => ?_
    have : base ≤ k := by
      rcases ho.2 with ⟨rfl, _⟩ | ⟨g, cap, cur, rfl, hg, _⟩
      · simp [Value.ownBlock] at hv
      · have : g = k := by simpa [Value.ownBlock] using hv
        omega
    simp at e
    omega
end Go.Proofs.Ytcmcgjjhbjlkpaa.Km
