/- Maps whose keys are pairs of ints: what the model's operations on them come to, said over a plain list of (key, value, stamp). No program. -/
import Derived.MapKept
import Derived.ChangeMaps5
import Derived.Laws.StructEq
import Derived.WideLaws
import Derived.RowKit3
import Derived.Carry
set_option linter.unusedVariables false
set_option linter.unusedSimpArgs false
namespace Go.Proofs.Ytcmcgjjhbjlkpaa.Km
open Go.ChangeMaps (setBlock heap_setBlock_same heap_setBlock_other)

def skV (k : Int × Int) : Value := .agg #[.int .i64 k.1, .int .i64 k.2]
theorem skV_inj {a b : Int × Int} (h : skV a = skV b) : a = b := by
  simp only [skV, Value.agg.injEq, Array.mk.injEq, List.cons.injEq, Value.int.injEq, true_and, and_true] at h
  exact Prod.ext h.1 h.2
theorem forIn_two {m : Type → Type} [Monad m] {β : Type} (i : β) (f : Nat → β → m (ForInStep β)) : forIn [:2] i f = forIn [0, 1] i f := by
  rw [Std.Legacy.Range.forIn_eq_forIn_range']; rfl
theorem run_equalIn_arr2 {P : Program} (w : World) (d : Nat) (t e : TypeId) (x0 x1 y0 y1 : Value) (ht : P.underlying t = some (.array 2 e)) (hs : ∀ w : World, (sizeOf e).run P w = .ok 1 w) (hg : ∀ w : World, (isAgg e).run P w = .ok false w) :
    (Op.equalIn (d + 1) t (.agg #[x0, x1]) (.agg #[y0, y1])).run P w = ((Op.equalIn d e x0 y0).run P w).andThen fun b w1 => if b then (Op.equalIn d e x1 y1).run P w1 else .ok false w1 := by
  simp only [Op.equalIn, Sem.run_bind, run_underlying ht, Result.andThen_ok, hs, forIn_two]
  simp only [List.forIn_cons, List.forIn_nil, Sem.run_bind, part, hg, Result.andThen_ok, Sem.run_ite, Bool.false_eq_true, if_false, Nat.zero_mul, Nat.one_mul, Nat.mul_one, List.getElem?_toArray, List.getElem?_cons_zero, List.getElem?_cons_succ, Sem.run_pure]
  generalize (Op.equalIn d e x0 y0).run P w = r1
  cases r1 with
  | halt x w1 => simp [Result.andThen]
  | ok b w1 =>
    cases b
    · simp [Result.andThen, Sem.run_pure]
    · simp only [Result.andThen_ok, Bool.not_true, Bool.false_eq_true, if_false, Sem.run_pure, Sem.run_bind, if_true, hg, Sem.run_ite, List.getElem?_cons_zero]
      generalize (Op.equalIn d e x1 y1).run P w1 = r2
      cases r2 with
      | halt x w2 => simp [Result.andThen]
      | ok b2 w2 => cases b2 <;> simp [Result.andThen, Sem.run_pure]

/-- What the key's type must be: an array of two ints. -/
structure Ky (P : Program) (kt ki : TypeId) : Prop where
  arr : P.underlying kt = some (.array 2 ki)
  int : P.underlying ki = some (.int .i64)
  sz : ∀ w : World, (sizeOf ki).run P w = .ok 1 w
  ag : ∀ w : World, (isAgg ki).run P w = .ok false w

section
variable {P : Program} {kt ki : TypeId}
theorem Ky.equal (K : Ky P kt ki) (a b : Int × Int) (w : World) : (Op.equal kt (skV a) (skV b)).run P w = .ok (a.1 == b.1 && a.2 == b.2) w := by
  unfold Op.equal skV
  rw [show Op.maxDepth = 9999 + 1 from rfl, run_equalIn_arr2 w 9999 kt ki _ _ _ _ K.arr K.sz K.ag]
  rw [show (9999 : Nat) = 9998 + 1 from rfl, run_equalIn_int w 9998 ki .i64 .i64 _ _ K.int]
  simp only [Result.andThen_ok]
  rw [run_equalIn_int w 9998 ki .i64 .i64 _ _ K.int]
  cases (a.1 == b.1) <;> simp
theorem checkKey_int (em : Bool) (n : Nat) (x : Int) (w : World) (hi : P.underlying ki = some (.int .i64)) : (Instr.checkKey em (n + 1) ki (.int .i64 x)).run P w = .ok () w := by
  simp only [Instr.checkKey, Sem.run_bind, run_underlying hi, Result.andThen_ok, Sem.run_pure]
theorem Ky.check (K : Ky P kt ki) (em : Bool) (a : Int × Int) (w : World) : (Instr.checkKey em 10000 kt (skV a)).run P w = .ok () w := by
  unfold skV
  have h1 : ∀ (n : Nat), (Instr.checkKey em (n + 1 + 1) kt (.agg #[.int .i64 a.1, .int .i64 a.2])).run P w = .ok () w := fun n => by
    rw [Instr.checkKey]
    simp only [Sem.run_bind, run_underlying K.arr, Result.andThen_ok, forIn_two, List.forIn_cons, List.forIn_nil, K.sz, part, K.ag, Sem.run_ite, Bool.false_eq_true, if_false, Nat.zero_mul, Nat.mul_one, List.getElem?_toArray, List.getElem?_cons_zero, List.getElem?_cons_succ, Sem.run_pure, checkKey_int em n _ _ K.int]
  exact h1 9998
theorem same_key (n : Nat) (a : Int × Int) : Instr.sameBits (n + 2) (skV a) (skV a) = true := by
  simp [skV, Instr.sameBits]
theorem stays (a : Int × Int) (w : World) : (Instr.keyThatStays (skV a) (skV a)).run P w = .ok (skV a) w := by
  have h : Instr.sameBits 10000 (skV a) (skV a) = true := same_key 9998 a
  simp [Instr.keyThatStays, h, Sem.run_pure]

/-! ### The list behind a map -/
abbrev Ents := List ((Int × Int) × Value × Nat)
def mkE (x : (Int × Int) × Value × Nat) : MapEntry := ⟨skV x.1, x.2.1, x.2.2⟩
def has (k : Int × Int) (l : Ents) : Bool := l.any fun x => x.1 == k
def val (z : Value) (k : Int × Int) : Ents → Value
  | [] => z
  | x :: r => if x.1 = k then x.2.1 else val z k r
def upd (k : Int × Int) (v : Value) (c : Nat) : Ents → Ents
  | [] => [(k, v, c)]
  | x :: r => if x.1 = k then (k, v, x.2.2) :: r else x :: upd k v c r
def place (k : Int × Int) : Ents → Nat → Option (Nat × Value)
  | [], _ => none
  | x :: r, i => if x.1 = k then some (i, x.2.1) else place k r (i + 1)

theorem key_beq (a b : Int × Int) : (a.1 == b.1 && a.2 == b.2) = decide (a = b) := by
  rw [Bool.eq_iff_iff]; simp [Prod.ext_iff]
theorem findAsking (K : Ky P kt ki) (k : Int × Int) (w : World) : ∀ (l : Ents) (i : Nat), (Instr.findAsking kt (skV k) (l.map mkE) i).run P w = .ok (place k l i) w
  | [], i => by simp [Instr.findAsking, place, Sem.run_pure]
  | x :: r, i => by
    simp only [List.map_cons, Instr.findAsking, Sem.run_bind, place]
    rw [show (mkE x).key = skV x.1 from rfl, K.equal k x.1 w, key_beq]
    by_cases h : x.1 = k
    · rw [if_pos h]
      simp [h, Result.andThen, Sem.run_pure, mkE]
    · rw [if_neg h]
      have h' : ¬ k = x.1 := fun e => h e.symm
      simp [h', Result.andThen, findAsking K k w r (i + 1)]
theorem findKey (K : Ky P kt ki) (k : Int × Int) (w : World) (l : Ents) : (Instr.findKey kt (skV k) (l.map mkE)).run P w = .ok (place k l 0) w := by
  simp only [Instr.findKey, Sem.run_bind, run_underlying K.arr, Result.andThen_ok]
  cases l with
  | nil => simp [Instr.findNow, place, Sem.run_pure]
  | cons x r =>
    have : Instr.findNow (.array 2 ki) (skV k) (List.map mkE (x :: r)) 0 = none := by
      simp [Instr.findNow, Instr.sameNow]
    rw [this]
    exact findAsking K k w (x :: r) 0

theorem place_none {k : Int × Int} : ∀ {l : Ents} {i : Nat}, place k l i = none ↔ has k l = false
  | [], i => by simp [place, has]
  | x :: r, i => by
    by_cases h : x.1 = k
    · simp [place, has, h]
    · have := @place_none k r (i + 1)
      have e1 : place k (x :: r) i = place k r (i + 1) := by simp only [place]; rw [if_neg h]
      have e2 : has k (x :: r) = has k r := by simp [has, h]
      rw [e1, e2]; exact this
theorem place_some {k : Int × Int} : ∀ {l : Ents} {i : Nat} {j : Nat} {v : Value}, place k l i = some (j, v) → i ≤ j ∧ ∃ c, l[j - i]? = some (k, v, c) ∧ (∀ z, val z k l = v) ∧ has k l = true ∧ ∀ v' c', upd k v' c' l = l.set (j - i) (k, v', c)
  | [], i, j, v, h => by simp [place] at h
  | x :: r, i, j, v, h => by
    by_cases hx : x.1 = k
    · simp only [place, if_pos hx, Option.some.injEq, Prod.mk.injEq] at h
      obtain ⟨rfl, rfl⟩ := h
      refine ⟨Nat.le_refl _, x.2.2, ?_, fun z => by simp [val, hx], by simp [has, hx], fun v' c' => ?_⟩
      · simp [← hx]
      · simp [upd, hx]
    · simp only [place, if_neg hx] at h
      obtain ⟨h1, c, h2, h3, h4, h5⟩ := place_some h
      have e : j - i = (j - (i + 1)) + 1 := by omega
      refine ⟨by omega, c, ?_, fun z => ?_, ?_, fun v' c' => ?_⟩
      · rw [e, List.getElem?_cons_succ]; exact h2
      · simp only [val, if_neg hx]; exact h3 z
      · simp only [has, List.any_cons] at h4 ⊢; rw [h4]; simp
      · rw [e, List.set_cons_succ]; simp only [upd, if_neg hx]; rw [h5]

theorem upd_none {k : Int × Int} {v : Value} {c : Nat} : ∀ {l : Ents}, has k l = false → upd k v c l = l ++ [(k, v, c)]
  | [], _ => rfl
  | x :: r, h => by
    simp only [has, List.any_cons, Bool.or_eq_false_iff, beq_eq_false_iff_ne, ne_eq] at h
    simp only [upd, if_neg h.1, List.cons_append]
    rw [upd_none (l := r) h.2]
theorem val_none {k : Int × Int} {z : Value} : ∀ {l : Ents}, has k l = false → val z k l = z
  | [], _ => rfl
  | x :: r, h => by
    simp only [has, List.any_cons, Bool.or_eq_false_iff, beq_eq_false_iff_ne, ne_eq] at h
    simp only [val, if_neg h.1]
    exact val_none (l := r) h.2
theorem val_upd (z : Value) (k k' : Int × Int) (v : Value) (c : Nat) : ∀ l : Ents, val z k' (upd k v c l) = if k' = k then v else val z k' l
  | [] => by
    by_cases h : k' = k
    · simp [upd, val, h]
    · simp only [upd, val, if_neg h, if_neg (fun e : k = k' => h e.symm)]
  | x :: r => by
    by_cases hx : x.1 = k
    · by_cases h : k' = k
      · simp [upd, val, hx, h]
      · have h' : ¬ k = k' := fun e => h e.symm
        simp [upd, val, hx, h, h']
    · have ih := val_upd z k k' v c r
      simp only [upd, if_neg hx, val, ih]
      by_cases h1 : x.1 = k'
      · have h2 : ¬ k' = k := fun e => hx (h1.trans e)
        simp [h1, h2]
      · simp [h1]
theorem has_upd (k k' : Int × Int) (v : Value) (c : Nat) : ∀ l : Ents, has k' (upd k v c l) = (has k' l || decide (k' = k))
  | [] => by
    by_cases h : k' = k
    · simp [upd, has, h]
    · have h' : ¬ k = k' := fun e => h e.symm
      simp [upd, has, h, h']
  | x :: r => by
    by_cases hx : x.1 = k
    · by_cases h : k' = k
      · simp [upd, has, hx, h]
      · simp [upd, has, hx, h]
    · have ih := has_upd k k' v c r
      simp only [has] at ih
      simp only [upd, if_neg hx, has, List.any_cons, ih, Bool.or_assoc]

/-- Stamps: below the clock, each once. -/
def Stamps (l : Ents) (clock : Nat) : Prop := (∀ x ∈ l, x.2.2 < clock) ∧ (l.map fun x => x.2.2).Nodup
theorem stamps_nil (c : Nat) : Stamps [] c := ⟨by simp, by simp⟩
def clk (k : Int × Int) (l : Ents) (c : Nat) : Nat := if has k l then c else c + 1
theorem upd_stamp_map (k : Int × Int) (v v' : Value) (c : Nat) : ∀ l : Ents, (upd k v c l).map (fun x => x.2.2) = (upd k v' c l).map (fun x => x.2.2)
  | [] => rfl
  | x :: r => by
    by_cases h : x.1 = k
    · simp [upd, h]
    · simp only [upd, if_neg h, List.map_cons, upd_stamp_map k v v' c r]
theorem stamps_upd {l : Ents} {c : Nat} (h : Stamps l c) (k : Int × Int) (v : Value) : Stamps (upd k v c l) (clk k l c) := by
  by_cases hk : has k l = true
  · obtain ⟨⟨j, v0⟩, hp⟩ : ∃ y, place k l 0 = some y := by
      cases hp : place k l 0 with
      | none => rw [place_none.1 hp] at hk; simp at hk
      | some y => exact ⟨y, rfl⟩
    obtain ⟨_, c0, h2, _, _, h5⟩ := place_some hp
    rw [h5]
    have hm : (l.set (j - 0) (k, v, c0)).map (fun x => x.2.2) = l.map (fun x => x.2.2) := by
      rw [List.map_set]
      apply List.ext_getElem?
      intro i
      by_cases hi : j - 0 = i
      · subst hi
        have : j - 0 < l.length := (List.getElem?_eq_some_iff.1 h2).1
        rw [List.getElem?_set_self (by simpa using this), List.getElem?_map, h2]; rfl
      · rw [List.getElem?_set_ne hi]
    refine ⟨fun x hx => ?_, by rw [hm]; exact h.2⟩
    have : x.2.2 ∈ (l.set (j - 0) (k, v, c0)).map (fun x => x.2.2) := List.mem_map.2 ⟨x, hx, rfl⟩
    rw [hm] at this
    obtain ⟨y, hy, e⟩ := List.mem_map.1 this
    have := h.1 y hy
    simp only [clk, hk, if_true]
    omega
  · have hk' : has k l = false := by simpa using hk
    rw [upd_none hk']
    simp only [clk, hk', Bool.false_eq_true, if_false]
    refine ⟨fun x hx => ?_, ?_⟩
    · rcases List.mem_append.1 hx with hx | hx
      · have := h.1 x hx; omega
      · rw [List.mem_singleton.1 hx]; simp
    · rw [List.map_append]
      refine List.nodup_append.2 ⟨h.2, by simp, fun a ha b hb => ?_⟩
      simp only [List.map_cons, List.map_nil, List.mem_singleton] at hb
      obtain ⟨x, hx, rfl⟩ := List.mem_map.1 ha
      have := h.1 x hx
      omega

/-! ### In memory -/
def Holds (w : World) (b : Nat) (l : Ents) (clock : Nat) : Prop := w.heap[b]? = some (.map (l.map mkE).toArray clock)
theorem Holds.set {w : World} {b : Nat} {l : Ents} {clock : Nat} (h : Holds w b l clock) (l' : Ents) (c' : Nat) : Holds (setBlock w b (.map (l'.map mkE).toArray c')) b l' c' := heap_setBlock_same h _
theorem Holds.other {w w1 : World} {b : Nat} {l : Ents} {clock : Nat} (h : Holds w b l clock) (e : w1.heap[b]? = w.heap[b]?) : Holds w1 b l clock := e.trans h
theorem made (w : World) : Holds (w.alloc (.map #[] 0)) w.heap.size [] 0 := by
  show (w.heap.push _)[w.heap.size]? = _
  simp

theorem set_run {w : World} {b : Nat} {l : Ents} {clock : Nat} (h : Holds w b l clock) (es : Array MapEntry) (c : Nat) : (setObj b (.map es c)).run P w = .ok () (setBlock w b (.map es c)) := MapKept.run_setObj_map _ h

theorem lookup {t e : TypeId} (K : Ky P kt ki) (ht : P.underlying t = some (.map kt e)) {z : Value} (hz : ∀ w : World, (zeroValue e).run P w = .ok z w) {w : World} {b : Nat} {l : Ents} {clock : Nat} (h : Holds w b l clock) (k : Int × Int) :
    (Instr.lookup t (.map (some b)) (skV k) false).run P w = .ok (val z k l) w := by
  simp only [Instr.lookup, Sem.run_bind, run_underlying ht, Result.andThen_ok, MapKept.run_getObj_map h, Sem.run_pure, K.check, List.toList_toArray, findKey K]
  cases hp : place k l 0 with
  | none => simp [hz, Result.andThen, Sem.run_pure, val_none (place_none.1 hp)]
  | some y => obtain ⟨j, v⟩ := y; obtain ⟨_, c, _, h3, _⟩ := place_some hp; simp [Sem.run_pure, h3, Result.andThen]
theorem lookup_ok {t e : TypeId} (K : Ky P kt ki) (ht : P.underlying t = some (.map kt e)) {z : Value} (hz : ∀ w : World, (zeroValue e).run P w = .ok z w) {w : World} {b : Nat} {l : Ents} {clock : Nat} (h : Holds w b l clock) (k : Int × Int) :
    (Instr.lookup t (.map (some b)) (skV k) true).run P w = .ok (.tuple #[val z k l, .bool (has k l)]) w := by
  simp only [Instr.lookup, Sem.run_bind, run_underlying ht, Result.andThen_ok, MapKept.run_getObj_map h, Sem.run_pure, K.check, List.toList_toArray, findKey K]
  cases hp : place k l 0 with
  | none => simp [hz, Result.andThen, Sem.run_pure, val_none (place_none.1 hp), place_none.1 hp]
  | some y => obtain ⟨j, v⟩ := y; obtain ⟨_, c, _, h3, h4, _⟩ := place_some hp; simp [Sem.run_pure, h3, h4, Result.andThen]

theorem modify_set {α : Type} (f : α → α) : ∀ (l : List α) (j : Nat) (a : α), l[j]? = some a → l.modify j f = l.set j (f a)
  | [], _, _, h => by simp at h
  | b :: r, 0, a, h => by simp at h; subst h; simp
  | b :: r, j + 1, a, h => by simp only [List.getElem?_cons_succ] at h; rw [List.modify_succ_cons, List.set_cons_succ, modify_set f r j a h]

theorem mapUpdate {t e : TypeId} (K : Ky P kt ki) (ht : P.underlying t = some (.map kt e)) {w : World} {b : Nat} {l : Ents} {clock : Nat} (h : Holds w b l clock) (k : Int × Int) (v : Value) :
    (Instr.mapUpdate t (.map (some b)) (skV k) v).run P w = .ok () (setBlock w b (.map ((upd k v clock l).map mkE).toArray (clk k l clock))) := by
  simp only [Instr.mapUpdate, Sem.run_bind, run_underlying ht, Result.andThen_ok, MapKept.run_getObj_map h, K.check, List.toList_toArray, findKey K]
  cases hp : place k l 0 with
  | none =>
    have hk := place_none.1 hp
    simp only [upd_none hk, clk, hk, Bool.false_eq_true, if_false]
    rw [set_run h]
    simp [mkE]
  | some y =>
    obtain ⟨j, v0⟩ := y
    obtain ⟨_, c, h2, h3, h4, h5⟩ := place_some hp
    simp only [Nat.sub_zero] at h2 h5
    have hg : ((l.map mkE).toArray[j]?.map fun e => e.key).getD (skV k) = skV k := by
      simp only [List.getElem?_toArray, List.getElem?_map, h2, Option.map_some, Option.getD_some]; rfl
    simp only [Sem.run_bind, hg, stays, Result.andThen_ok, set_run h, clk, h4, if_true, h5]
    congr 3
    apply Array.ext'
    rw [Array.toList_modify, List.toList_toArray, List.toList_toArray, modify_set _ _ j (mkE (k, v0, c)) (by simp [List.getElem?_map, h2]), List.map_set]
    rfl

theorem mapEntry {t e : TypeId} (K : Ky P kt ki) (ht : P.underlying t = some (.map kt e)) {z : Value} (hz : ∀ w : World, (zeroValue e).run P w = .ok z w) {w : World} {b : Nat} {l : Ents} {clock : Nat} (h : Holds w b l clock) (hs : Stamps l clock) (k : Int × Int) :
    ∃ st : Nat, (Instr.mapEntry t (.map (some b)) (skV k)).run P w = .ok (.tuple #[val z k l, goInt st]) (setBlock w b (.map ((upd k (val z k l) clock l).map mkE).toArray (clk k l clock))) ∧
      ∀ (w2 : World) (v : Value), Holds w2 b (upd k (val z k l) clock l) (clk k l clock) → (Instr.entryStore t (.map (some b)) (goInt st) v).run P w2 = .ok () (setBlock w2 b (.map ((upd k v clock l).map mkE).toArray (clk k l clock))) := by
  have hst := stamps_upd hs k (val z k l)
  cases hp : place k l 0 with
  | none =>
    have hk := place_none.1 hp
    refine ⟨clock, ?_, fun w2 v h2 => ?_⟩
    · simp only [Instr.mapEntry, Sem.run_bind, run_underlying ht, Result.andThen_ok, MapKept.run_getObj_map h, K.check, List.toList_toArray, findKey K, hp, hz]
      simp only [upd_none hk, clk, hk, Bool.false_eq_true, if_false, val_none hk]
      rw [set_run h]
      simp [mkE, Result.andThen, Sem.run_pure]
    · have hi : (((upd k (val z k l) clock l).map mkE).toArray).findIdx? (fun e => (e.born : Int) == (clock : Int)) = some l.length := by
        rw [List.findIdx?_toArray, upd_none hk, List.map_append, List.findIdx?_append]
        have : (l.map mkE).findIdx? (fun e => (e.born : Int) == (clock : Int)) = none := by
          rw [List.findIdx?_eq_none_iff]
          intro x hx
          obtain ⟨y, hy, rfl⟩ := List.mem_map.1 hx
          have := hs.1 y hy
          simp only [mkE, beq_eq_false_iff_ne, ne_eq]
          omega
        rw [this]
        simp [mkE]
      simp only [Instr.entryStore, Sem.run_bind, MapKept.run_getObj_map h2, Result.andThen_ok]
      have ha : (asInt (goInt (clock : Int))).run P w2 = .ok (clock : Int) w2 := by simp [asInt, asIntOf, goInt]
      simp only [ha, Result.andThen_ok, hi, set_run h2]
      congr 3
      apply Array.ext'
      rw [Array.toList_modify, List.toList_toArray, List.toList_toArray, upd_none hk, upd_none hk, List.map_append, List.map_append]
      rw [modify_set _ _ l.length (mkE (k, val z k l, clock)) (by simp)]
      simp [mkE]
  | some y =>
    obtain ⟨j, v0⟩ := y
    obtain ⟨_, c, h2, h3, h4, h5⟩ := place_some hp
    simp only [Nat.sub_zero] at h2 h5
    have hv : val z k l = v0 := h3 z
    have hl : l.set j (k, v0, c) = l := by
      apply List.ext_getElem?
      intro i
      by_cases hi : j = i
      · subst hi
        rw [List.getElem?_set_self (List.getElem?_eq_some_iff.1 h2).1, h2]
      · rw [List.getElem?_set_ne hi]
    have hu : upd k (val z k l) clock l = l := by rw [hv, h5, hl]
    refine ⟨c, ?_, fun w2 v hw2 => ?_⟩
    · have hg : ((l.map mkE).toArray[j]?.map fun e => e.key).getD (skV k) = skV k := by
        simp only [List.getElem?_toArray, List.getElem?_map, h2, Option.map_some, Option.getD_some]; rfl
      have hb : ((l.map mkE).toArray[j]?.map fun e => (e.born : Int)).getD 0 = (c : Int) := by
        simp only [List.getElem?_toArray, List.getElem?_map, h2, Option.map_some, Option.getD_some]; rfl
      have hu0 : upd k v0 clock l = l := by rw [h5, hl]
      have hm : ((l.map mkE).toArray.modify j fun e => { e with key := skV k }) = (l.map mkE).toArray := by
        apply Array.ext'
        rw [Array.toList_modify, List.toList_toArray, modify_set _ _ j (mkE (k, v0, c)) (by simp [List.getElem?_map, h2])]
        rw [show ({ mkE (k, v0, c) with key := skV k } : MapEntry) = mkE (k, v0, c) from rfl, ← List.map_set, hl]
      simp only [Instr.mapEntry, Sem.run_bind, run_underlying ht, Result.andThen_ok, MapKept.run_getObj_map h, K.check, List.toList_toArray, findKey K, hp, hg, hb, stays, hm, set_run h, Sem.run_pure, hu0, hv, clk, h4, if_true]
    · rw [hu] at hw2 hst
      have hi : ((l.map mkE).toArray).findIdx? (fun e => (e.born : Int) == (c : Int)) = some j := by
        rw [List.findIdx?_toArray, List.findIdx?_eq_some_iff_getElem]
        have hj := (List.getElem?_eq_some_iff.1 h2)
        obtain ⟨hj1, hj2⟩ := hj
        refine ⟨by simpa using hj1, by simp [hj2, mkE], fun i hij => ?_⟩
        have hi1 : i < l.length := by omega
        have hne : (l[i]'hi1).2.2 ≠ (l[j]'hj1).2.2 := by
          have hn := List.pairwise_iff_getElem.1 hs.2 i j (by simpa using hi1) (by simpa using hj1) hij
          simpa using hn
        rw [hj2] at hne
        simp only [List.getElem_map, mkE, Bool.not_eq_true, beq_eq_false_iff_ne, ne_eq]
        intro e
        exact hne (by exact_mod_cast e)
      simp only [Instr.entryStore, Sem.run_bind, MapKept.run_getObj_map hw2, Result.andThen_ok]
      have ha : (asInt (goInt (c : Int))).run P w2 = .ok (c : Int) w2 := by simp [asInt, asIntOf, goInt]
      simp only [ha, Result.andThen_ok, hi, set_run hw2, clk, h4, if_true, h5]
      congr 3
      apply Array.ext'
      rw [Array.toList_modify, List.toList_toArray, List.toList_toArray, modify_set _ _ j (mkE (k, v0, c)) (by simp [List.getElem?_map, h2]), List.map_set]
      rfl
end
end Go.Proofs.Ytcmcgjjhbjlkpaa.Km
