-- Written by wip/tools/hookprint.py (the kit's print, with functions given by hand). Lean checks it.
import Derived.Test.YtcmcgjjhbjlkpaaSpx0
namespace Go.Proofs.Ytcmcgjjhbjlkpaa.Sp
open Go.RowKit Go.Proofs.YtcmcgjjhbjlkpaaW.PrintWords Go.Proofs.YtcmcgjjhbjlkpaaW.PrintLast Go.Proofs.YtcmcgjjhbjlkpaaW.PrintMore
attribute [local go_sem] max2_int min2_int max_two min_two max_three min_three max_four min_four   -- for this text's walks alone
set_option linter.unusedVariables false
set_option linter.unusedSimpArgs false

-- NOT PRINTED: function 74 (spec_sorted)

-- NOT PRINTED: function 37 (spec_first)

/-! ### By hand: spec.Prefix$1, spec.Within$1 -/
/-- What is left of a list behind its first text, if that is s. -/
def pnext (xs : List ByteArray) (s : ByteArray) : Option (List ByteArray) :=
  match xs with
  | [] => none
  | x :: r => if x.toList = s.toList then some r else none
/-- What is left of a list behind the first s in it. -/
def wnext (xs : List ByteArray) (s : ByteArray) : Option (List ByteArray) :=
  match xs with
  | [] => none
  | x :: r => if x.toList = s.toList then some r else wnext r s
/-- The answer's value: the rest, told of whatever world in which the list reads. -/
def NextV (A : Option Addr) (xs : List ByteArray) (o : Option (List ByteArray)) (v1 v2 : Value) : Prop :=
  match o with
  | none => v1 = .slice none 0 0 ∧ v2 = .bool false
  | some r => v2 = .bool true ∧ ∃ A' c', v1 = .slice A' r.length c' ∧ r.length ≤ c' ∧ ∀ W : World, Kd.C Kd.string W A xs.length xs → Kd.C Kd.string W A' r.length r
theorem info9 : (Try.prog.info? 9).map (fun i => (i.zero, i.size, i.bytes)) = some (some (.string ⟨#[]⟩), 1, 16) := by kernel_rfl
theorem str_drop (A : Option Addr) (c : Nat) (xs : List ByteArray) (j : Int) (h0 : 0 ≤ j) (hm : j ≤ xs.length) (hc : xs.length ≤ c) :
    ∃ A' : Option Addr, (∀ W : World, (Instr.slice 79 (.slice A xs.length c) (some (.int .i64 j)) none none).run Try.prog W = .ok (.slice A' (xs.drop j.toNat).length (c - j.toNat)) W) ∧
      (∀ w : World, Kd.C Kd.string w A xs.length xs → Kd.C Kd.string w A' (xs.drop j.toNat).length (xs.drop j.toNat)) ∧ (xs.drop j.toNat).length ≤ c - j.toNat := by
  obtain ⟨i0, hi, hzz⟩ := Option.map_eq_some_iff.1 info9
  simp only [Prod.mk.injEq] at hzz
  obtain ⟨A', h1, h2, h3⟩ := print_drop_of (P := Try.prog) Value.string ByteArray.empty 79 9 .i64 Try.underlying79 hi hzz.2.1 A c xs j h0 hm hc
  refine ⟨A', h1, fun w h => ?_, h3⟩
  exact Kd.C_of_reads (d := ByteArray.empty) (h1 := fun _ => rfl) (h2 w (Kd.reads_of_C (h1 := fun _ => rfl) h))
theorem addr0 (ad : Addr) : ad.add 0 = ad := by
  unfold Addr.add; split <;> simp_all
def sAt (xs : List ByteArray) (i : Nat) : ByteArray := xs.getD i ByteArray.empty
theorem str_at {w : World} {A : Option Addr} {n : Nat} {xs : List ByteArray} (h : Kd.C Kd.string w A n xs) (i : Nat) (h1 : i < n) : ∃ ad, A = some ad ∧ w.cell? (ad.add i) = some (.string (sAt xs i)) := by
  obtain ⟨ad, e, hc⟩ := (Kd.reads_of_C (d := ByteArray.empty) (h1 := fun _ => rfl) h).2.2 (by omega)
  exact ⟨ad, e, hc i h1⟩
set_option maxHeartbeats 1000000 in
theorem pnext_calls (A : Option Addr) (c : Nat) (xs : List ByteArray) (s : ByteArray) (w0 : World) (hr0 : Kd.C Kd.string w0 A xs.length xs) (hc : xs.length ≤ c) :
    ∃ v1 v2, NextV A xs (pnext xs s) v1 v2 ∧ ∀ w : World, Kd.C Kd.string w A xs.length xs → Calls Try.prog 38 #[.slice A xs.length c, .string s] w fun e w' => e = .returned (.tuple #[v1, v2]) ∧ w' = w := by
  cases xs with
  | nil =>
    refine ⟨.slice none 0 0, .bool false, ⟨rfl, rfl⟩, fun w hr => ?_⟩
    clear hr hc hr0
    go_enter Try.func38, Try.ntmps38
    go_wp2
    go_ret2
    exact ⟨rfl, rfl⟩
  | cons x r =>
    obtain ⟨ad, rfl, _⟩ := str_at hr0 0 (by simp)
    have hm := hr0.2.1
    have hxx : ∀ w : World, Kd.C Kd.string w (some ad) (x :: r).length (x :: r) → w.cell? ad = some (.string x) := fun w hr => by
      obtain ⟨ad', e, hx⟩ := str_at hr 0 (by simp)
      obtain rfl : ad = ad' := by injection e
      simpa only [sAt, List.getD_cons_zero, addr0] using hx
    clear hr0
    obtain ⟨n, hn⟩ : ∃ n, n = (x :: r).length := ⟨_, rfl⟩
    have hz : ((n : Int) == 0) = false := by rw [beq_eq_false_iff_ne, hn]; simp only [List.length_cons]; omega
    have hn0 : (0 : Int) < n := by rw [hn]; simp only [List.length_cons]; omega
    by_cases hs : x.toList = s.toList
    · obtain ⟨A', hd1, hd2, hd3⟩ := str_drop (some ad) c (x :: r) 1 (by omega) (by simp; omega) hc
      simp only [Int.toNat_one, List.drop_succ_cons, List.drop_zero] at hd1 hd2 hd3
      have c6b1 : (x.toList == s.toList) = true := beq_iff_eq.mpr hs
      refine ⟨.slice A' r.length (c - 1), .bool true, ?_, fun w hr => ?_⟩
      · simp only [pnext, if_pos hs]
        exact ⟨rfl, A', c - 1, rfl, hd3, hd2⟩
      · have hx := hxx w hr
        rw [← hn] at hd1 ⊢
        clear hr hc hd2 hs hn hm hxx
        go_enter Try.func38, Try.ntmps38
        go_wp2
        go_ret2
        exact ⟨rfl, rfl⟩
    · have c6b1 : (x.toList == s.toList) = false := beq_eq_false_iff_ne.mpr hs
      refine ⟨.slice none 0 0, .bool false, ?_, fun w hr => ?_⟩
      · simp only [pnext, if_neg hs]
        exact ⟨rfl, rfl⟩
      · have hx := hxx w hr
        rw [← hn]
        clear hr hc hs hn hm hxx
        go_enter Try.func38, Try.ntmps38
        go_wp2
        go_ret2
        exact ⟨rfl, rfl⟩
theorem wnext_none {xs : List ByteArray} {s : ByteArray} (h : wnext xs s = none) : ∀ i, i < xs.length → ((sAt xs i).toList == s.toList) = false := by
  induction xs with
  | nil => intro i hi; simp at hi
  | cons x r ih =>
    intro i hi
    by_cases hx : x.toList = s.toList
    · simp [wnext, hx] at h
    · simp only [wnext, if_neg hx] at h
      cases i with
      | zero => simpa [sAt] using hx
      | succ i => simpa [sAt] using ih h i (by simpa using hi)
theorem wnext_some {xs : List ByteArray} {s : ByteArray} {r : List ByteArray} (h : wnext xs s = some r) : ∃ i, i < xs.length ∧ ((sAt xs i).toList == s.toList) = true ∧ r = xs.drop (i + 1) ∧ ∀ j, j < i → ((sAt xs j).toList == s.toList) = false := by
  induction xs with
  | nil => simp [wnext] at h
  | cons x t ih =>
    by_cases hx : x.toList = s.toList
    · simp only [wnext, if_pos hx, Option.some.injEq] at h
      exact ⟨0, by simp, by simpa [sAt] using hx, by simp [h], fun j hj => by omega⟩
    · simp only [wnext, if_neg hx] at h
      obtain ⟨i, h1, h2, h3, h4⟩ := ih h
      refine ⟨i + 1, by simpa using h1, by simpa [sAt] using h2, by simpa using h3, fun j hj => ?_⟩
      cases j with
      | zero => simpa [sAt] using hx
      | succ j => simpa [sAt] using h4 j (by omega)
set_option maxHeartbeats 1000000 in
theorem wnext_calls (A : Option Addr) (c : Nat) (xs : List ByteArray) (s : ByteArray) (w0 : World) (hr0 : Kd.C Kd.string w0 A xs.length xs) (hc : xs.length ≤ c) :
    ∃ v1 v2, NextV A xs (wnext xs s) v1 v2 ∧ ∀ w : World, Kd.C Kd.string w A xs.length xs → Calls Try.prog 40 #[.slice A xs.length c, .string s] w fun e w' => e = .returned (.tuple #[v1, v2]) ∧ w' = w := by
  have hm := hr0.2.1
  clear hr0
  obtain ⟨n, hn⟩ : ∃ n, n = xs.length := ⟨_, rfl⟩
  cases hw : wnext xs s with
  | none =>
    refine ⟨.slice none 0 0, .bool false, ⟨rfl, rfl⟩, fun w hr => ?_⟩
    have hno := Aside0.mk (wnext_none hw)
    have hat := Aside0.mk (fun i hi => str_at hr i hi)
    rw [← hn] at hm hno hat ⊢
    clear hr hc hw hn
    go_enter Try.func40, Try.ntmps40
    go_wp2
    go_loop [10] (fun v10 => ∃ k : Nat, k ≤ n ∧ v10 = .int .i64 k) (fun v10 => n - (intOf v10).toNat)
    case atStart => exact ⟨0, Nat.zero_le _, rfl⟩
    case round =>
      obtain ⟨k, hk, rfl⟩ := hrel
      by_cases hlt : k < n
      · have hb := hno.out k hlt
        obtain ⟨ad, rfl, hx⟩ := hat.out k hlt
        go_wp2
        go_round
        case rel => exact ⟨k + 1, by omega, by go_num⟩
        case measure => simp [intOf]; omega
      · go_wp2
        go_ret2
        exact ⟨rfl, rfl⟩
  | some r =>
    obtain ⟨i, hi, hyes, hrr, hno0⟩ := wnext_some hw
    obtain ⟨A', hd1, hd2, hd3⟩ := str_drop A c xs ((i : Int) + 1) (by omega) (by omega) hc
    rw [show ((i : Int) + 1).toNat = i + 1 from by omega, ← hrr] at hd1 hd2 hd3
    refine ⟨.slice A' r.length (c - (i + 1)), .bool true, ⟨rfl, A', _, rfl, hd3, hd2⟩, fun w hr => ?_⟩
    have hno := Aside0.mk hno0
    have hat := Aside0.mk (fun i hi => str_at hr i hi)
    rw [← hn] at hm hat hd1 hi ⊢
    clear hr hc hw hn hd2 hd3 hrr hno0
    have Hyes := Aside0.mk hyes
    clear hyes
    go_enter Try.func40, Try.ntmps40
    go_wp2
    go_loop [10] (fun v10 => ∃ k : Nat, k ≤ i ∧ v10 = .int .i64 k) (fun v10 => n - (intOf v10).toNat)
    case atStart => exact ⟨0, Nat.zero_le _, rfl⟩
    case round =>
      obtain ⟨k, hk, rfl⟩ := hrel
      obtain ⟨ad, rfl, hx⟩ := hat.out k (by omega)
      have hlt : k < n := by omega
      rcases Nat.lt_or_eq_of_le hk with hk1 | rfl
      · have hb := hno.out k hk1
        go_wp2
        go_round
        case rel => exact ⟨k + 1, by omega, by go_num⟩
        case measure => simp [intOf]; omega
      · have hb := Hyes.out
        go_wp2
        go_ret2
        exact ⟨rfl, rfl⟩
/-! ### By hand: spec.sorted -/
open Go.Proofs.Ytcmcgjjhbjlkpaa.Km (Ky skV)
theorem ky : Ky Try.prog 124 3 := ⟨Try.underlying124, Try.underlying3, fun w => by kernel_rfl, fun w => by kernel_rfl⟩
theorem zero79 (w : World) : (zeroValue 79).run Try.prog w = .ok (.slice none 0 0) w := by kernel_rfl
def keyOf (p : S38) : Int × Int := (p.f1, p.f2)
def grp (ps : List S38) (k : Int × Int) : List ByteArray := (ps.filter fun p => decide (keyOf p = k)).map (·.f3)
theorem grp_snoc (ps : List S38) (p : S38) (k : Int × Int) : grp (ps ++ [p]) k = if keyOf p = k then grp ps k ++ [p.f3] else grp ps k := by
  by_cases h : keyOf p = k <;> simp [grp, List.filter_append, h]
theorem grp_le (ps : List S38) (k : Int × Int) : (grp ps k).length ≤ ps.length := by
  unfold grp
  rw [List.length_map]
  exact List.length_filter_le _ _
structure SortInv (w0 wr : World) (l : Km.Ents) (clock : Nat) (qs : List S38) : Prop where
  holds : Km.Holds wr w0.heap.size l clock
  stamps : Km.Stamps l clock
  rows : ∀ k, wr.ownsRow (w0.heap.size + 1) 9 1 (Km.val (.slice none 0 0) k l) (grp qs k).length (pw_strs (grp qs k))
  apart : ∀ k k', k ≠ k' → (Km.val (.slice none 0 0) k l).ownBlock = none ∨ (Km.val (.slice none 0 0) k l).ownBlock ≠ (Km.val (.slice none 0 0) k' l).ownBlock
  below : Below w0.heap.size w0 wr
theorem SortInv.start (w0 : World) : SortInv w0 (w0.alloc (.map #[] 0)) [] 0 [] where
  holds := Km.made w0
  stamps := Km.stamps_nil 0
  rows := fun k => ⟨by simp [grp, pw_strs], .inl ⟨rfl, rfl⟩⟩
  apart := fun k k' _ => .inl rfl
  below := (Below.refl _ _).alloc (Nat.le_refl _) _
theorem SortInv.step {w0 wr W w1 w2 w3 : World} {l : Km.Ents} {clock : Nat} {qs : List S38} {p : S38} {v' : Value} (h : SortInv w0 wr l clock qs) (hW : Below wr.heap.size wr W)
    (h1 : Km.OneBlock W w1 w0.heap.size)
    (hg : w1.grownBy w2 (Km.val (.slice none 0 0) (keyOf p) l).ownBlock) (hrow : w2.ownsRow (w0.heap.size + 1) 9 1 v' ((grp qs (keyOf p)).length + 1) (pw_strs (grp qs (keyOf p)) ++ [.string p.f3]))
    (hat : v'.ownBlock = (Km.val (.slice none 0 0) (keyOf p) l).ownBlock ∨ v'.ownBlock = some w1.heap.size)
    (h3 : Km.OneBlock w2 w3 w0.heap.size) (hH : Km.Holds w3 w0.heap.size (Km.upd (keyOf p) v' clock l) (Km.clk (keyOf p) l clock)) :
    SortInv w0 w3 (Km.upd (keyOf p) v' clock l) (Km.clk (keyOf p) l clock) (qs ++ [p]) := by
  have hb0 : w0.heap.size < wr.heap.size := (Array.getElem?_eq_some_iff.1 h.holds).1
  have hBW : Below w0.heap.size w0 W := h.below.trans (hW.mono (by omega))
  have hB1 : Below w0.heap.size w0 w1 := h1.below hBW (Nat.le_refl _) hBW.size
  have hB2 : Below w0.heap.size w0 w2 := by
    refine hB1.grown hg hB1.size (fun k hk => ?_)
    have := own_base (h.rows (keyOf p)) k hk
    omega
  have hB3 : Below w0.heap.size w0 w3 := h3.below hB2 (Nat.le_refl _) hB2.size
  have row1 : ∀ k, w1.ownsRow (w0.heap.size + 1) 9 1 (Km.val (.slice none 0 0) k l) (grp qs k).length (pw_strs (grp qs k)) := fun k =>
    h1.owns (pw_own_below (h.rows k) hW) (Nat.lt_succ_self _)
  refine ⟨hH, Km.stamps_upd h.stamps _ _, fun k => ?_, fun k k' hk => ?_, hB3⟩
  · rw [Km.val_upd, grp_snoc]
    by_cases e : keyOf p = k
    · subst e
      rw [if_pos rfl, if_pos rfl, List.length_append, List.length_singleton]
      have := h3.owns hrow (Nat.lt_succ_self _)
      simpa [pw_strs] using this
    · rw [if_neg e, if_neg (fun e' : k = keyOf p => e e'.symm)]
      exact h3.owns (own_other (row1 k) hg (h.apart k (keyOf p) (fun e' => e e'.symm))) (Nat.lt_succ_self _)
  · have old : ∀ q, (Km.val (.slice none 0 0) q l).ownBlock = none ∨ ∃ g, (Km.val (.slice none 0 0) q l).ownBlock = some g ∧ g < w1.heap.size := fun q => by
      rcases hq : (Km.val (.slice none 0 0) q l).ownBlock with _ | g
      · exact .inl rfl
      · exact .inr ⟨g, rfl, own_lt (row1 q) g hq⟩
    rw [Km.val_upd, Km.val_upd]
    by_cases e : k = keyOf p
    · have e' : ¬ k' = keyOf p := fun e' => hk (e.trans e'.symm)
      rw [if_pos e, if_neg e']
      rcases hat with hat | hat
      · rw [hat, ← e]; exact h.apart k k' hk
      · rw [hat]
        rcases old k' with h4 | ⟨g, h4, h5⟩
        · rw [h4]; exact .inr (by simp)
        · rw [h4]; refine .inr ?_; simp; omega
    · rw [if_neg e]
      by_cases e' : k' = keyOf p
      · rw [if_pos e']
        rcases hat with hat | hat
        · rw [hat, ← e']; exact h.apart k k' hk
        · rw [hat]
          rcases old k with h4 | ⟨g, h4, h5⟩
          · exact .inl h4
          · rw [h4]; refine .inr ?_; simp; omega
      · rw [if_neg e']
        exact h.apart k k' hk
theorem below3 {w : World} {x y z : Obj} : Below w.heap.size w (((w.alloc x).alloc y).alloc z) :=
  (((Below.refl _ w).alloc (Nat.le_refl _) x).alloc (by simp) y).alloc (by simp; omega) z
theorem one_new3 {w w1 : World} {x y : Obj} {v : Value} {t : TypeId} {b : Nat} (h : Km.OneBlock (((w.alloc x).alloc y).alloc (.cells #[v] t)) w1 b) (hb : b < w.heap.size + 1) :
    ∀ j u, [v][j]? = some u → w1.cell? ((⟨w.heap.size + 1 + 1, 0, none⟩ : Addr).add j) = some u := by
  intro j u hj
  have e := cell_one_new ((w.alloc x).alloc y) v t j u hj
  have hs : ((w.alloc x).alloc y).heap.size = w.heap.size + 1 + 1 := by simp
  rw [hs] at e
  rw [h.cell _ (by rw [add_plain]; show w.heap.size + 1 + 1 ≠ b; omega)]
  exact e
theorem holds_grown {w1 w2 : World} {b : Nat} {l : Km.Ents} {c : Nat} {v : Value} {e : TypeId} {sz n : Nat} {xs : List Value} (h : Km.Holds w1 b l c) (hg : w1.grownBy w2 v.ownBlock) (ho : w1.ownsRow (b + 1) e sz v n xs) : Km.Holds w2 b l c := by
  refine h.other (hg.block b (Array.getElem?_eq_some_iff.1 h).1 (fun k => ?_))
  have := own_base ho b k.symm
  omega
theorem take_next {ps : List S38} {i : Nat} {p : S38} (hp : p = rd_T38 ps (i : Int)) (hi : i < ps.length) : ps.take (i + 1) = ps.take i ++ [p] := by
  rw [List.take_succ_eq_append_getElem hi, hp]
  simp [rd_T38, List.getElem?_eq_getElem hi]
def SortedPost (ps : List S38) (w : World) (e : Ending) (w' : World) : Prop :=
  ∃ l clock, e = .returned (.map (some w.heap.size)) ∧ SortInv w w' l clock ps
set_option maxHeartbeats 4000000 in
set_option maxRecDepth 100000 in
theorem sorted_calls (A : Option Addr) (c : Nat) (ps : List S38) (w : World) (hr : Kd.C k38 w A ps.length ps) (hc : ps.length ≤ c) (hl : ps.length < 2932031007402) :
    Calls Try.prog 74 #[.slice A ps.length c] w (SortedPost ps w) := by
  have HR := Aside0.mk hr
  have hmm := @run_makeMap Try.prog
  obtain ⟨i0, hi, hzz⟩ := Option.map_eq_some_iff.1 info9
  simp only [Prod.mk.injEq] at hzz
  have HI := Aside0.mk hi
  have HZ := Aside0.mk hzz
  clear hr hc hi hzz
  obtain ⟨n, hn⟩ : ∃ n, n = ps.length := ⟨_, rfl⟩
  rw [← hn] at hl ⊢
  have HN := Aside0.mk hn
  clear hn
  have hS := Aside0.mk (SortInv.start w)
  go_enter Try.func74, Try.ntmps74
  go_wp2
  go_loopw [10] (fun v10 wr => ∃ (i : Nat) (l : Km.Ents) (clock : Nat), i ≤ n ∧ v10 = .int .i64 i ∧ Aside0 (SortInv w wr l clock (ps.take i))) (fun v10 _ => n - (intOf v10).toNat)
  case atStart => exact ⟨0, [], 0, Nat.zero_le _, rfl, hS⟩
  case round =>
    obtain ⟨i, l, clock, hi, rfl, HS⟩ := hrel
    by_cases hlt : i < n
    · obtain ⟨ad, rfl, x0, x1, x2, x3, x4⟩ := at_T38 HR.out (i : Int) (by omega) (by rw [← HN.out]; omega)
      have HB := HS.out.below
      have hb0 : w.heap.size < wr.heap.size := (Array.getElem?_eq_some_iff.1 HS.out.holds).1
      replace x0 := (HB.cell (World.block_lt_of_cell? w _ x0)).trans x0
      replace x1 := (HB.cell (World.block_lt_of_cell? w _ x1)).trans x1
      replace x2 := (HB.cell (World.block_lt_of_cell? w _ x2)).trans x2
      replace x3 := (HB.cell (World.block_lt_of_cell? w _ x3)).trans x3
      replace x4 := (HB.cell (World.block_lt_of_cell? w _ x4)).trans x4
      clear HB
      obtain ⟨p, hp⟩ : ∃ p, p = rd_T38 ps (i : Int) := ⟨_, rfl⟩
      rw [← hp] at x0 x1 x2 x3 x4
      rw [Int.toNat_natCast] at x0 x1 x2 x3 x4
      have HP := Aside0.mk hp
      clear hp
      go_wp2_with fail
      refine Km.upon_mapEntry ky Try.underlying122 _ zero79 l clock p.f1 p.f2 ?hh HS.out.stamps ?_
      case hh => exact HS.out.holds.other (below3.block _ hb0)
      intro st w1 hH1 hO1 hE1
      have hown := hO1.owns (pw_own_below (HS.out.rows (p.f1, p.f2)) below3) (Nat.lt_succ_self _)
      have hnew := one_new3 hO1 (by omega)
      have hsz1 : wr.heap.size ≤ w1.heap.size := by rw [hO1.size]; exact below3.size
      have HO := Aside0.mk hO1
      have HE := Aside0.mk hE1
      have HH := Aside0.mk hH1
      have HOW := Aside0.mk hown
      have HNW := Aside0.mk hnew
      have HG := Aside0.mk (grp_le (ps.take i) (p.f1, p.f2))
      clear hO1 hE1 hH1 hown hnew
      go_wp2_with ((with_reducible refine gate_builtin (b := .append) (xs := #[.tmp 21, .tmp 24]) rfl ?_); at_builtin; refine wpList_append_own_at _ rfl _ _ 79 rfl (w.heap.size + 1) 9 i0 (.string ⟨#[]⟩) 1 16 Try.underlying79 HI.out HZ.out.1 HZ.out.2.1 HZ.out.2.2 rfl (by decide) _ _ _ rfl HOW.out ⟨wr.heap.size + 1 + 1, 0, none⟩ 1 1 [.string p.f3] rfl rfl HNW.out ?hone ?hmax ?hbytes ?hbase ?_; (case hone => simp [Value.oneCell']); (case hmax => have := HG.out; have := List.length_take_le i ps; simp only [maxLen]; omega); (case hbytes => have := HG.out; have := List.length_take_le i ps; omega); (case hbase => omega); intro v' w2 hrow hg2 _ hat2; have HR2 := Aside0.mk hrow; have HG2 := Aside0.mk hg2; have HA2 := Aside0.mk hat2; clear hrow hg2 hat2)
      have hH2 := holds_grown HH.out HG2.out HOW.out
      refine Km.upon_entryStore hH2 (HE.out _ _ hH2) ?_
      intro w3 hH3 hO3
      have HF := Aside0.mk (HS.out.step (p := p) below3 HO.out HG2.out HR2.out HA2.out hO3 hH3)
      clear hH2 hH3 hO3
      go_wp2
      go_roundw
      case rel => exact ⟨i + 1, _, _, by omega, by go_num, ⟨by rw [take_next HP.out (by rw [← HN.out]; omega)]; exact HF.out⟩⟩
      case measure => simp [intOf]; omega
    · go_wp2_with fail
      go_ret
      exact ⟨l, clock, rfl, by have := HS.out; rw [List.take_of_length_le (by rw [← HN.out]; omega)] at this; exact this⟩

/-! ### By hand: spec.first -/
def gkey (g : S35) : Int × Int := (g.f0, g.f1)
def firstF (nx : List ByteArray → ByteArray → Option (List ByteArray)) : List S35 → (Int × Int → List ByteArray) → Int → Int
  | [], _, _ => -1
  | g :: gs, left, i =>
    match nx (left (gkey g)) g.f2 with
    | none => i
    | some r => firstF nx gs (fun k => if k = gkey g then r else left k) (i + 1)
theorem firstF_none {nx : List ByteArray → ByteArray → Option (List ByteArray)} {g : S35} {gs : List S35} {left : Int × Int → List ByteArray} {i : Int} (h : nx (left (gkey g)) g.f2 = none) : firstF nx (g :: gs) left i = i := by
  simp only [firstF, h]
theorem firstF_some {nx : List ByteArray → ByteArray → Option (List ByteArray)} {g : S35} {gs : List S35} {left : Int × Int → List ByteArray} {i : Int} {r : List ByteArray} (h : nx (left (gkey g)) g.f2 = some r) :
    firstF nx (g :: gs) left i = firstF nx gs (fun k => if k = gkey g then r else left k) (i + 1) := by
  simp only [firstF, h]
/-- A value that reads as a list of texts. -/
def SlV (W : World) (v : Value) (xs : List ByteArray) : Prop := ∃ A c, v = .slice A xs.length c ∧ xs.length ≤ c ∧ Kd.C Kd.string W A xs.length xs
theorem C_cells {W W1 : World} {A : Option Addr} {xs : List ByteArray} (h : Kd.C Kd.string W A xs.length xs) (hk : ∀ a v, W.cell? a = some v → W1.cell? a = some v) : Kd.C Kd.string W1 A xs.length xs := by
  refine ⟨h.1, h.2.1, fun hn => ?_⟩
  obtain ⟨ad, e, hc⟩ := h.2.2 hn
  refine ⟨ad, e, fun j p hj => ?_⟩
  obtain ⟨c, h1, h2, h3⟩ := hc j p hj
  exact ⟨c, h1, h2, fun i u hu => hk _ _ (h3 i u hu)⟩
structure FirstInv (w0 wr : World) (l : Km.Ents) (clock : Nat) (left : Int × Int → List ByteArray) : Prop where
  holds : Km.Holds wr w0.heap.size l clock
  rows : ∀ k, SlV wr (Km.val (.slice none 0 0) k l) (left k)
  below : Below w0.heap.size w0 wr
theorem FirstInv.start {w0 w : World} {l : Km.Ents} {clock : Nat} {ps : List S38} (h : SortInv w0 w l clock ps) : FirstInv w0 w l clock (grp ps) where
  holds := h.holds
  rows := fun k => by
    have ho := h.rows k
    obtain ⟨A, c, e, hl, hr⟩ := own_reads_of_le (d := ByteArray.empty) (enc := Value.string) ho
    exact ⟨A, c, e, hl, Kd.C_of_reads (h1 := fun _ => rfl) hr⟩
  below := h.below
theorem keep_one {w0 wr W w1 : World} {l : Km.Ents} {clock : Nat} (h : Km.Holds wr w0.heap.size l clock) (hW : Below wr.heap.size wr W) (h1 : Km.OneBlock W w1 w0.heap.size) : ∀ a v, wr.cell? a = some v → w1.cell? a = some v := by
  intro a v ha
  have hne : a.block ≠ w0.heap.size := by
    intro e
    have h' : wr.heap[a.block]? = some (.map (l.map Km.mkE).toArray clock) := by rw [e]; exact h
    simp [World.cell?, h'] at ha
  rw [h1.cell a hne]
  exact (hW.cell (World.block_lt_of_cell? wr a ha)).trans ha
theorem FirstInv.step {w0 wr W w1 : World} {l : Km.Ents} {clock : Nat} {left : Int × Int → List ByteArray} {k0 : Int × Int} {v : Value} {r : List ByteArray} (h : FirstInv w0 wr l clock left) (hW : Below wr.heap.size wr W)
    (h1 : Km.OneBlock W w1 w0.heap.size) (hv : SlV wr v r) (hH : Km.Holds w1 w0.heap.size (Km.upd k0 v clock l) (Km.clk k0 l clock)) :
    FirstInv w0 w1 (Km.upd k0 v clock l) (Km.clk k0 l clock) (fun k => if k = k0 then r else left k) := by
  have hb0 : w0.heap.size < wr.heap.size := (Array.getElem?_eq_some_iff.1 h.holds).1
  have hBW : Below w0.heap.size w0 W := h.below.trans (hW.mono (by omega))
  refine ⟨hH, fun k => ?_, h1.below hBW (Nat.le_refl _) hBW.size⟩
  rw [Km.val_upd]
  by_cases e : k = k0
  · rw [if_pos e, if_pos e]
    obtain ⟨A, c, e1, e2, e3⟩ := hv
    exact ⟨A, c, e1, e2, C_cells e3 (keep_one h.holds hW h1)⟩
  · rw [if_neg e, if_neg e]
    obtain ⟨A, c, e1, e2, e3⟩ := h.rows k
    exact ⟨A, c, e1, e2, C_cells e3 (keep_one h.holds hW h1)⟩
theorem below2 {w : World} {x y : Obj} : Below w.heap.size w ((w.alloc x).alloc y) := ((Below.refl _ w).alloc (Nat.le_refl _) x).alloc (by simp) y
theorem below_drewN {w W : World} (h : Below w.heap.size w W) (n : Nat) : Below w.heap.size w (W.drewN n) := pw_below_drewN h n
set_option maxHeartbeats 4000000 in
set_option maxRecDepth 100000 in
theorem first38_calls (A0 : Option Addr) (c0 : Nat) (gs : List S35) (A1 : Option Addr) (c1 : Nat) (ps : List S38) (w : World) (hr0 : Kd.C k35 w A0 gs.length gs) (hc0 : gs.length ≤ c0) (hr1 : Kd.C k38 w A1 ps.length ps) (hc1 : ps.length ≤ c1) (hl : ps.length < 2932031007402) :
    Calls Try.prog 37 #[.slice A0 gs.length c0, .slice A1 ps.length c1, .func (.func 38) #[] #[]] w fun e w' => e = .returned (.int .i64 (firstF pnext gs (grp ps) 0)) ∧ Below w.heap.size w w' := by
  have HR := Aside0.mk hr0
  have hm0 := hr0.2.1
  have HC1 := Aside0.mk (sorted_calls A1 c1 ps w hr1 hc1 hl)
  clear hr0 hc0 hr1 hc1 hl
  obtain ⟨R, hR⟩ : ∃ R, R = firstF pnext gs (grp ps) 0 := ⟨_, rfl⟩
  rw [← hR]
  have HRR := Aside0.mk hR
  clear hR
  obtain ⟨n, hn⟩ : ∃ n, n = gs.length := ⟨_, rfl⟩
  rw [← hn] at hm0 ⊢
  have HN := Aside0.mk hn
  clear hn
  go_enter Try.func37, Try.ntmps37
  go_wp2_with (go_at_call 74; refine HC1.out.mono ?_; intro e w1 hp; obtain ⟨l0, clock0, rfl, hS⟩ := hp; have HS0 := Aside0.mk (FirstInv.start hS); clear hS)
  go_loopw [17] (fun v17 wr => ∃ (i : Nat) (l : Km.Ents) (clock : Nat) (left : Int × Int → List ByteArray), i ≤ n ∧ v17 = .int .i64 i ∧ Aside0 (FirstInv w wr l clock left) ∧ Aside0 (R = firstF pnext (gs.drop i) left i)) (fun v17 _ => n - (intOf v17).toNat)
  case atStart => exact ⟨0, l0, clock0, grp ps, Nat.zero_le _, rfl, HS0, ⟨by simpa using HRR.out⟩⟩
  case round =>
    clear HS0
    obtain ⟨i, l, clock, left, hi, rfl, HS, HV⟩ := hrel
    by_cases hlt : i < n
    · obtain ⟨ad, rfl, x0, x1, x2⟩ := at_T35 HR.out (i : Int) (by omega) (by rw [← HN.out]; omega)
      have HB := HS.out.below
      have hb0 : w.heap.size < wr.heap.size := (Array.getElem?_eq_some_iff.1 HS.out.holds).1
      replace x0 := (HB.cell (World.block_lt_of_cell? w _ x0)).trans x0
      replace x1 := (HB.cell (World.block_lt_of_cell? w _ x1)).trans x1
      replace x2 := (HB.cell (World.block_lt_of_cell? w _ x2)).trans x2
      clear HB
      have hdrop : gs.drop i = rd_T35 gs (i : Int) :: gs.drop (i + 1) := by
        have h1 : i < gs.length := by rw [← HN.out]; exact hlt
        rw [List.drop_eq_getElem_cons h1]
        simp [rd_T35, List.getElem?_eq_getElem h1]
      obtain ⟨g, hg⟩ : ∃ g, g = rd_T35 gs (i : Int) := ⟨_, rfl⟩
      rw [← hg] at x0 x1 x2 hdrop
      clear hg
      rw [Int.toNat_natCast] at x0 x1 x2
      have HD := Aside0.mk hdrop
      clear hdrop
      obtain ⟨Ak, ck, hval, hle, hCk⟩ := HS.out.rows (g.f0, g.f1)
      obtain ⟨v1, v2, hNV, hcl⟩ := pnext_calls Ak ck (left (g.f0, g.f1)) g.f2 wr hCk hle
      obtain ⟨W, hW⟩ : ∃ W, W = ((wr.alloc (.cells #[.int .i64 g.f0, .int .i64 g.f1, .string g.f2] 35)).alloc (.cells #[.int .i64 g.f0, .int .i64 g.f1] 124)) := ⟨_, rfl⟩
      have hBW : Below wr.heap.size wr W := hW ▸ below2
      have hcall := fun nq => hcl (W.drewN nq) (Kd.C_below hCk (pw_below_drewN hBW nq))
      have hlk : ∀ nq, (Instr.lookup 122 (.map (some w.heap.size)) (.agg #[.int .i64 g.f0, .int .i64 g.f1]) false).run Try.prog (W.drewN nq) = .ok (.slice Ak (left (g.f0, g.f1)).length ck) (W.drewN nq) := fun nq => by
        have := Km.lookup (P := Try.prog) ky Try.underlying122 zero79 (HS.out.holds.other ((pw_below_drewN hBW nq).block _ hb0)) (g.f0, g.f1)
        rw [hval] at this
        exact this
      rw [hW] at hcall hlk
      obtain ⟨m, hm⟩ : ∃ m, m = (left (g.f0, g.f1)).length := ⟨_, rfl⟩
      rw [← hm] at hcall hlk
      clear hm hval hcl hBW hW W
      have HC := Aside0.mk hcall
      clear hcall
      cases hnx : pnext (left (g.f0, g.f1)) g.f2 with
      | none =>
        have hnx' : pnext (left (gkey g)) g.f2 = none := hnx
        rw [hnx] at hNV
        obtain ⟨rfl, rfl⟩ := hNV
        have HV' : Aside0 (R = i) := ⟨by rw [HV.out, HD.out, firstF_none hnx']⟩
        clear hnx hnx' HV hle hCk
        go_wp2_with fail
        go_quiet ((go_at_call 38; exact Calls.quiet_of_same (HC.out _)))
        go_wp2_with fail
        go_ret
        exact ⟨by rw [HV'.out]; rfl, pw_below_drewN (HS.out.below.trans (below2.mono (by omega))) _⟩
      | some r =>
        have hnx' : pnext (left (gkey g)) g.f2 = some r := hnx
        rw [hnx] at hNV
        obtain ⟨rfl, A', c', rfl, hle', hC'⟩ := hNV
        have HSL := Aside0.mk (show SlV wr (.slice A' r.length c') r from ⟨A', c', rfl, hle', hC' _ hCk⟩)
        have HV' : Aside0 (R = firstF pnext (gs.drop (i + 1)) (fun k => if k = gkey g then r else left k) ((i : Int) + 1)) := ⟨by rw [HV.out, HD.out, firstF_some hnx']⟩
        clear hnx hnx' HV hle hCk hle' hC'
        go_wp2_with fail
        go_quiet ((go_at_call 38; exact Calls.quiet_of_same (HC.out _)))
        go_wp2_with fail
        refine Km.upon_mapUpdate ky Try.underlying122 l clock g.f0 g.f1 _ ?hh ?_
        case hh => exact HS.out.holds.other ((pw_below_drewN below2 nq).block _ hb0)
        intro w3 hH3 hO3
        have HF := Aside0.mk (HS.out.step (k0 := gkey g) (pw_below_drewN below2 nq) hO3 HSL.out hH3)
        clear hH3 hO3
        go_wp2
        go_roundw
        case rel => exact ⟨i + 1, _, _, _, by omega, by go_num, HF, ⟨by rw [HV'.out]; congr 1⟩⟩
        case measure => simp [intOf]; omega
    · go_wp2
      go_ret
      exact ⟨by have := HV.out; rw [List.drop_of_length_le (by rw [← HN.out]; omega)] at this; rw [this]; rfl, HS.out.below⟩
set_option maxHeartbeats 4000000 in
set_option maxRecDepth 100000 in
theorem first40_calls (A0 : Option Addr) (c0 : Nat) (gs : List S35) (A1 : Option Addr) (c1 : Nat) (ps : List S38) (w : World) (hr0 : Kd.C k35 w A0 gs.length gs) (hc0 : gs.length ≤ c0) (hr1 : Kd.C k38 w A1 ps.length ps) (hc1 : ps.length ≤ c1) (hl : ps.length < 2932031007402) :
    Calls Try.prog 37 #[.slice A0 gs.length c0, .slice A1 ps.length c1, .func (.func 40) #[] #[]] w fun e w' => e = .returned (.int .i64 (firstF wnext gs (grp ps) 0)) ∧ Below w.heap.size w w' := by
  have HR := Aside0.mk hr0
  have hm0 := hr0.2.1
  have HC1 := Aside0.mk (sorted_calls A1 c1 ps w hr1 hc1 hl)
  clear hr0 hc0 hr1 hc1 hl
  obtain ⟨R, hR⟩ : ∃ R, R = firstF wnext gs (grp ps) 0 := ⟨_, rfl⟩
  rw [← hR]
  have HRR := Aside0.mk hR
  clear hR
  obtain ⟨n, hn⟩ : ∃ n, n = gs.length := ⟨_, rfl⟩
  rw [← hn] at hm0 ⊢
  have HN := Aside0.mk hn
  clear hn
  go_enter Try.func37, Try.ntmps37
  go_wp2_with (go_at_call 74; refine HC1.out.mono ?_; intro e w1 hp; obtain ⟨l0, clock0, rfl, hS⟩ := hp; have HS0 := Aside0.mk (FirstInv.start hS); clear hS)
  go_loopw [17] (fun v17 wr => ∃ (i : Nat) (l : Km.Ents) (clock : Nat) (left : Int × Int → List ByteArray), i ≤ n ∧ v17 = .int .i64 i ∧ Aside0 (FirstInv w wr l clock left) ∧ Aside0 (R = firstF wnext (gs.drop i) left i)) (fun v17 _ => n - (intOf v17).toNat)
  case atStart => exact ⟨0, l0, clock0, grp ps, Nat.zero_le _, rfl, HS0, ⟨by simpa using HRR.out⟩⟩
  case round =>
    clear HS0
    obtain ⟨i, l, clock, left, hi, rfl, HS, HV⟩ := hrel
    by_cases hlt : i < n
    · obtain ⟨ad, rfl, x0, x1, x2⟩ := at_T35 HR.out (i : Int) (by omega) (by rw [← HN.out]; omega)
      have HB := HS.out.below
      have hb0 : w.heap.size < wr.heap.size := (Array.getElem?_eq_some_iff.1 HS.out.holds).1
      replace x0 := (HB.cell (World.block_lt_of_cell? w _ x0)).trans x0
      replace x1 := (HB.cell (World.block_lt_of_cell? w _ x1)).trans x1
      replace x2 := (HB.cell (World.block_lt_of_cell? w _ x2)).trans x2
      clear HB
      have hdrop : gs.drop i = rd_T35 gs (i : Int) :: gs.drop (i + 1) := by
        have h1 : i < gs.length := by rw [← HN.out]; exact hlt
        rw [List.drop_eq_getElem_cons h1]
        simp [rd_T35, List.getElem?_eq_getElem h1]
      obtain ⟨g, hg⟩ : ∃ g, g = rd_T35 gs (i : Int) := ⟨_, rfl⟩
      rw [← hg] at x0 x1 x2 hdrop
      clear hg
      rw [Int.toNat_natCast] at x0 x1 x2
      have HD := Aside0.mk hdrop
      clear hdrop
      obtain ⟨Ak, ck, hval, hle, hCk⟩ := HS.out.rows (g.f0, g.f1)
      obtain ⟨v1, v2, hNV, hcl⟩ := wnext_calls Ak ck (left (g.f0, g.f1)) g.f2 wr hCk hle
      obtain ⟨W, hW⟩ : ∃ W, W = ((wr.alloc (.cells #[.int .i64 g.f0, .int .i64 g.f1, .string g.f2] 35)).alloc (.cells #[.int .i64 g.f0, .int .i64 g.f1] 124)) := ⟨_, rfl⟩
      have hBW : Below wr.heap.size wr W := hW ▸ below2
      have hcall := fun nq => hcl (W.drewN nq) (Kd.C_below hCk (pw_below_drewN hBW nq))
      have hlk : ∀ nq, (Instr.lookup 122 (.map (some w.heap.size)) (.agg #[.int .i64 g.f0, .int .i64 g.f1]) false).run Try.prog (W.drewN nq) = .ok (.slice Ak (left (g.f0, g.f1)).length ck) (W.drewN nq) := fun nq => by
        have := Km.lookup (P := Try.prog) ky Try.underlying122 zero79 (HS.out.holds.other ((pw_below_drewN hBW nq).block _ hb0)) (g.f0, g.f1)
        rw [hval] at this
        exact this
      rw [hW] at hcall hlk
      obtain ⟨m, hm⟩ : ∃ m, m = (left (g.f0, g.f1)).length := ⟨_, rfl⟩
      rw [← hm] at hcall hlk
      clear hm hval hcl hBW hW W
      have HC := Aside0.mk hcall
      clear hcall
      cases hnx : wnext (left (g.f0, g.f1)) g.f2 with
      | none =>
        have hnx' : wnext (left (gkey g)) g.f2 = none := hnx
        rw [hnx] at hNV
        obtain ⟨rfl, rfl⟩ := hNV
        have HV' : Aside0 (R = i) := ⟨by rw [HV.out, HD.out, firstF_none hnx']⟩
        clear hnx hnx' HV hle hCk
        go_wp2_with fail
        go_quiet ((go_at_call 40; exact Calls.quiet_of_same (HC.out _)))
        go_wp2_with fail
        go_ret
        exact ⟨by rw [HV'.out]; rfl, pw_below_drewN (HS.out.below.trans (below2.mono (by omega))) _⟩
      | some r =>
        have hnx' : wnext (left (gkey g)) g.f2 = some r := hnx
        rw [hnx] at hNV
        obtain ⟨rfl, A', c', rfl, hle', hC'⟩ := hNV
        have HSL := Aside0.mk (show SlV wr (.slice A' r.length c') r from ⟨A', c', rfl, hle', hC' _ hCk⟩)
        have HV' : Aside0 (R = firstF wnext (gs.drop (i + 1)) (fun k => if k = gkey g then r else left k) ((i : Int) + 1)) := ⟨by rw [HV.out, HD.out, firstF_some hnx']⟩
        clear hnx hnx' HV hle hCk hle' hC'
        go_wp2_with fail
        go_quiet ((go_at_call 40; exact Calls.quiet_of_same (HC.out _)))
        go_wp2_with fail
        refine Km.upon_mapUpdate ky Try.underlying122 l clock g.f0 g.f1 _ ?hh ?_
        case hh => exact HS.out.holds.other ((pw_below_drewN below2 nq).block _ hb0)
        intro w3 hH3 hO3
        have HF := Aside0.mk (HS.out.step (k0 := gkey g) (pw_below_drewN below2 nq) hO3 HSL.out hH3)
        clear hH3 hO3
        go_wp2
        go_roundw
        case rel => exact ⟨i + 1, _, _, _, by omega, by go_num, HF, ⟨by rw [HV'.out]; congr 1⟩⟩
        case measure => simp [intOf]; omega
    · go_wp2
      go_ret
      exact ⟨by have := HV.out; rw [List.drop_of_length_le (by rw [← HN.out]; omega)] at this; rw [this]; rfl, HS.out.below⟩

/-! ### By hand: spec.Prefix, spec.Within -/
def spec_Prefix.f (l0 : List S35) (l1 : List S38) : Option Int := if l1.length < 2932031007402 then some (firstF pnext l0 (grp l1) 0) else none
theorem spec_Prefix.calls (A0 : Option Addr) (c0 : Nat) (l0 : List (S35)) (A1 : Option Addr) (c1 : Nat) (l1 : List (S38)) (r : Int) (w : World) (hr0 : Kd.C k35 w A0 l0.length l0) (hc0 : l0.length ≤ c0) (hr1 : Kd.C k38 w A1 l1.length l1) (hc1 : l1.length ≤ c1) (h : spec_Prefix.f l0 l1 = some r) :
    Calls Try.prog 11 #[.slice A0 l0.length c0, .slice A1 l1.length c1] w fun e w' => e = .returned (.int .i64 r) ∧ Below w.heap.size w w' := by
  by_cases hl : l1.length < 2932031007402
  · simp only [spec_Prefix.f, if_pos hl, Option.some.injEq] at h
    have HC := Aside0.mk (first38_calls A0 c0 l0 A1 c1 l1 w hr0 hc0 hr1 hc1 hl)
    rw [h] at HC
    clear hr0 hc0 hr1 hc1 hl h
    go_enter Try.func11, Try.ntmps11
    go_wp2_with (go_at_call 37; refine HC.out.mono ?_; rintro e w1 ⟨rfl, hb⟩)
    go_ret
    exact ⟨rfl, hb⟩
  · simp [spec_Prefix.f, hl] at h
def spec_Within.f (l0 : List S35) (l1 : List S38) : Option Int := if l1.length < 2932031007402 then some (firstF wnext l0 (grp l1) 0) else none
theorem spec_Within.calls (A0 : Option Addr) (c0 : Nat) (l0 : List (S35)) (A1 : Option Addr) (c1 : Nat) (l1 : List (S38)) (r : Int) (w : World) (hr0 : Kd.C k35 w A0 l0.length l0) (hc0 : l0.length ≤ c0) (hr1 : Kd.C k38 w A1 l1.length l1) (hc1 : l1.length ≤ c1) (h : spec_Within.f l0 l1 = some r) :
    Calls Try.prog 13 #[.slice A0 l0.length c0, .slice A1 l1.length c1] w fun e w' => e = .returned (.int .i64 r) ∧ Below w.heap.size w w' := by
  by_cases hl : l1.length < 2932031007402
  · simp only [spec_Within.f, if_pos hl, Option.some.injEq] at h
    have HC := Aside0.mk (first40_calls A0 c0 l0 A1 c1 l1 w hr0 hc0 hr1 hc1 hl)
    rw [h] at HC
    clear hr0 hc0 hr1 hc1 hl h
    go_enter Try.func13, Try.ntmps13
    go_wp2_with (go_at_call 37; refine HC.out.mono ?_; rintro e w1 ⟨rfl, hb⟩)
    go_ret
    exact ⟨rfl, hb⟩
  · simp [spec_Within.f, hl] at h

/-! ### aerialref30_of: function 39 -/
def aerialref30_of.l0 : Nat → List (S38) → Int → Int → List (S38) → Int → Option ((List (S38)))
  | 0, _, _, _, _, _ => none
  | k + 1, x0, x1, x2, x7, x8 => if x8 < (x0.length : Int) then (if 0 ≤ x8 then (if ((rd_T38 x0 x8).f1) = x1 then (if ((rd_T38 x0 x8).f2) = x2 then (if x7.length < 2932031007402 then (aerialref30_of.l0 k x0 x1 x2 (x7 ++ [(⟨(rd_T38 x0 x8).f0, (rd_T38 x0 x8).f1, (rd_T38 x0 x8).f2, (rd_T38 x0 x8).f3, (rd_T38 x0 x8).f4⟩ : S38)]) (wrap64 (x8 + 1))) else (none)) else (aerialref30_of.l0 k x0 x1 x2 x7 (wrap64 (x8 + 1)))) else (aerialref30_of.l0 k x0 x1 x2 x7 (wrap64 (x8 + 1)))) else (none)) else (some x7)
def aerialref30_of.f (k : Nat) (l0 : List (S38)) (a1 : Int) (a2 : Int) : Option ((List (S38))) := aerialref30_of.l0 k l0 a1 a2 ([] : List (S38)) 0
theorem aerialref30_of.mono_l : ∀ k, (∀ y0 y1 y2 y3 y4, LeO (aerialref30_of.l0 k y0 y1 y2 y3 y4) (aerialref30_of.l0 (k + 1) y0 y1 y2 y3 y4))
  | 0 => fun _ _ _ _ _ r h => by simp [aerialref30_of.l0] at h
  | k + 1 => by
    have ih0 := aerialref30_of.mono_l k
    · intro y0 y1 y2 y3 y4
      unfold aerialref30_of.l0
      repeat' first
      | (with_reducible exact ih0 _ _ _ _ _)
      | (with_reducible exact LeO.refl _)
      | (with_reducible exact LeO.none _)
      | (with_reducible refine LeO.ite ?_ ?_)
      | (with_reducible refine LeO.bind ?_ (fun _ => ?_))
      | exact ih0 _ _ _ _ _
      | exact LeO.none _
      | refine LeO.ite ?_ ?_
      | refine LeO.bind ?_ (fun _ => ?_)
theorem aerialref30_of.mono : ∀ a0 a1 a2 k, LeO (aerialref30_of.f k a0 a1 a2) (aerialref30_of.f (k + 1) a0 a1 a2) := by
  intro a0 a1 a2 k
  have ih0 := aerialref30_of.mono_l k
  unfold aerialref30_of.f
  repeat' first
      | (with_reducible exact ih0 _ _ _ _ _)
      | (with_reducible exact LeO.refl _)
      | (with_reducible exact LeO.none _)
      | (with_reducible refine LeO.ite ?_ ?_)
      | (with_reducible refine LeO.bind ?_ (fun _ => ?_))
      | exact ih0 _ _ _ _ _
      | exact LeO.none _
      | refine LeO.ite ?_ ?_
      | refine LeO.bind ?_ (fun _ => ?_)
set_option maxHeartbeats 8000000 in
set_option maxRecDepth 100000 in
theorem aerialref30_of.calls (k : Nat) (A0 : Option Addr) (c0 : Nat) (l0 : List (S38)) (a1 : Int) (a2 : Int) (r : List (S38)) (w : World) (hr0 : Kd.C k38 w A0 l0.length l0) (hc0 : l0.length ≤ c0) (h : aerialref30_of.f k l0 a1 a2 = some r) :
    Calls Try.prog 39 #[.slice A0 l0.length c0, .int .i64 a1, .int .i64 a2] w fun e w' => ∃ v0_ : Value, e = .returned (v0_) ∧ Kd.R k38 38 w' w.heap.size (fun _ => True) v0_ r ∧ Below w.heap.size w w' := by
  have hu38 := Try.underlying38
  have HR0 := Aside0.mk hr0
  have HC0 := Aside0.mk hc0
  clear hr0 hc0
  have HB := Aside0.mk (Below.refl w.heap.size w)
  have H : (aerialref30_of.l0 k l0 a1 a2 ([] : List (S38)) 0) = some r := h
  clear h
  have H' := Aside0.mk H
  clear H
  go_enter Try.func39, Try.ntmps39
  go_wp2
  go_loopg [7, 8] k (fun kq v7 v8 w' => ∃ (x7_1 : List (S38)) (x8_1 : Int), v8 = .int .i64 x8_1 ∧ Aside0 (aerialref30_of.l0 kq l0 a1 a2 x7_1 x8_1 = some r) ∧ Aside0 (kq ≤ k) ∧ Aside0 (Kd.R k38 38 w' w.heap.size (fun _ => True) v7 x7_1) ∧ Aside0 (Below w.heap.size w w'))
  case atStart => exact ⟨(([] : List (S38))), (0), (by first | rfl | (simp; done) | (simp [*]; done)), H', ⟨Nat.le_refl _⟩, ⟨by first | exact Kd.R_nil _ _ _ _ _ | exact Kd.N_nil _ _ _ _ _ | exact Kd.V_nil _ _ _ _ _ | exact Kd.Q_nil _ _ _ _ _ | exact Kd.S_nil _ _ _ _ _⟩, ⟨by repeat (first | (with_reducible first | exact HB.out | apply below_alloc | apply pw_below_drewN | apply below_drew1) | exact HB.out)⟩⟩
  case round =>
    clear H'
    try clear p2
    try clear c3
    obtain ⟨x7_1, x8_1, rfl, HA, HK1, HO_7, HB⟩ := hrel
    cases gk with
    | zero => exact absurd HA.out (by simp [aerialref30_of.l0])
    | succ k1 =>
      have H := HA.out
      clear HA
      simp only [aerialref30_of.l0] at H
      by_cases c4 : x8_1 < (l0.length : Int)
      · rw [if_pos c4] at H
        have c4b0 : decide (x8_1 < (l0.length : Int)) = true := decide_eq_true c4
        clear c4
        by_cases c5 : 0 ≤ x8_1
        · rw [if_pos c5] at H
          have c5b0 : decide (0 ≤ x8_1) = true := decide_eq_true c5
          clear c5
          by_cases c6 : ((rd_T38 l0 x8_1).f1) = a1
          · rw [if_pos c6] at H
            have c6b0 : (((rd_T38 l0 x8_1).f1) == a1) = true := beq_iff_eq.mpr c6
            have c6b1 : (((rd_T38 l0 x8_1).f1) != a1) = false := bne_eq_false_iff_eq.mpr c6
            clear c6
            by_cases c7 : ((rd_T38 l0 x8_1).f2) = a2
            · rw [if_pos c7] at H
              have c7b0 : (((rd_T38 l0 x8_1).f2) == a2) = true := beq_iff_eq.mpr c7
              have c7b1 : (((rd_T38 l0 x8_1).f2) != a2) = false := bne_eq_false_iff_eq.mpr c7
              clear c7
              by_cases c8 : x7_1.length < 2932031007402
              · rw [if_pos c8] at H
                have LMc8 := Aside0.mk c8
                clear c8
                obtain ⟨y104, hy104⟩ : ∃ y_ : List (S38), y_ = (x7_1 ++ [(⟨(rd_T38 l0 x8_1).f0, (rd_T38 l0 x8_1).f1, (rd_T38 l0 x8_1).f2, (rd_T38 l0 x8_1).f3, (rd_T38 l0 x8_1).f4⟩ : S38)]) := ⟨_, rfl⟩
                replace H : (aerialref30_of.l0 k1 l0 a1 a2 y104 (wrap64 (x8_1 + 1))) = some r := by first | (rw [hy104]; with_reducible exact H) | (have H2_ := (Option.bind_some _ _).symm.trans H; rw [hy104]; with_reducible exact H2_) | (have H2_ := (Option.bind_some _ _).symm.trans H; with_reducible exact H2_) | with_reducible exact H | (rw [hy104]; exact H) | exact H
                have Ny104 := Aside0.mk hy104
                clear hy104
                have H' := Aside0.mk H
                clear H
                have p101 : 0 ≤ (x8_1 : Int) := of_decide_eq_true (by first | (with_reducible assumption) | assumption)
                have q101 : x8_1 < (l0.length : Int) := of_decide_eq_true (by first | (with_reducible assumption) | assumption)
                obtain ⟨ad101, e101, hx101_0, hx101_1, hx101_2, hx101_3, hx101_4⟩ := at_T38 HR0.out x8_1 p101 q101
                cases e101
                replace hx101_0 := (HB.out.cell (World.block_lt_of_cell? w _ hx101_0)).trans hx101_0
                replace hx101_1 := (HB.out.cell (World.block_lt_of_cell? w _ hx101_1)).trans hx101_1
                replace hx101_2 := (HB.out.cell (World.block_lt_of_cell? w _ hx101_2)).trans hx101_2
                replace hx101_3 := (HB.out.cell (World.block_lt_of_cell? w _ hx101_3)).trans hx101_3
                replace hx101_4 := (HB.out.cell (World.block_lt_of_cell? w _ hx101_4)).trans hx101_4
                replace p101 := eq_true p101
                replace q101 := eq_true q101
                have p102 : 0 ≤ (x8_1 : Int) := of_decide_eq_true (by first | (with_reducible assumption) | assumption)
                have q102 : x8_1 < (l0.length : Int) := of_decide_eq_true (by first | (with_reducible assumption) | assumption)
                obtain ⟨ad102, e102, hx102_0, hx102_1, hx102_2, hx102_3, hx102_4⟩ := at_T38 HR0.out x8_1 p102 q102
                obtain rfl : ad101 = ad102 := (by injection e102)
                replace hx102_0 := (HB.out.cell (World.block_lt_of_cell? w _ hx102_0)).trans hx102_0
                replace hx102_1 := (HB.out.cell (World.block_lt_of_cell? w _ hx102_1)).trans hx102_1
                replace hx102_2 := (HB.out.cell (World.block_lt_of_cell? w _ hx102_2)).trans hx102_2
                replace hx102_3 := (HB.out.cell (World.block_lt_of_cell? w _ hx102_3)).trans hx102_3
                replace hx102_4 := (HB.out.cell (World.block_lt_of_cell? w _ hx102_4)).trans hx102_4
                replace p102 := eq_true p102
                replace q102 := eq_true q102
                have p103 : 0 ≤ (x8_1 : Int) := of_decide_eq_true (by first | (with_reducible assumption) | assumption)
                have q103 : x8_1 < (l0.length : Int) := of_decide_eq_true (by first | (with_reducible assumption) | assumption)
                obtain ⟨ad103, e103, hx103_0, hx103_1, hx103_2, hx103_3, hx103_4⟩ := at_T38 HR0.out x8_1 p103 q103
                obtain rfl : ad101 = ad103 := (by injection e103)
                replace hx103_0 := (HB.out.cell (World.block_lt_of_cell? w _ hx103_0)).trans hx103_0
                replace hx103_1 := (HB.out.cell (World.block_lt_of_cell? w _ hx103_1)).trans hx103_1
                replace hx103_2 := (HB.out.cell (World.block_lt_of_cell? w _ hx103_2)).trans hx103_2
                replace hx103_3 := (HB.out.cell (World.block_lt_of_cell? w _ hx103_3)).trans hx103_3
                replace hx103_4 := (HB.out.cell (World.block_lt_of_cell? w _ hx103_4)).trans hx103_4
                replace p103 := eq_true p103
                replace q103 := eq_true q103
                go_wp2_with (first | ((with_reducible refine gate_builtin (b := .append) (xs := #[.tmp 31, .tmp 36]) rfl ?_); at_builtin; refine Kd.R_append k38 (w0 := w) w.heap.size rfl (.tmp 31) (.tmp 36) 23 38 (.agg #[(.int .u64 0), (.int .i64 0), (.int .i64 0), (.string ⟨#[]⟩), (.int .u64 0)]) 48 rfl Try.underlying23 info38 rfl (by decide) (by omega) u7 x7_1 (⟨(rd_T38 l0 x8_1).f0, (rd_T38 l0 x8_1).f1, (rd_T38 l0 x8_1).f2, (rd_T38 l0 x8_1).f3, (rd_T38 l0 x8_1).f4⟩ : S38) [.int .u64 ((rd_T38 l0 x8_1).f0), .int .i64 ((rd_T38 l0 x8_1).f1), .int .i64 ((rd_T38 l0 x8_1).f2), .string ((rd_T38 l0 x8_1).f3), .int .u64 ((rd_T38 l0 x8_1).f4)] (fun _ => True) (fun _ => False) rfl rfl ?aP (fun _ hk => hk.elim) ?aF ?aO ?aB ?aS ?aL ?_; (case aP => exact k38_mkM _ _ _ (⟨(rd_T38 l0 x8_1).f0, (rd_T38 l0 x8_1).f1, (rd_T38 l0 x8_1).f2, (rd_T38 l0 x8_1).f3, (rd_T38 l0 x8_1).f4⟩ : S38)); (case aB => exact (by repeat (first | (with_reducible first | exact HB.out | apply below_alloc | apply pw_below_drewN | apply below_drew1) | exact HB.out))); (case aF => exact (fun _ _ => trivial)); (case aO => exact (by (with_reducible repeat (first | apply Kd.R_alloc | apply Kd.R_drewN | apply Kd.R_drew)); exact HO_7.out)); (case aS => exact (below_size (by repeat (first | (with_reducible first | exact HB.out | apply below_alloc | apply pw_below_drewN | apply below_drew1) | exact HB.out)))); (case aL => have := LMc8.out; omega); intro v105 w9 ho hb hg hat; rw [← Ny104.out] at ho; have n0_ := Aside0.mk (hb); have n1_ := Aside0.mk (ho); clear HB; clear HO_7; have HB := n0_; have HO106 := n1_; clear n0_ n1_; clear ho hb hg hat))
                go_roundg k1
                case measure => have := HK1.out; omega
                case rel => exact ⟨(y104), (wrap64 (x8_1 + 1)), (by first | rfl | (simp; done) | (simp [*]; done)), H', ⟨by have := HK1.out; omega⟩, ⟨by (with_reducible repeat (first | apply Kd.R_alloc | apply Kd.R_drewN | apply Kd.R_drew)); exact HO106.out⟩, ⟨by repeat (first | (with_reducible first | exact HB.out | apply below_alloc | apply pw_below_drewN | apply below_drew1) | exact HB.out)⟩⟩
              · rw [if_neg c8] at H
                exact absurd H (by simp)
            · rw [if_neg c7] at H
              have c7b0 : (((rd_T38 l0 x8_1).f2) == a2) = false := beq_eq_false_iff_ne.mpr c7
              have c7b1 : (((rd_T38 l0 x8_1).f2) != a2) = true := bne_iff_ne.mpr c7
              have H' := Aside0.mk H
              clear H
              have p101 : 0 ≤ (x8_1 : Int) := of_decide_eq_true (by first | (with_reducible assumption) | assumption)
              have q101 : x8_1 < (l0.length : Int) := of_decide_eq_true (by first | (with_reducible assumption) | assumption)
              obtain ⟨ad101, e101, hx101_0, hx101_1, hx101_2, hx101_3, hx101_4⟩ := at_T38 HR0.out x8_1 p101 q101
              cases e101
              replace hx101_0 := (HB.out.cell (World.block_lt_of_cell? w _ hx101_0)).trans hx101_0
              replace hx101_1 := (HB.out.cell (World.block_lt_of_cell? w _ hx101_1)).trans hx101_1
              replace hx101_2 := (HB.out.cell (World.block_lt_of_cell? w _ hx101_2)).trans hx101_2
              replace hx101_3 := (HB.out.cell (World.block_lt_of_cell? w _ hx101_3)).trans hx101_3
              replace hx101_4 := (HB.out.cell (World.block_lt_of_cell? w _ hx101_4)).trans hx101_4
              replace p101 := eq_true p101
              replace q101 := eq_true q101
              have p102 : 0 ≤ (x8_1 : Int) := of_decide_eq_true (by first | (with_reducible assumption) | assumption)
              have q102 : x8_1 < (l0.length : Int) := of_decide_eq_true (by first | (with_reducible assumption) | assumption)
              obtain ⟨ad102, e102, hx102_0, hx102_1, hx102_2, hx102_3, hx102_4⟩ := at_T38 HR0.out x8_1 p102 q102
              obtain rfl : ad101 = ad102 := (by injection e102)
              replace hx102_0 := (HB.out.cell (World.block_lt_of_cell? w _ hx102_0)).trans hx102_0
              replace hx102_1 := (HB.out.cell (World.block_lt_of_cell? w _ hx102_1)).trans hx102_1
              replace hx102_2 := (HB.out.cell (World.block_lt_of_cell? w _ hx102_2)).trans hx102_2
              replace hx102_3 := (HB.out.cell (World.block_lt_of_cell? w _ hx102_3)).trans hx102_3
              replace hx102_4 := (HB.out.cell (World.block_lt_of_cell? w _ hx102_4)).trans hx102_4
              replace p102 := eq_true p102
              replace q102 := eq_true q102
              go_wp2
              go_roundg k1
              case measure => have := HK1.out; omega
              case rel => exact ⟨(x7_1), (wrap64 (x8_1 + 1)), (by first | rfl | (simp; done) | (simp [*]; done)), H', ⟨by have := HK1.out; omega⟩, ⟨by (with_reducible repeat (first | apply Kd.R_alloc | apply Kd.R_drewN | apply Kd.R_drew)); exact HO_7.out⟩, ⟨by repeat (first | (with_reducible first | exact HB.out | apply below_alloc | apply pw_below_drewN | apply below_drew1) | exact HB.out)⟩⟩
          · rw [if_neg c6] at H
            have c6b0 : (((rd_T38 l0 x8_1).f1) == a1) = false := beq_eq_false_iff_ne.mpr c6
            have c6b1 : (((rd_T38 l0 x8_1).f1) != a1) = true := bne_iff_ne.mpr c6
            have H' := Aside0.mk H
            clear H
            have p101 : 0 ≤ (x8_1 : Int) := of_decide_eq_true (by first | (with_reducible assumption) | assumption)
            have q101 : x8_1 < (l0.length : Int) := of_decide_eq_true (by first | (with_reducible assumption) | assumption)
            obtain ⟨ad101, e101, hx101_0, hx101_1, hx101_2, hx101_3, hx101_4⟩ := at_T38 HR0.out x8_1 p101 q101
            cases e101
            replace hx101_0 := (HB.out.cell (World.block_lt_of_cell? w _ hx101_0)).trans hx101_0
            replace hx101_1 := (HB.out.cell (World.block_lt_of_cell? w _ hx101_1)).trans hx101_1
            replace hx101_2 := (HB.out.cell (World.block_lt_of_cell? w _ hx101_2)).trans hx101_2
            replace hx101_3 := (HB.out.cell (World.block_lt_of_cell? w _ hx101_3)).trans hx101_3
            replace hx101_4 := (HB.out.cell (World.block_lt_of_cell? w _ hx101_4)).trans hx101_4
            replace p101 := eq_true p101
            replace q101 := eq_true q101
            go_wp2
            go_roundg k1
            case measure => have := HK1.out; omega
            case rel => exact ⟨(x7_1), (wrap64 (x8_1 + 1)), (by first | rfl | (simp; done) | (simp [*]; done)), H', ⟨by have := HK1.out; omega⟩, ⟨by (with_reducible repeat (first | apply Kd.R_alloc | apply Kd.R_drewN | apply Kd.R_drew)); exact HO_7.out⟩, ⟨by repeat (first | (with_reducible first | exact HB.out | apply below_alloc | apply pw_below_drewN | apply below_drew1) | exact HB.out)⟩⟩
        · rw [if_neg c5] at H
          exact absurd H (by simp)
      · rw [if_neg c4] at H
        have c4b0 : decide (x8_1 < (l0.length : Int)) = false := decide_eq_false c4
        clear c4
        obtain rfl := Option.some.inj H
        go_wp2
        go_ret
        exact ⟨_, by first | rfl | (simp [errW_none, errW_some] <;> rfl) | (simp [*, errW_none, errW_some] <;> rfl), by (with_reducible repeat (first | apply Kd.R_alloc | apply Kd.R_drewN | apply Kd.R_drew)); exact HO_7.out, by repeat (first | (with_reducible first | exact HB.out | apply below_alloc | apply pw_below_drewN | apply below_drew1) | exact HB.out)⟩

end Go.Proofs.Ytcmcgjjhbjlkpaa.Sp
