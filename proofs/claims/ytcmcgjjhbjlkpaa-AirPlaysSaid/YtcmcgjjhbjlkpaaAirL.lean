import Derived.Test.YtcmcgjjhbjlkpaaAirR
namespace Go.Proofs.Ytcmcgjjhbjlkpaa.Air
open Go.RowKit Go.Shelf Go.Proofs.YtcmcgjjhbjlkpaaW.PrintWords Go.Proofs.YtcmcgjjhbjlkpaaW.PrintLast Go.Proofs.YtcmcgjjhbjlkpaaW.PrintMore
set_option linter.unusedVariables false
set_option linter.unusedSimpArgs false
attribute [local go_sem] Oper.semAt_some
def TB (ts : List (Int × Int)) : Prop := ∀ t ∈ ts, turnB t.1 t.2 = true
def byts (s : ByteArray) : List Int := s.data.toList.map fun b => (b.toNat : Int)
def flipF (xs : List Int) (k : Nat) : List Int := if k / 8 < xs.length then xs.set (k / 8) (bits .xor .u8 (xs.getD (k / 8) 0) (128 / 2 ^ (k % 8))) else xs
theorem flipF_length (xs : List Int) (k : Nat) : (flipF xs k).length = xs.length := by unfold flipF; split <;> simp
theorem cell_set_other (W : World) (g o i : Nat) (v : Value) (h : o ≠ i) : (W.setCell ⟨g, o, none⟩ v).cell? ⟨g, i, none⟩ = W.cell? ⟨g, i, none⟩ := by
  exact World.cell?_setCell_other _ _ _ _ (fun e => h (by injection e))
def foldF (xs : List Int) (pre : List (Fin 80)) : List Int := pre.foldl (fun ys k => flipF ys k.val) xs
theorem foldF_snoc (xs : List Int) (pre : List (Fin 80)) (x : Fin 80) : foldF xs (pre ++ [x]) = flipF (foldF xs pre) x.val := by simp [foldF]
theorem foldF_length (xs : List Int) (pre : List (Fin 80)) : (foldF xs pre).length = xs.length := by
  induction pre generalizing xs with
  | nil => rfl
  | cons k r ih => exact (ih _).trans (flipF_length xs k.val)
theorem byts_length (s : ByteArray) : (byts s).length = s.size := by rw [byts, List.length_map]; rfl
theorem fz_alloc {w : World} (o : Obj) {p : Addr} (hp : p.block < w.heap.size) : (w.alloc o).frozen? p = w.frozen? p := by unfold World.frozen?; rw [Below.heap_alloc w o _ hp]
/-- The row of bytes that the loop turns, and the box that holds its slice. -/
def RowI (w2 : World) (s : ByteArray) (cap : Nat) (pre : List (Fin 80)) (W : World) : Prop :=
  (∀ i, i < s.size → W.cell? ⟨w2.heap.size + 1, i, none⟩ = some (.int .u8 ((foldF (byts s) pre).getD i 0)) ∧ W.frozen? ⟨w2.heap.size + 1, i, none⟩ = false) ∧
  W.cell? ⟨w2.heap.size + 2, 0, none⟩ = some (.slice (some ⟨w2.heap.size + 1, 0, none⟩) s.size cap)
theorem rowI_own (w2 : World) (s : ByteArray) (cap : Nat) : Own (RowI w2 s cap) := fun pre A B row hs hg hr =>
  ⟨fun i hi => ⟨cell_kept (hs.1 i hi).1 hg hr, (frozen_kept (hs.1 i hi).1 hg hr).trans (hs.1 i hi).2⟩, cell_kept hs.2 hg hr⟩
theorem RowI.alloc {w2 W : World} {s : ByteArray} {cap : Nat} {pre : List (Fin 80)} (h : RowI w2 s cap pre W) (o : Obj) : RowI w2 s cap pre (W.alloc o) := (rowI_own w2 s cap).alloc o h
theorem flipF_get {xs : List Int} {k i : Nat} (hk : k / 8 < xs.length) (hi : i < xs.length) : (flipF xs k).getD i 0 = if i = k / 8 then bits .xor .u8 (xs.getD (k / 8) 0) (128 / 2 ^ (k % 8)) else xs.getD i 0 := by
  unfold flipF
  rw [if_pos hk]
  by_cases e : i = k / 8
  · subst e
    simp [List.getD_eq_getElem?_getD, hk]
  · rw [if_neg e]
    simp [List.getD_eq_getElem?_getD, List.getElem?_set, Ne.symm e]
theorem rowI_skip {w2 W : World} {s : ByteArray} {cap : Nat} {pre : List (Fin 80)} {k : Nat} (hk : k < 80) (h : RowI w2 s cap pre W) (hlt : ¬ k / 8 < s.size) : RowI w2 s cap (pre ++ [⟨k, hk⟩]) W := by
  refine ⟨fun i hi => ?_, h.2⟩
  rw [foldF_snoc]
  have : flipF (foldF (byts s) pre) k = foldF (byts s) pre := by
    unfold flipF
    rw [if_neg (by rw [foldF_length, byts_length]; exact hlt)]
  rw [this]
  exact h.1 i hi
theorem rowI_step {w2 W : World} {s : ByteArray} {cap : Nat} {pre : List (Fin 80)} {k : Nat} (hk : k < 80) (h : RowI w2 s cap pre W) (hlt : k / 8 < s.size) :
    RowI w2 s cap (pre ++ [⟨k, hk⟩]) (W.setCell ⟨w2.heap.size + 1, k / 8, none⟩ (.int .u8 (bits .xor .u8 ((foldF (byts s) pre)[k / 8]?.getD 0) (128 / 2 ^ (k % 8))))).drew := by
  refine ⟨fun i hi => ?_, ?_⟩
  · rw [foldF_snoc, flipF_get (by rw [foldF_length, byts_length]; exact hlt) (by rw [foldF_length, byts_length]; exact hi)]
    refine ⟨?_, ?_⟩
    · by_cases e : i = k / 8
      · rw [if_pos e]
        subst e
        show (W.setCell _ _).cell? _ = _
        rw [World.cell?_setCell_same' _ _ _ (by rw [(h.1 _ hi).1]; rfl), List.getD_eq_getElem?_getD]
      · rw [if_neg e]
        show (W.setCell _ _).cell? _ = _
        rw [cell_set_other _ _ _ _ _ (fun h => e h.symm)]
        exact (h.1 i hi).1
    · show (W.setCell _ _).frozen? _ = _
      rw [World.frozen?_setCell]
      exact (h.1 i hi).2
  · show (W.setCell _ _).cell? _ = _
    have hb : (W.setCell ⟨w2.heap.size + 1, k / 8, none⟩ (.int .u8 (bits .xor .u8 ((foldF (byts s) pre)[k / 8]?.getD 0) (128 / 2 ^ (k % 8))))).heap[w2.heap.size + 2]? = W.heap[w2.heap.size + 2]? := Below.heap_setCell W _ _ _ (by show w2.heap.size + 2 ≠ w2.heap.size + 1; omega)
    exact (World.cell?_of_block (w := W) hb).trans h.2
def passL (a m : Nat) (xs : List Int) : List Int := (upB a m 8).foldl (fun ys k => flipF ys k.val) xs
def passS (ts : List (Int × Int)) (s : ByteArray) : ByteArray := match ts with
  | [] => s
  | t :: _ => strOfNums (passL t.1.toNat t.2.toNat (byts s))
theorem Left.then {w w1 w2 : World} {base t e g : Nat} {vm vt : Value} {n : Int} {ms : List Int} {ts : List (Int × Int)} (h : Left w w1 base t e g vm vt n ms ts) (k : Below w1.heap.size w1 w2) : Left w w2 base t e g vm vt n ms ts := by
  obtain ⟨vm', vt', h1, h2, h3⟩ := h
  exact ⟨vm', vt', h1.below k, h2.trans (Keep.below (S := fun _ => False) k) (fun _ h => h.elim), h3⟩
theorem Left.after {w w1 w2 : World} {base t e g : Nat} {vm vt : Value} {n : Int} {ms' : List Int} {ts' : List (Int × Int)} {vm' vt' : Value} (k : Keep w w1 (Foot g vm vt)) (ho : ∀ k, Foot g vm' vt' k → Foot g vm vt k ∨ w.heap.size ≤ k) (h : Left w1 w2 base t e g vm' vt' n ms' ts') : Left w w2 base t e g vm vt n ms' ts' := by
  obtain ⟨vm2, vt2, h1, h2, h3⟩ := h
  refine ⟨vm2, vt2, h1, k.trans h2 ho, fun i hi => ?_⟩
  rcases h3 i hi with h | h
  · exact ho i h
  · exact .inr (Nat.le_trans k.size h)
set_option maxHeartbeats 4000000 in
set_option maxRecDepth 100000 in
theorem Pass (w : World) (base g : Nat) (vm vt : Value) (n : Int) (ms : List Int) (ts : List (Int × Int)) (s : ByteArray) (h : AirIs w base 91 99 g vm vt n ms ts) (hbase : base ≤ w.heap.size) (htb : TB ts) (hs : s.size ≤ 1000) :
    Calls Try.prog 25 #[.pointer (some ⟨g, 0, none⟩), .string s] w fun e w' => e = .returned (.tuple #[.string (passS ts s), .int .i64 (ms.headD 0), .bool (!ts.isEmpty)]) ∧ Left w w' base 91 99 g vm vt n ms.tail ts.tail := by
  have H := Aside0.mk h
  have HT := Aside0.mk htb
  clear h htb
  have hTI := takeI w base g 91 1 _ _ ms H.out.cm H.out.qm (by decide) hbase
  obtain ⟨lost, hlost⟩ : ∃ x, x = ms.headD 0 := ⟨_, rfl⟩
  rw [← hlost] at hTI ⊢
  clear hlost
  refine (callsIn_wide (n := 4)).1 ?_
  refine callsIn_of_wp_marks Try.func25 rfl trivial ?_ rfl
  simp only [Try.ntmps25, List.size_toArray, List.length_cons, List.length_nil, Nat.reduceAdd, Nat.reduceSub, Array.replicate_succ, Array.replicate_zero, List.push_toArray, List.append_toArray, List.nil_append, List.cons_append]
  gi_wp2_with fail
  refine ⟨trivial, ?_⟩
  refine (callsIn_wide.2 hTI).mono ?_
  clear hTI
  rintro e w1 ⟨v', rfl, h1, h2, h3, h4⟩
  obtain ⟨vm1, vt1, hA1, hk1, ho1⟩ := H.out.setM (by decide) (by decide) h1 h2 (h3.mono (fun i hi => .inl (.inl hi))) h4 (by have := H.out.lm; simp; omega)
  have HA1 := Aside0.mk hA1
  have HK1 := Aside0.mk hk1
  have HO1 := Aside0.mk ho1
  have hs1 := hk1.size
  clear h1 h2 h3 h4 hA1 hk1 ho1
  gi_wp2_with fail
  refine ⟨trivial, ?_⟩
  refine (callsIn_wide.2 (takeT w1 base g 91 2 _ _ ts HA1.out.ct HA1.out.qt (by decide) (Nat.le_trans hbase hs1))).mono ?_
  rintro e w2 ⟨v', rfl, h1, h2, h3, h4⟩
  have HL2 := Aside0.mk (Left.after HK1.out HO1.out (HA1.out.setT (by decide) (by decide) h1 h2 (h3.mono (fun i hi => .inl (.inl hi))) h4 (by have := H.out.lt; simp; omega)))
  clear h1 h2 h3 h4
  rcases ts with _ | ⟨t, ts⟩
  · gi_wp2
    exact ⟨_, results_tmp3 rfl _ _ _, rfl, HL2.out.then ((Below.refl _ w2).alloc (Nat.le_refl _) _)⟩
  · obtain ⟨t1, t2⟩ := t
    have hq := HT.out (t1, t2) (by simp)
    simp only [turnB, Bool.and_eq_true, decide_eq_true_eq] at hq
    obtain ⟨a, rfl⟩ : ∃ a : Nat, t1 = (a : Int) := ⟨t1.toNat, by omega⟩
    obtain ⟨m, rfl⟩ : ∃ m : Nat, t2 = (m : Int) := ⟨t2.toNat, by omega⟩
    have HL3 := Aside0.mk (HL2.out.then ((Below.refl _ w2).alloc (Nat.le_refl _) (Obj.cells #[Value.int IntKind.i64 (a : Int), Value.int IntKind.i64 (m : Int)] 99)))
    have HS := Aside0.mk (show passS (((a : Int), (m : Int)) :: ts) s = strOfNums (passL a m (byts s)) from rfl)
    have ha : a ≤ 72 := by omega
    clear hq HT
    obtain ⟨W2, eW2⟩ : ∃ W2, W2 = w2.alloc (Obj.cells #[Value.int IntKind.i64 (a : Int), Value.int IntKind.i64 (m : Int)] 99) := ⟨_, rfl⟩
    have hsz2 : W2.heap.size = w2.heap.size + 1 := by rw [eW2]; simp
    have hb2 : W2.heap[w2.heap.size]? = some (.cells #[Value.int IntKind.i64 (a : Int), Value.int IntKind.i64 (m : Int)] 99 (0, 0)) := by rw [eW2]; exact heap_alloc_new w2 _
    have hconv := Lib.run_convert_string_bytes (P := Try.prog) W2 9 33 5 s Try.underlying9 Try.underlying33 Try.underlying5
    rw [← eW2] at HL3
    obtain ⟨cap, ecap⟩ : ∃ c, c = grownCap W2 s.size 0 5 := ⟨_, rfl⟩
    obtain ⟨W3, eW3⟩ : ∃ W3, W3 = Lib.bytesWorld W2 5 s := ⟨_, rfl⟩
    have hsz3 : W3.heap.size = w2.heap.size + 2 := by rw [eW3, Lib.bytesWorld_size, hsz2]
    have hb3 : W3.heap[w2.heap.size]? = some (.cells #[Value.int IntKind.i64 (a : Int), Value.int IntKind.i64 (m : Int)] 99 (0, 0)) := by rw [eW3, Lib.bytesWorld_at_old _ _ _ _ (by omega)]; exact hb2
    have hB3 : Below W2.heap.size W2 W3 := by
      rw [eW3]
      exact ⟨rfl, rfl, rfl, by rw [Lib.bytesWorld_size]; omega, fun k hk => Lib.bytesWorld_at_old W2 5 s k hk⟩
    have HRow : Aside0 (∀ i, i < s.size → W3.cell? ⟨w2.heap.size + 1, i, none⟩ = some (.int .u8 ((byts s).getD i 0)) ∧ W3.frozen? ⟨w2.heap.size + 1, i, none⟩ = false) := by
      refine ⟨fun i hi => ?_⟩
      rw [← hsz2, eW3]
      refine ⟨?_, ?_⟩
      · rw [Lib.bytesWorld_cell W2 5 s i hi]
        have : i < s.data.toList.length := hi
        simp [byts, List.getElem?_eq_getElem this]
      · simp [World.frozen?, Lib.bytesWorld_at_new]
        have : s.size ≤ (Lib.bytesCells W2 5 s).size := by
          unfold Lib.bytesCells
          rw [Array.size_append, Array.size_map]
          exact Nat.le_add_right _ _
        omega
    rw [← eW3, ← ecap, hsz2, eW2] at hconv
    have HB23 := Aside0.mk (show Below w2.heap.size w2 W3 from ((Below.refl _ w2).alloc (Nat.le_refl _) (Obj.cells #[Value.int IntKind.i64 (a : Int), Value.int IntKind.i64 (m : Int)] 99)).trans (eW2 ▸ hB3.mono (by omega)))
    have hc0 : W3.cell? ⟨w2.heap.size, 0, none⟩ = some (.int .i64 (a : Int)) := by rw [cell_of_row W3 _ _ _ 99 (0, 0) hb3]; rfl
    have hc1 : W3.cell? ⟨w2.heap.size, 1, none⟩ = some (.int .i64 (m : Int)) := by rw [cell_of_row W3 _ _ _ 99 (0, 0) hb3]; rfl
    clear hB3 eW3 ecap HL3 hb3 eW2 hb2 hsz2
    gi_wp2_with fail
    refine ⟨trivial, ?_⟩
    refine (bits_in Fence.wide 3 trivial rfl (.bool true) _ a m).mono ?_
    rintro e w5 ⟨rfl, rfl⟩
    gi_wp2_with fail
    have hB5 : Below w2.heap.size w2 ((W3.alloc (Obj.cells #[Value.slice (some { block := w2.heap.size + 1, off := 0 }) s.size cap] 33)).alloc (Obj.cells #[Value.int IntKind.i64 (a : Int), Value.int IntKind.i64 (m : Int)] 99)) :=
      (HB23.out.alloc (by omega) _).alloc (by simp; omega) _
    have hI0 : RowI w2 s cap [] ((W3.alloc (Obj.cells #[Value.slice (some { block := w2.heap.size + 1, off := 0 }) s.size cap] 33)).alloc (Obj.cells #[Value.int IntKind.i64 (a : Int), Value.int IntKind.i64 (m : Int)] 99)) := by
      refine RowI.alloc ⟨fun i hi => ?_, ?_⟩ _
      · have hl := World.block_lt_of_cell? W3 _ (HRow.out i hi).1
        exact ⟨(World.cell?_alloc_lt _ _ _ hl).trans (HRow.out i hi).1, (fz_alloc _ hl).trans (HRow.out i hi).2⟩
      · rw [← hsz3]
        exact World.cell?_alloc_new ..
    have hbx : ((W3.alloc (Obj.cells #[Value.slice (some { block := w2.heap.size + 1, off := 0 }) s.size cap] 33)).alloc (Obj.cells #[Value.int IntKind.i64 (a : Int), Value.int IntKind.i64 (m : Int)] 99)).heap[w2.heap.size + 2 + 1]? = some (.cells #[.int .i64 (a : Int), .int .i64 (m : Int)] 99 (0, 0)) := by
      have := heap_alloc_new (W3.alloc (Obj.cells #[Value.slice (some { block := w2.heap.size + 1, off := 0 }) s.size cap] 33)) (Obj.cells #[Value.int IntKind.i64 (a : Int), Value.int IntKind.i64 (m : Int)] 99)
      rw [World.size_alloc, hsz3] at this
      exact this
    have hsz5 : ((W3.alloc (Obj.cells #[Value.slice (some { block := w2.heap.size + 1, off := 0 }) s.size cap] 33)).alloc (Obj.cells #[Value.int IntKind.i64 (a : Int), Value.int IntKind.i64 (m : Int)] 99)).heap.size = w2.heap.size + 4 := by simp; omega
    obtain ⟨W5, eW5⟩ : ∃ W5, W5 = ((W3.alloc (Obj.cells #[Value.slice (some { block := w2.heap.size + 1, off := 0 }) s.size cap] 33)).alloc (Obj.cells #[Value.int IntKind.i64 (a : Int), Value.int IntKind.i64 (m : Int)] 99)) := ⟨_, rfl⟩
    rw [← eW5] at hB5 hI0 hbx hsz5 ⊢
    clear eW5 HRow hc0 hc1 HB23 hconv
    refine wpIn_rangeFunc_ownF rfl (by omega) (gf := 75) (lb := #[.pointer (some ⟨w2.heap.size + 2 + 1, 0, none⟩)]) rfl trivial (enters_of Try.func75 (by kernel_rfl) rfl)
      (bits_stops Fence.wide 3 trivial rfl (by omega) (w2.heap.size + 2 + 1) a m ha W5 hbx) (fun h k => k.trans h) (fun W l o o' hl ho _ _ => World.putObj_heap_other (by omega)) (Below.refl _ _) (fun _ => rfl)
      (fun pre W => RowI w2 s cap pre W ∧ Below w2.heap.size w2 W)
      (fun _ _ _ => False)
      (OwnFrom.and (Own.from (rowI_own w2 s cap) _) (ownFrom_below (Nat.le_refl _) (by omega)))
      (fun _ _ _ _ _ hs _ _ => hs)
      ⟨hI0, hB5⟩
      (fun x => { tmps := #[Value.pointer (some { block := g, off := 0 }), Value.string s, undef, undef, Value.string { data := #[] }, Value.int IntKind.i64 lost, Value.bool false, Value.pointer (some { block := w2.heap.size, off := 0 }), Value.bool true, Value.pointer (some { block := w2.heap.size + 2, off := 0 }), .int .i64 (x.val : Int), Value.pointer (some { block := g, off := 0 }), Value.bool false, undef, Value.tuple #[Value.int IntKind.i64 lost, Value.bool !ms.isEmpty], Value.pointer (some { block := g, off := 0 }), Value.pointer (some { block := g, off := 0 }), Value.pointer (some { block := g, off := 1 }), Value.tuple #[Value.int IntKind.i64 lost, Value.bool !ms.isEmpty], Value.int IntKind.i64 lost, Value.bool !ms.isEmpty, Value.tuple #[Value.agg #[Value.int IntKind.i64 ↑a, Value.int IntKind.i64 ↑m], Value.bool true], Value.pointer (some { block := g, off := 0 }), Value.pointer (some { block := g, off := 0 }), Value.pointer (some { block := g, off := 2 }), Value.tuple #[Value.agg #[Value.int IntKind.i64 ↑a, Value.int IntKind.i64 ↑m], Value.bool true], Value.agg #[Value.int IntKind.i64 ↑a, Value.int IntKind.i64 ↑m], Value.bool true, Value.bool true, Value.bool false, undef, undef, Value.string s, Value.slice (some { block := w2.heap.size + 1, off := 0 }) s.size cap, Value.agg #[Value.int IntKind.i64 ↑a, Value.int IntKind.i64 ↑m], Value.func (Fn.func 75) #[] #[Value.pointer (some { block := w2.heap.size + 2 + 1, off := 0 })], .int .i64 (x.val : Int), undef, undef, undef, undef, undef, undef, undef, undef, undef, undef, undef, undef, undef, undef, undef, undef, undef, undef], defers := [] }) ?assign ?body ?done ?stop
    case assign =>
      intro l x W K hK
      gi_wp2
      exact hK
    case body =>
      rintro l pre ⟨k, hk⟩ W ⟨hI, hB⟩ _
      dsimp only
      have hcell := hI.2
      have HI := Aside0.mk hI
      have HBW := Aside0.mk hB
      clear hB
      by_cases hlt : k / 8 < s.size
      · have hc := (hI.1 _ hlt).1
        have hf := (hI.1 _ hlt).2
        clear hI
        have HIX := Aside0.mk (show W.cell? ⟨w2.heap.size + 1, k / 8, none⟩ = _ ∧ _ from ⟨hc, hf⟩)
        have hlt1 : (k : Int) / 8 < (s.size : Int) := by omega
        clear hc hf
        gi_wp2_with fail
        obtain ⟨hc, hf⟩ := HIX.out
        have hmx : Try.prog.follows .mixedOrders = true := by kernel_rfl
        obtain ⟨q, eq⟩ : ∃ q, q = k / 8 := ⟨_, rfl⟩
        obtain ⟨r, er⟩ : ∃ r, r = k % 8 := ⟨_, rfl⟩
        have HQ := Aside0.mk eq
        have HR := Aside0.mk er
        have hr8 : r < 8 := by omega
        have q1 : (k : Int) / 8 = (q : Int) := by omega
        have q2 : (k : Int).tdiv 8 = (q : Int) := by rw [Int.tdiv_eq_ediv_of_nonneg (by omega)]; exact q1
        have r1 : (k : Int) % 8 = (r : Int) := by omega
        have r2 : (k : Int).tmod 8 = (r : Int) := by rw [Int.tmod_eq_emod_of_nonneg (by omega)]; exact r1
        have w1_ : IntKind.i64.wrap (q : Int) = (q : Int) := IntWalk.i64_in _ (by omega)
        have w2_ : IntKind.i64.wrap (r : Int) = (r : Int) := IntWalk.i64_in _ (by omega)
        have hmin : min r 8 = r := by omega
        have hq0 : (q : Int) < (s.size : Int) := by omega
        rw [← eq] at hc hf hlt
        clear eq er hlt1 hbx hI0 hB5 hsz5
        refine regionIn hmx (by rintro ⟨a, w, h⟩; exact h) (by kernel_rfl) ?_
        refine wpAny_take (i := 1) (v := ?_) rfl (by kernel_rfl) (by kernel_rfl) (by kernel_rfl) (fun _ _ _ h => h) (Or.inl ⟨by rfl, ?_⟩) ?_
        rotate_left
        · intro w
          go_simp
          with_reducible rfl
        refine wpAny_take (i := 5) (v := ?_) rfl (by kernel_rfl) (by kernel_rfl) (by kernel_rfl) (fun _ _ _ h => h) (Or.inl ⟨by rfl, ?_⟩) ?_
        rotate_left
        · intro w
          go_simp
          with_reducible rfl
        refine wpAny_take (i := 2) (v := ?_) rfl (by kernel_rfl) (by kernel_rfl) (by kernel_rfl) (fun _ _ _ h => h) (Or.inl ⟨by rfl, ?_⟩) ?_
        rotate_left
        · intro w
          go_simp
          with_reducible rfl
        refine wpAny_take (i := 6) (v := ?_) rfl (by kernel_rfl) (by kernel_rfl) (by kernel_rfl) (fun _ _ _ h => h) (Or.inl ⟨by rfl, ?_⟩) ?_
        rotate_left
        · intro w
          go_simp
          with_reducible rfl
        refine wpAny_take (i := 7) (v := ?_) rfl (by kernel_rfl) (by kernel_rfl) (by kernel_rfl) (fun _ _ _ h => h) (Or.inl ⟨by rfl, ?_⟩) ?_
        rotate_left
        · intro w
          go_simp
          with_reducible rfl
        refine wpAny_ready (rs := [0]) (by kernel_rfl) (by simp) ?_
        refine AllReady.cons rfl (fun K hK => ?_) AllReady.nil
        go_simp
        refine hK _ _ ?_
        clear hK K
        refine wpAny_take (i := 3) (v := ?_) rfl (by kernel_rfl) (by kernel_rfl) (by kernel_rfl) (fun _ _ _ h => h) (Or.inl ⟨by rfl, ?_⟩) ?_
        rotate_left
        · intro w
          go_simp
          with_reducible rfl
        refine wpAny_ready (rs := [4]) (by kernel_rfl) (by simp) ?_
        refine AllReady.cons rfl (fun K hK => ?_) AllReady.nil
        go_simp
        refine hK _ _ ?_
        clear hK K
        refine wpAny_take (i := 8) (v := ?_) rfl (by kernel_rfl) (by kernel_rfl) (by kernel_rfl) (fun _ _ _ h => h) (Or.inl ⟨by rfl, ?_⟩) ?_
        rotate_left
        · intro w
          go_simp
          with_reducible rfl
        refine wpAny_take (i := 9) (v := ?_) rfl (by kernel_rfl) (by kernel_rfl) (by kernel_rfl) (fun _ _ _ h => h) (Or.inl ⟨by rfl, ?_⟩) ?_
        rotate_left
        · intro w
          go_simp
          with_reducible rfl
        refine wpAny_ready (rs := [10]) (by kernel_rfl) (by simp) ?_
        refine AllReady.cons rfl (fun K hK => ?_) AllReady.nil
        go_simp
        refine hK _ _ ?_
        clear hK K
        refine wpAny_done (by kernel_rfl) ?_ _
        obtain ⟨rfl⟩ := HQ
        obtain ⟨rfl⟩ := HR
        exact ⟨(KeepsOthers.setCell _ _ _).trans (KeepsOthers.drew _), Below.heap_setCell W _ _ _ (by show w2.heap.size + 2 + 1 ≠ w2.heap.size + 1; omega), rowI_step hk HI.out hlt, (HBW.out.setCell (p := ⟨w2.heap.size + 1, _, none⟩) (by show w2.heap.size ≤ w2.heap.size + 1; omega) _).drew⟩
      · clear hI
        gi_wp2_with fail
        exact ⟨KeepsOthers.refl _, rfl, rowI_skip hk HI.out hlt, HBW.out⟩
    case done =>
      rintro D ys W hD rfl ⟨hI, hB⟩ hK
      have hcell := hI.2
      have hlen : (foldF (byts s) (upB a m 8)).length = s.size := by rw [foldF_length, byts_length]
      have hstr := run_convert_bytes_arg (P := Try.prog) W 33 5 Try.underlying33 Try.underlying5 (w2.heap.size + 1) 0 s.size cap _ hlen (fun i hi => by rw [Nat.zero_add]; exact (hI.1 i hi).1) 9 Try.underlying9
      rw [show foldF (byts s) (upB a m 8) = passL a m (byts s) from rfl] at hstr
      have HBW := Aside0.mk hB
      clear hI hlen
      gi_wp2
      refine ⟨by simp, .inl ⟨_, _, rfl, run_takeDeferred hK, ?_⟩⟩
      refine ⟨_, results_tmp3 rfl _ _ _, ?_, HL2.out.then (HBW.out.trans (belowK_b (w := w2) (Nat.le_refl _) W D _ _ (by omega) hK rfl rfl))⟩
      rw [HS.out]
      rfl
    case stop =>
      rintro D c pre W _ _ h _
      exact h.elim
end Go.Proofs.Ytcmcgjjhbjlkpaa.Air
