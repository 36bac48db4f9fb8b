import Derived.Test.YtcmcgjjhbjlkpaaPkA
import Derived.Handy
namespace Go.Proofs.Ytcmcgjjhbjlkpaa.Pk
open Go.RowKit Go.Proofs.YtcmcgjjhbjlkpaaW.PrintWords Go.Proofs.YtcmcgjjhbjlkpaaW.PrintLast Go.Proofs.YtcmcgjjhbjlkpaaW.PrintMore Go.Proofs.Ytcmcgjjhbjlkpaa.PPickPlays
set_option linter.unusedVariables false
set_option linter.unusedSimpArgs false
/-- The first of those that are asked for: a step; all. -/
def fstep (p : S74 → Bool) (acc : Option S74) (x : S74) : Option S74 := if p x && (acc.isNone || decide (x.f0 < (acc.getD z74).f0)) then some x else acc
def fst (p : S74 → Bool) (l : List S74) : Option S74 := l.foldl (fstep p) none
def fcells (acc : Option S74) : Array Value := #[.int .u64 (acc.getD z74).f0, .int .i64 (acc.getD z74).f1, .bool (acc.getD z74).f2, .bool (acc.getD z74).f3]
theorem fst_take {p : S74 → Bool} {l : List S74} {i : Nat} (h : i < l.length) : fst p (l.take (i + 1)) = fstep p (fst p (l.take i)) (rd_T74 l (i : Int)) := by
  unfold fst rd_T74
  rw [List.take_succ_eq_append_getElem h, List.foldl_append]
  simp [List.getD_eq_getElem?_getD, h]
/-- Block g, of type t, never frozen, holds these cells. -/
def Bk (w : World) (g t : Nat) (cs : Array Value) : Prop := w.heap[g]? = some (.cells cs t (0, 0))
section
variable {w W : World} {g t : Nat} {cs : Array Value}
theorem Bk.lt (h : Bk w g t cs) : g < w.heap.size := (Array.getElem?_eq_some_iff.1 h).1
theorem Bk.below (h : Bk w g t cs) (hB : Below w.heap.size w W) : Bk W g t cs := (hB.block g h.lt).trans h
theorem Bk.alloc (h : Bk w g t cs) (o : Obj) : Bk (w.alloc o) g t cs := h.below ((Below.refl _ w).alloc (Nat.le_refl _) o)
theorem Bk.new (w : World) (t : Nat) (cs : Array Value) : Bk (w.alloc (.cells cs t)) w.heap.size t cs := blk_new w _
theorem Bk.cell (h : Bk w g t cs) (j : Nat) : w.cell? ⟨g, j, none⟩ = cs[j]? := blk_cell h j
theorem Bk.frozen (h : Bk w g t cs) (j : Nat) : w.frozen? ⟨g, j, none⟩ = false := blk_frozen h _
theorem Bk.set (h : Bk w g t cs) (i : Nat) (u : Value) : Bk (w.setCell ⟨g, i, none⟩ u) g t (cs.setIfInBounds i u) := blk_set h i u
theorem Bk.set_other (h : Bk w g t cs) {b : Nat} (hb : g ≠ b) (i : Nat) (u : Value) : Bk (w.setCell ⟨b, i, none⟩ u) g t cs := (Below.heap_setCell w ⟨b, i, none⟩ u g hb).trans h
end
theorem cells4 {w : World} {g t : Nat} {a b c d : Value} (h : Bk w g t #[a, b, c, d]) :
    w.cell? ⟨g, 0, none⟩ = some a ∧ w.cell? ⟨g, 1, none⟩ = some b ∧ w.cell? ⟨g, 2, none⟩ = some c ∧ w.cell? ⟨g, 3, none⟩ = some d ∧ w.frozen? ⟨g, 0, none⟩ = false ∧ w.frozen? ⟨g, 1, none⟩ = false ∧ w.frozen? ⟨g, 2, none⟩ = false ∧ w.frozen? ⟨g, 3, none⟩ = false :=
  ⟨h.cell 0, h.cell 1, h.cell 2, h.cell 3, h.frozen 0, h.frozen 1, h.frozen 2, h.frozen 3⟩
theorem set4 {w : World} {g t : Nat} {a b c d a' b' c' d' : Value} (h : Bk w g t #[a, b, c, d]) :
    Bk ((((w.setCell ⟨g, 0, none⟩ a').setCell ⟨g, 1, none⟩ b').setCell ⟨g, 2, none⟩ c').setCell ⟨g, 3, none⟩ d') g t #[a', b', c', d'] := (((h.set 0 a').set 1 b').set 2 c').set 3 d'
set_option maxHeartbeats 2000000 in
set_option maxRecDepth 100000 in
theorem first_ok (w : World) (A : Option Addr) (c : Nat) (xs : List S74) (hr : Kd.C k74 w A xs.length xs) (hm : xs.length ≤ 9223372036854775806) (pb : Addr) (p : S74 → Bool) (hp : AskAt w pb p) :
    Calls Try.prog 58 #[.slice A xs.length c, .func (.func 59) #[] #[.pointer (some pb)], .func (.func 61) #[] #[]] w fun e w' =>
      e = .returned (.tuple #[.agg (fcells (fst (fun x => cnt x && p x) xs)), .bool (fst (fun x => cnt x && p x) xs).isSome]) ∧ Below w.heap.size w w' := by
  obtain ⟨q, hq⟩ : ∃ q : S74 → Bool, q = fun x => cnt x && p x := ⟨_, rfl⟩
  rw [← hq]
  have HQ := Aside0.mk hq
  have HR := Aside0.mk hr
  have HP := Aside0.mk hp
  obtain ⟨n, hn⟩ : ∃ n, n = xs.length := ⟨_, rfl⟩
  have HN := Aside0.mk hn
  rw [← hn] at hm ⊢
  have HB0 := Aside0.mk ((Below.refl w.heap.size w).alloc (Nat.le_refl _) (.cells (fcells none) 74))
  have HC0 := Aside0.mk (Bk.new w 74 (fcells none))
  clear hr hp hn hq
  go_enter Try.func58, Try.ntmps58
  go_wp2_with fail
  go_loopw [7, 12] (fun v7 v12 wr => ∃ i : Nat, i ≤ n ∧ v12 = .int .i64 i ∧ v7 = .bool (fst q (xs.take i)).isSome ∧ Aside0 (Bk wr w.heap.size 74 (fcells (fst q (xs.take i)))) ∧ Aside0 (Below w.heap.size w wr)) (fun _ v12 _ => n - (intOf v12).toNat)
  case atStart => exact ⟨0, by omega, rfl, rfl, HC0, HB0⟩
  case round =>
    obtain ⟨i, hi, rfl, rfl, HC, HB⟩ := hrel
    by_cases hlt : i < n
    · obtain ⟨ad, rfl, h0, h1, h2, h3⟩ := at_T74 HR.out (i : Int) (by omega) (by rw [← HN.out]; omega)
      rw [Int.toNat_natCast] at h0 h1 h2 h3
      have HT := Aside0.mk (fst_take (p := q) (l := xs) (i := i) (by rw [← HN.out]; exact hlt))
      obtain ⟨x, hx⟩ : ∃ x, x = rd_T74 xs (i : Int) := ⟨_, rfl⟩
      rw [← hx] at h0 h1 h2 h3 HT
      clear hx
      have hb := HB.out
      replace h0 := (hb.cell (World.block_lt_of_cell? w _ h0)).trans h0
      replace h1 := (hb.cell (World.block_lt_of_cell? w _ h1)).trans h1
      replace h2 := (hb.cell (World.block_lt_of_cell? w _ h2)).trans h2
      replace h3 := (hb.cell (World.block_lt_of_cell? w _ h3)).trans h3
      clear hb
      obtain ⟨acc, hacc⟩ : ∃ acc, acc = fst q (xs.take i) := ⟨_, rfl⟩
      rw [← hacc] at HC HT ⊢
      clear hacc
      go_wp2_with fail
      refine (is_ok x pb p _ ((HP.out.below HB.out).below ((Below.refl _ wr).alloc (Nat.le_refl _) _))).mono ?_
      rintro e w1 ⟨rfl, hb1⟩
      rw [show (cnt x && p x) = q x from by rw [HQ.out]]
      obtain ⟨a0, a1, a2, a3, _⟩ := cells4 ((Bk.new wr 74 #[Value.int IntKind.u64 x.f0, Value.int IntKind.i64 x.f1, Value.bool x.f2, Value.bool x.f3]).below hb1)
      obtain ⟨b0, b1, b2, b3, f0, f1, f2, f3⟩ := cells4 ((HC.out.alloc (Obj.cells #[Value.int IntKind.u64 x.f0, Value.int IntKind.i64 x.f1, Value.bool x.f2, Value.bool x.f3] 74)).below hb1)
      have HC1 := Aside0.mk ((HC.out.alloc (Obj.cells #[Value.int IntKind.u64 x.f0, Value.int IntKind.i64 x.f1, Value.bool x.f2, Value.bool x.f3] 74)).below hb1)
      have HB1 := Aside0.mk (HB.out.trans (((Below.refl _ wr).alloc (Nat.le_refl _) (Obj.cells #[Value.int IntKind.u64 x.f0, Value.int IntKind.i64 x.f1, Value.bool x.f2, Value.bool x.f3] 74)).trans (hb1.mono (by simp)) |>.mono HB.out.size))
      clear h0 h1 h2 h3 hb1 HC
      cases hqx : q x
      · have HS := Aside0.mk (show fstep q acc x = acc by simp [fstep, hqx])
        clear a0 a1 a2 a3 b0 b1 b2 b3 f0 f1 f2 f3 hqx
        go_wp2
        go_roundw
        case rel => exact ⟨i + 1, by omega, by go_num, by rw [HT.out, HS.out], ⟨by rw [HT.out, HS.out]; exact HC1.out⟩, HB1⟩
        case measure => simp [intOf]; omega
      · rcases acc with _ | y
        · have HS := Aside0.mk (show fstep q none x = some x by simp [fstep, hqx])
          clear hqx
          dsimp only [Option.isSome_none]
          go_wp2
          refine ⟨⟨i + 1, by omega, by go_num, by rw [HT.out, HS.out]; rfl, ⟨by rw [HT.out, HS.out]; exact set4 HC1.out⟩, ⟨(((HB1.out.setCell (by simp) _).setCell (by simp) _).setCell (by simp) _).setCell (by simp) _⟩⟩, ?_⟩
          simp [intOf]
          omega
        · dsimp only [Option.isSome_some]
          by_cases hl : x.f0 < y.f0
          · have HS := Aside0.mk (show fstep q (some y) x = some x by simp [fstep, hqx, hl])
            clear hqx
            go_wp2_with fail
            refine (elder_ok _ _ _ _ _ _ _ _ _).mono ?_
            rintro e w2 ⟨rfl, hb2⟩
            obtain ⟨a0, a1, a2, a3, _⟩ := (⟨(hb2.cell (World.block_lt_of_cell? w1 _ a0)).trans a0, (hb2.cell (World.block_lt_of_cell? w1 _ a1)).trans a1, (hb2.cell (World.block_lt_of_cell? w1 _ a2)).trans a2, (hb2.cell (World.block_lt_of_cell? w1 _ a3)).trans a3, trivial⟩ : _ ∧ _ ∧ _ ∧ _ ∧ True)
            have HC2 := Aside0.mk (HC1.out.below hb2)
            have HB2 := Aside0.mk (HB1.out.trans (hb2.mono HB1.out.size))
            clear b0 b1 b2 b3 f0 f1 f2 f3
            obtain ⟨b0, b1, b2, b3, f0, f1, f2, f3⟩ := cells4 HC2.out
            rw [show decide (x.f0 < y.f0) = true from decide_eq_true hl]
            clear hb2 hl
            go_wp2
            refine ⟨⟨i + 1, by omega, by go_num, by rw [HT.out, HS.out]; rfl, ⟨by rw [HT.out, HS.out]; exact set4 HC2.out⟩, ⟨(((HB2.out.setCell (by simp) _).setCell (by simp) _).setCell (by simp) _).setCell (by simp) _⟩⟩, ?_⟩
            simp [intOf]
            omega
          · have HS := Aside0.mk (show fstep q (some y) x = some y by simp [fstep, hl])
            clear hqx
            go_wp2_with fail
            refine (elder_ok _ _ _ _ _ _ _ _ _).mono ?_
            rintro e w2 ⟨rfl, hb2⟩
            have HC2 := Aside0.mk (HC1.out.below hb2)
            have HB2 := Aside0.mk (HB1.out.trans (hb2.mono HB1.out.size))
            rw [show decide (x.f0 < y.f0) = false from decide_eq_false (by omega)]
            clear hb2 hl a0 a1 a2 a3 b0 b1 b2 b3 f0 f1 f2 f3
            go_wp2
            refine ⟨⟨i + 1, by omega, by go_num, by rw [HT.out, HS.out]; rfl, ⟨by rw [HT.out, HS.out]; exact HC2.out⟩, HB2⟩, ?_⟩
            simp [intOf]
            omega
    · obtain rfl : i = n := by omega
      obtain ⟨b0, b1, b2, b3, f0, f1, f2, f3⟩ := cells4 HC.out
      rw [HN.out, List.take_length] at b0 b1 b2 b3 ⊢
      go_wp2
      have HX := Aside0.mk HC.out
      rw [HN.out, List.take_length] at HX
      obtain ⟨r, er⟩ : ∃ r, r = fst q xs := ⟨_, rfl⟩
      rw [← er] at HX ⊢
      obtain ⟨c0, c1, c2, c3, _⟩ := cells4 (set4 (a' := .int .u64 (r.getD z74).f0) (b' := .int .i64 (r.getD z74).f1) (c' := .bool (r.getD z74).f2) (d' := .bool (r.getD z74).f3) HX.out)
      have HB2 := Aside0.mk ((((HB.out.setCell (p := ⟨w.heap.size, 0, none⟩) (Nat.le_refl _) (.int .u64 (r.getD z74).f0)).setCell (p := ⟨w.heap.size, 1, none⟩) (Nat.le_refl _) (.int .i64 (r.getD z74).f1)).setCell (p := ⟨w.heap.size, 2, none⟩) (Nat.le_refl _) (.bool (r.getD z74).f2)).setCell (p := ⟨w.heap.size, 3, none⟩) (Nat.le_refl _) (.bool (r.getD z74).f3))
      generalize ((((wr.setCell { block := w.heap.size, off := 0 } (Value.int IntKind.u64 (r.getD z74).f0)).setCell { block := w.heap.size, off := 1 } (Value.int IntKind.i64 (r.getD z74).f1)).setCell { block := w.heap.size, off := 2 } (Value.bool (r.getD z74).f2)).setCell { block := w.heap.size, off := 3 } (Value.bool (r.getD z74).f3)) = W at *
      refine bodyPost_ret (v := .tuple #[.agg (fcells r), .bool r.isSome]) (by simp [results, Try.results58, go_sem, c0, c1, c2, c3, fcells]) rfl ⟨rfl, HB2.out⟩
/-- A question, as a value. -/
def FnV (w : World) (fv : Value) (p : S74 → Bool) : Prop :=
  (fv = .func (.func 62) #[] #[] ∧ p = fun x => x.f3) ∨ (fv = .func (.func 64) #[] #[] ∧ p = fun x => x.f2) ∨
  ∃ pm m, fv = .func (.func 68) #[] #[.pointer (some pm)] ∧ w.cell? pm = some (.int .i64 m) ∧ p = fun x => decide (x.f1 = m)
theorem AskAt.of {w : World} {pb : Addr} {fv : Value} {p : S74 → Bool} (h : w.cell? pb = some fv) (hf : FnV w fv p) : AskAt w pb p := by
  rcases hf with ⟨rfl, e⟩ | ⟨rfl, e⟩ | ⟨pm, m, rfl, h2, e⟩
  · exact .inl ⟨h, e⟩
  · exact .inr (.inl ⟨h, e⟩)
  · exact .inr (.inr ⟨pm, m, h, h2, e⟩)
theorem FnV.below {w W : World} {fv : Value} {p : S74 → Bool} (h : FnV w fv p) (hB : Below w.heap.size w W) : FnV W fv p := by
  rcases h with h | h | ⟨pm, m, h, h2, e⟩
  · exact .inl h
  · exact .inr (.inl h)
  · exact .inr (.inr ⟨pm, m, h, (hB.cell (World.block_lt_of_cell? w _ h2)).trans h2, e⟩)
theorem cells_below {α : Type} {d : Kd α} {w W : World} {A : Option Addr} {n : Nat} {xs : List α} (h : Kd.C d w A n xs) (hB : Below w.heap.size w W) : Kd.C d W A n xs := by
  exact Kd.C_below h hB
set_option maxHeartbeats 2000000 in
set_option maxRecDepth 100000 in
theorem some_ok (w : World) (A : Option Addr) (c : Nat) (xs : List S74) (hr : Kd.C k74 w A xs.length xs) (hm : xs.length ≤ 9223372036854775806) (pl : Addr) (hl : w.cell? pl = some (.slice A xs.length c)) (fv : Value) (p : S74 → Bool) (hf : FnV w fv p) (hone : fv.oneCell' = true) :
    Calls Try.prog 57 #[fv, .pointer (some pl)] w fun e w' =>
      e = .returned (.tuple #[.agg (fcells (fst (fun x => cnt x && p x) xs)), .bool (fst (fun x => cnt x && p x) xs).isSome]) ∧ Below w.heap.size w w' := by
  have HW := Aside0.mk (((Below.refl w.heap.size w).alloc (Nat.le_refl _) (.cells #[fv] 110)).alloc (by simp) (.cells (#[Value.int .u64 0, Value.int .i64 0, Value.bool false, Value.bool false]) 74))
  have HA := Aside0.mk (AskAt.of (((Bk.new w 110 #[fv]).alloc (.cells (#[Value.int .u64 0, Value.int .i64 0, Value.bool false, Value.bool false]) 74)).cell 0) (hf.below HW.out))
  have HC := Aside0.mk (Bk.new (w.alloc (.cells #[fv] 110)) 74 (#[Value.int .u64 0, Value.int .i64 0, Value.bool false, Value.bool false]))
  have HR := Aside0.mk (cells_below hr HW.out)
  have hlt := World.block_lt_of_cell? w _ hl
  rw [World.size_alloc] at HC
  clear hr hf
  go_enter Try.func57, Try.ntmps57
  go_wp2_with fail
  refine (first_ok _ A c xs HR.out hm ⟨w.heap.size, 0, none⟩ p HA.out).mono ?_
  rintro e w1 ⟨rfl, hb1⟩
  have HC1 := Aside0.mk (HC.out.below hb1)
  have HB1 := Aside0.mk (HW.out.trans (hb1.mono HW.out.size))
  clear hb1 hl hlt HR HA
  obtain ⟨r, er⟩ : ∃ r, r = fst (fun x => cnt x && p x) xs := ⟨_, rfl⟩
  have HER := Aside0.mk er
  rw [← er]
  clear er
  obtain ⟨b0, b1, b2, b3, f0, f1, f2, f3⟩ := cells4 HC1.out
  rw [fcells]
  go_wp2
  clear b0 b1 b2 b3 f0 f1 f2 f3
  obtain ⟨c0, c1, c2, c3, _⟩ := cells4 (set4 (a' := .int .u64 (r.getD z74).f0) (b' := .int .i64 (r.getD z74).f1) (c' := .bool (r.getD z74).f2) (d' := .bool (r.getD z74).f3) HC1.out)
  have HB2 := Aside0.mk ((((HB1.out.setCell (p := ⟨w.heap.size + 1, 0, none⟩) (Nat.le_succ _) (.int .u64 (r.getD z74).f0)).setCell (p := ⟨w.heap.size + 1, 1, none⟩) (Nat.le_succ _) (.int .i64 (r.getD z74).f1)).setCell (p := ⟨w.heap.size + 1, 2, none⟩) (Nat.le_succ _) (.bool (r.getD z74).f2)).setCell (p := ⟨w.heap.size + 1, 3, none⟩) (Nat.le_succ _) (.bool (r.getD z74).f3))
  generalize ((((w1.setCell { block := w.heap.size + 1, off := 0 } (Value.int IntKind.u64 (r.getD z74).f0)).setCell { block := w.heap.size + 1, off := 1 } (Value.int IntKind.i64 (r.getD z74).f1)).setCell { block := w.heap.size + 1, off := 2 } (Value.bool (r.getD z74).f2)).setCell { block := w.heap.size + 1, off := 3 } (Value.bool (r.getD z74).f3)) = W at *
  refine bodyPost_ret (v := .tuple #[.agg (fcells r), .bool r.isSome]) (by simp [results, Try.results57, go_sem, c0, c1, c2, c3, fcells]) rfl ⟨by rw [HER.out], HB2.out⟩
end Go.Proofs.Ytcmcgjjhbjlkpaa.Pk
