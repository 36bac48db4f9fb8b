import Derived.Test.YtcmcgjjhbjlkpaaAirG
namespace Go.Proofs.Ytcmcgjjhbjlkpaa.Air
open Go.RowKit Go.Proofs.YtcmcgjjhbjlkpaaW.PrintWords Go.Proofs.YtcmcgjjhbjlkpaaW.PrintLast Go.Proofs.YtcmcgjjhbjlkpaaW.PrintMore
set_option linter.unusedVariables false
set_option linter.unusedSimpArgs false
/-! ### An object: a block of three cells, two rows behind it -/
structure AirIs (w : World) (base t e g : Nat) (vm vt : Value) (n : Int) (ms : List Int) (ts : List (Int × Int)) : Prop where
  cells : w.heap[g]? = some (.cells #[.int .i64 n, vm, vt] t (0, 0))
  bs : base ≤ g
  qm : QRow w base 3 1 vm ms.length (nums .i64 ms)
  qt : QRow w base e 2 vt ts.length (tcs ts)
  lm : ms.length ≤ 4096
  lt : ts.length ≤ 4096
  hn : 1 ≤ n ∧ n ≤ 8
def Foot (g : Nat) (vm vt : Value) (k : Nat) : Prop := k = g ∨ vm.ownBlock = some k ∨ vt.ownBlock = some k
section
variable {w w1 : World} {base t e g : Nat} {vm vt : Value} {n : Int} {ms : List Int} {ts : List (Int × Int)}
theorem AirIs.size (h : AirIs w base t e g vm vt n ms ts) : g < w.heap.size := (Array.getElem?_eq_some_iff.1 h.cells).1
theorem AirIs.c0 (h : AirIs w base t e g vm vt n ms ts) : w.cell? ⟨g, 0, none⟩ = some (.int .i64 n) := by rw [cell_of_row w g _ _ t (0, 0) h.cells]; rfl
theorem AirIs.cm (h : AirIs w base t e g vm vt n ms ts) : Cellv w g t 1 #[.int .i64 n, vm, vt] vm := ⟨h.cells, rfl⟩
theorem AirIs.ct (h : AirIs w base t e g vm vt n ms ts) : Cellv w g t 2 #[.int .i64 n, vm, vt] vt := ⟨h.cells, rfl⟩
theorem AirIs.foot_lt (h : AirIs w base t e g vm vt n ms ts) (k : Nat) (hk : Foot g vm vt k) : k < w.heap.size := by
  rcases hk with rfl | hk | hk
  · exact h.size
  · exact q_lt h.qm k hk
  · exact q_lt h.qt k hk
theorem AirIs.foot_base (h : AirIs w base t e g vm vt n ms ts) (k : Nat) (hk : Foot g vm vt k) : base ≤ k := by
  rcases hk with rfl | hk | hk
  · exact h.bs
  · exact (q_typed h.qm k hk).1
  · exact (q_typed h.qt k hk).1
theorem AirIs.move (h : AirIs w base t e g vm vt n ms ts) {S : Nat → Prop} (k : Keep w w1 S) (hS : ∀ i, Foot g vm vt i → ¬ S i) : AirIs w1 base t e g vm vt n ms ts :=
  ⟨(k.block g h.size (hS g (.inl rfl))).trans h.cells, h.bs, q_keep h.qm k (fun i hi => hS i (.inr (.inl hi))), q_keep h.qt k (fun i hi => hS i (.inr (.inr hi))), h.lm, h.lt, h.hn⟩
theorem AirIs.below (h : AirIs w base t e g vm vt n ms ts) (k : Below w.heap.size w w1) : AirIs w1 base t e g vm vt n ms ts := h.move (S := fun _ => False) (Keep.below k) (fun _ _ => id)
/-- What a method leaves. -/
def Left (w w' : World) (base t e g : Nat) (vm vt : Value) (n : Int) (ms : List Int) (ts : List (Int × Int)) : Prop :=
  ∃ vm' vt', AirIs w' base t e g vm' vt' n ms ts ∧ Keep w w' (Foot g vm vt) ∧ ∀ k, Foot g vm' vt' k → Foot g vm vt k ∨ w.heap.size ≤ k
theorem AirIs.left (h : AirIs w base t e g vm vt n ms ts) (k : Below w.heap.size w w1) : Left w w1 base t e g vm vt n ms ts :=
  ⟨vm, vt, h.below k, Keep.below k, fun _ h => .inl h⟩
theorem Left.from {w0 : World} (h : Left w w1 base t e g vm vt n ms ts) (k : Below w0.heap.size w0 w) : Left w0 w1 base t e g vm vt n ms ts := by
  obtain ⟨vm', vt', h1, h2, h3⟩ := h
  exact ⟨vm', vt', h1, (Keep.below (S := Foot g vm vt) k).trans h2 (fun i hi => .inl hi), fun i hi => (h3 i hi).imp id (fun hl => Nat.le_trans k.size hl)⟩
theorem putL_len {α : Type} (x : α) {xs : List α} (h : xs.length ≤ 4096) : (putL x xs).length ≤ 4096 := by
  unfold putL
  split
  · exact h
  · simp; omega
/-- The masks' row has turned. -/
theorem AirIs.setM (h : AirIs w base t e g vm vt n ms ts) (he : e ≠ 3) (hte : e ≠ t) {vm' : Value} {ms' : List Int} (hc : Cellv w1 g t 1 (Array.setIfInBounds #[.int .i64 n, vm, vt] 1 vm') vm') (hq : QRow w1 base 3 1 vm' ms'.length (nums .i64 ms'))
    (hk : Keep w w1 (fun k => k = g ∨ vm.ownBlock = some k)) (ho : ∀ k, vm'.ownBlock = some k → vm.ownBlock = some k ∨ w.heap.size ≤ k) (hl : ms'.length ≤ 4096) : Left w w1 base t e g vm vt n ms' ts := by
  refine ⟨vm', vt, ⟨hc.1, h.bs, hq, q_keep h.qt hk ?_, hl, h.lt, h.hn⟩, hk.mono ?_, ?_⟩
  · intro i hi hS
    obtain ⟨_, cells, hcc⟩ := q_typed h.qt i hi
    rcases hS with rfl | hS
    · rw [h.cells] at hcc
      injection hcc with hcc
      injection hcc with _ hcc
      exact hte hcc.symm
    · obtain ⟨_, cells', hcc'⟩ := q_typed h.qm i hS
      rw [hcc'] at hcc
      injection hcc with hcc
      injection hcc with _ hcc
      exact he hcc.symm
  · exact fun i hi => .inl (hi.elim (fun h => .inl h) (fun h => .inr (.inl h)))
  · rintro k (rfl | hk | hk)
    · exact .inl (.inl rfl)
    · exact (ho k hk).imp (fun h => .inr (.inl h)) id
    · exact .inl (.inr (.inr hk))
/-- The turns' row has turned. -/
theorem AirIs.setT (h : AirIs w base t e g vm vt n ms ts) (he : e ≠ 3) (hte : t ≠ 3) {vt' : Value} {ts' : List (Int × Int)} (hc : Cellv w1 g t 2 (Array.setIfInBounds #[.int .i64 n, vm, vt] 2 vt') vt') (hq : QRow w1 base e 2 vt' ts'.length (tcs ts'))
    (hk : Keep w w1 (fun k => k = g ∨ vt.ownBlock = some k)) (ho : ∀ k, vt'.ownBlock = some k → vt.ownBlock = some k ∨ w.heap.size ≤ k) (hl : ts'.length ≤ 4096) : Left w w1 base t e g vm vt n ms ts' := by
  refine ⟨vm, vt', ⟨hc.1, h.bs, q_keep h.qm hk ?_, hq, h.lm, hl, h.hn⟩, hk.mono ?_, ?_⟩
  · intro i hi hS
    obtain ⟨_, cells, hcc⟩ := q_typed h.qm i hi
    rcases hS with rfl | hS
    · rw [h.cells] at hcc
      injection hcc with hcc
      injection hcc with _ hcc
      exact hte hcc
    · obtain ⟨_, cells', hcc'⟩ := q_typed h.qt i hS
      rw [hcc'] at hcc
      injection hcc with hcc
      injection hcc with _ hcc
      exact he hcc
  · exact fun i hi => .inl (hi.elim (fun h => .inl h) (fun h => .inr (.inr h)))
  · rintro k (rfl | hk | hk)
    · exact .inl (.inl rfl)
    · exact .inl (.inr (.inl hk))
    · exact (ho k hk).imp (fun h => .inr (.inr h)) id
end
theorem next0 {w w1 w2 : World} (h : Below w.heap.size w w1) (h2 : Below w1.heap.size w1 w2) : Below w.heap.size w w2 := h.trans (h2.mono h.size)
/-! ### What the methods answer -/
def eraseB (n mask : Int) : Bool := decide (0 ≤ mask) && decide (mask < 2 ^ n.toNat)
def eraseE (n mask : Int) (ms : List Int) : Int := if eraseB n mask then putE ms else 2
def eraseL (n mask : Int) (ms : List Int) : List Int := if eraseB n mask then putL mask ms else ms
def turnB (a mask : Int) : Bool := (decide (0 ≤ a) && decide (a ≤ 72)) && (decide (0 < mask) && decide (mask < 256))
def turnE (a mask : Int) (ts : List (Int × Int)) : Int := if turnB a mask then putE ts else 2
def turnL (a mask : Int) (ts : List (Int × Int)) : List (Int × Int) := if turnB a mask then putL (a, mask) ts else ts
set_option maxHeartbeats 2000000 in
set_option maxRecDepth 100000 in
theorem Erase (w : World) (base g : Nat) (vm vt : Value) (n : Int) (ms : List Int) (ts : List (Int × Int)) (mask : Int) (h : AirIs w base 91 99 g vm vt n ms ts) (hbase : base ≤ w.heap.size) :
    Calls Try.prog 21 #[.pointer (some ⟨g, 0, none⟩), .int .i64 mask] w fun e w' => e = .returned (.int .i64 (eraseE n mask ms)) ∧ Left w w' base 91 99 g vm vt n (eraseL n mask ms) ts := by
  have H := Aside0.mk h
  clear h
  have hW := Aside0.mk (show Below w.heap.size w (((w.alloc (Obj.cells #[Value.pointer (some { block := g, off := 0 })] 41)).alloc (Obj.cells #[Value.int IntKind.i64 mask] 3)).alloc (Obj.cells #[Value.func (Fn.func 48) #[] #[Value.pointer (some { block := w.heap.size + 1, off := 0 })], Value.func (Fn.func 49) #[] #[Value.pointer (some { block := w.heap.size + 1, off := 0 }), Value.pointer (some { block := w.heap.size, off := 0 })]] 25)) from
    (((Below.refl _ w).alloc (Nat.le_refl _) _).alloc (by simp) _).alloc (by simp; omega) _)
  go_enter Try.func21, Try.ntmps21
  go_wp2_with fail
  obtain ⟨W, eW⟩ : ∃ W, W = (((w.alloc (Obj.cells #[Value.pointer (some { block := g, off := 0 })] 41)).alloc (Obj.cells #[Value.int IntKind.i64 mask] 3)).alloc (Obj.cells #[Value.func (Fn.func 48) #[] #[Value.pointer (some { block := w.heap.size + 1, off := 0 })], Value.func (Fn.func 49) #[] #[Value.pointer (some { block := w.heap.size + 1, off := 0 }), Value.pointer (some { block := w.heap.size, off := 0 })]] 25)) := ⟨_, rfl⟩
  have hpa : W.cell? ⟨w.heap.size, 0, none⟩ = some (.pointer (some ⟨g, 0, none⟩)) := by rw [eW]; go_simp
  have hpm : W.cell? ⟨w.heap.size + 1, 0, none⟩ = some (.int .i64 mask) := by rw [eW]; go_simp
  have hf0 : W.cell? ⟨w.heap.size + 1 + 1, 0, none⟩ = some (.func (.func 48) #[] #[Value.pointer (some { block := w.heap.size + 1, off := 0 })]) := by rw [eW]; go_simp
  have hf1 : W.cell? ⟨w.heap.size + 1 + 1, 1, none⟩ = some (.func (.func 49) #[] #[Value.pointer (some { block := w.heap.size + 1, off := 0 }), Value.pointer (some { block := w.heap.size, off := 0 })]) := by rw [eW]; go_simp
  rw [← eW] at hW ⊢
  clear eW
  have HA := Aside0.mk (H.out.below hW.out)
  refine (allE W _ _ _ _ _ hf0 hf1 (askE1 W _ mask hpm) (fun _ => askE2 W _ _ g mask n HA.out.hn hpm hpa HA.out.c0)).mono ?_
  rintro e w1 ⟨rfl, hb1⟩
  have hpa1 := (hb1.cell (World.block_lt_of_cell? W _ hpa)).trans hpa
  have hpm1 := (hb1.cell (World.block_lt_of_cell? W _ hpm)).trans hpm
  have HA1 := Aside0.mk (HA.out.below hb1)
  have HB1 := Aside0.mk (next0 hW.out hb1)
  clear hpa hpm hf0 hf1 hb1
  change _ at hpa1
  cases hq : (decide (0 ≤ mask) && decide (mask < 2 ^ n.toNat))
  · go_wp2
    go_ret
    refine ⟨by rw [eraseE, eraseB, hq]; rfl, ?_⟩
    rw [eraseL, eraseB, hq]
    exact H.out.left HB1.out
  · go_wp2
    go_still_tail 4, (by kernel_rfl)
    change wpList _ _ _ _ _ w1.drew
    have HA2 := Aside0.mk (HA1.out.below (below_drew (Below.refl _ _)))
    have HB2 := Aside0.mk (below_drew HB1.out)
    generalize w1.drew = w2 at *
    go_wp2_with fail
    refine (putI w2 base g 91 1 _ _ ms mask HA2.out.cm HA2.out.qm (by decide) HA2.out.lm (Nat.le_trans hbase HB2.out.size)).mono ?_
    rintro e w3 ⟨v', rfl, h1, h2, h3, h4⟩
    have HL := Aside0.mk (HA2.out.setM (by decide) (by decide) h1 h2 h3 h4 (putL_len _ HA2.out.lm))
    clear h1 h2 h3 h4
    go_wp2
    go_ret
    refine ⟨by rw [eraseE, eraseB, hq]; rfl, ?_⟩
    rw [eraseL, eraseB, hq]
    exact HL.out.from HB2.out
set_option maxHeartbeats 2000000 in
set_option maxRecDepth 100000 in
theorem Turn (w : World) (base g : Nat) (vm vt : Value) (n : Int) (ms : List Int) (ts : List (Int × Int)) (at_ mask : Int) (h : AirIs w base 91 99 g vm vt n ms ts) (hbase : base ≤ w.heap.size) :
    Calls Try.prog 23 #[.pointer (some ⟨g, 0, none⟩), .int .i64 at_, .int .i64 mask] w fun e w' => e = .returned (.int .i64 (turnE at_ mask ts)) ∧ Left w w' base 91 99 g vm vt n ms (turnL at_ mask ts) := by
  have H := Aside0.mk h
  clear h
  have hW := Aside0.mk (show Below w.heap.size w (((w.alloc (Obj.cells #[Value.int IntKind.i64 at_] 3)).alloc (Obj.cells #[Value.int IntKind.i64 mask] 3)).alloc (Obj.cells #[Value.func (Fn.func 51) #[] #[Value.pointer (some { block := w.heap.size, off := 0 })], Value.func (Fn.func 52) #[] #[Value.pointer (some { block := w.heap.size + 1, off := 0 })]] 25)) from
    (((Below.refl _ w).alloc (Nat.le_refl _) _).alloc (by simp) _).alloc (by simp; omega) _)
  go_enter Try.func23, Try.ntmps23
  go_wp2_with fail
  obtain ⟨W, eW⟩ : ∃ W, W = (((w.alloc (Obj.cells #[Value.int IntKind.i64 at_] 3)).alloc (Obj.cells #[Value.int IntKind.i64 mask] 3)).alloc (Obj.cells #[Value.func (Fn.func 51) #[] #[Value.pointer (some { block := w.heap.size, off := 0 })], Value.func (Fn.func 52) #[] #[Value.pointer (some { block := w.heap.size + 1, off := 0 })]] 25)) := ⟨_, rfl⟩
  have hpa : W.cell? ⟨w.heap.size, 0, none⟩ = some (.int .i64 at_) := by rw [eW]; go_simp
  have hpm : W.cell? ⟨w.heap.size + 1, 0, none⟩ = some (.int .i64 mask) := by rw [eW]; go_simp
  have hf0 : W.cell? ⟨w.heap.size + 1 + 1, 0, none⟩ = some (.func (.func 51) #[] #[Value.pointer (some { block := w.heap.size, off := 0 })]) := by rw [eW]; go_simp
  have hf1 : W.cell? ⟨w.heap.size + 1 + 1, 1, none⟩ = some (.func (.func 52) #[] #[Value.pointer (some { block := w.heap.size + 1, off := 0 })]) := by rw [eW]; go_simp
  rw [← eW] at hW ⊢
  clear eW
  have HA := Aside0.mk (H.out.below hW.out)
  refine (allT W _ _ _ _ _ hf0 hf1 (askT1 W _ at_ hpa) (fun _ => askT2 W _ mask hpm)).mono ?_
  rintro e w1 ⟨rfl, hb1⟩
  have hpa1 := (hb1.cell (World.block_lt_of_cell? W _ hpa)).trans hpa
  have hpm1 := (hb1.cell (World.block_lt_of_cell? W _ hpm)).trans hpm
  have HA1 := Aside0.mk (HA.out.below hb1)
  have HB1 := Aside0.mk (next0 hW.out hb1)
  clear hpa hpm hf0 hf1 hb1
  change _ at hpa1
  cases hq : ((decide (0 ≤ at_) && decide (at_ ≤ 72)) && (decide (0 < mask) && decide (mask < 256)))
  · go_wp2
    go_ret
    refine ⟨by rw [turnE, turnB, hq]; rfl, ?_⟩
    rw [turnL, turnB, hq]
    exact H.out.left HB1.out
  · go_wp2
    go_still_tail 6, (by kernel_rfl)
    change wpList _ _ _ _ _ w1.drew
    have HA2 := Aside0.mk (HA1.out.below (below_drew (Below.refl _ _)))
    have HB2 := Aside0.mk (below_drew HB1.out)
    generalize w1.drew = w2 at *
    go_wp2_with fail
    refine (putT w2 base g 91 2 _ _ ts (at_, mask) HA2.out.ct HA2.out.qt (by decide) HA2.out.lt (Nat.le_trans hbase HB2.out.size)).mono ?_
    rintro e w3 ⟨v', rfl, h1, h2, h3, h4⟩
    have HL := Aside0.mk (HA2.out.setT (by decide) (by decide) h1 h2 h3 h4 (putL_len _ HA2.out.lt))
    clear h1 h2 h3 h4
    go_wp2
    go_ret
    refine ⟨by rw [turnE, turnB, hq]; rfl, ?_⟩
    rw [turnL, turnB, hq]
    exact HL.out.from HB2.out
end Go.Proofs.Ytcmcgjjhbjlkpaa.Air
