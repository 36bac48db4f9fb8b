import Derived.Test.YtcmcgjjhbjlkpaaPkB
namespace Go.Proofs.Ytcmcgjjhbjlkpaa.Pk
open Go.RowKit Go.Proofs.YtcmcgjjhbjlkpaaW.PrintWords Go.Proofs.YtcmcgjjhbjlkpaaW.PrintLast Go.Proofs.YtcmcgjjhbjlkpaaW.PrintMore Go.Proofs.Ytcmcgjjhbjlkpaa.PPickPlays Go.Proofs.Ytcmcgjjhbjlkpaa.Air
set_option linter.unusedVariables false
set_option linter.unusedSimpArgs false
/-! ### A sharer: 32 cells -/
def dcells (q : Int) (D : Nat → Int) (a : Int) (f : Bool) : Array Value := #[.int .i64 q, .int .i64 (D 0), .int .i64 (D 1), .int .i64 (D 2), .int .i64 (D 3), .int .i64 (D 4), .int .i64 (D 5), .int .i64 (D 6), .int .i64 (D 7), .int .i64 (D 8), .int .i64 (D 9), .int .i64 (D 10), .int .i64 (D 11), .int .i64 (D 12), .int .i64 (D 13), .int .i64 (D 14), .int .i64 (D 15), .int .i64 (D 16), .int .i64 (D 17), .int .i64 (D 18), .int .i64 (D 19), .int .i64 (D 20), .int .i64 (D 21), .int .i64 (D 22), .int .i64 (D 23), .int .i64 (D 24), .int .i64 (D 25), .int .i64 (D 26), .int .i64 (D 27), .int .i64 (D 28), .int .i64 a, .bool f]
def upd (D : Nat → Int) (i : Nat) (v : Int) : Nat → Int := fun j => if j = i then v else D j
theorem cases29 {i : Nat} (h : i < 29) : i = 0 ∨ i = 1 ∨ i = 2 ∨ i = 3 ∨ i = 4 ∨ i = 5 ∨ i = 6 ∨ i = 7 ∨ i = 8 ∨ i = 9 ∨ i = 10 ∨ i = 11 ∨ i = 12 ∨ i = 13 ∨ i = 14 ∨ i = 15 ∨ i = 16 ∨ i = 17 ∨ i = 18 ∨ i = 19 ∨ i = 20 ∨ i = 21 ∨ i = 22 ∨ i = 23 ∨ i = 24 ∨ i = 25 ∨ i = 26 ∨ i = 27 ∨ i = 28 := by omega
theorem dget (q : Int) (D : Nat → Int) (a : Int) (f : Bool) {i : Nat} (h : i < 29) : (dcells q D a f)[1 + i]? = some (.int .i64 (D i)) := by
  rcases cases29 h with rfl | rfl | rfl | rfl | rfl | rfl | rfl | rfl | rfl | rfl | rfl | rfl | rfl | rfl | rfl | rfl | rfl | rfl | rfl | rfl | rfl | rfl | rfl | rfl | rfl | rfl | rfl | rfl | rfl <;> rfl
theorem dset (q : Int) (D : Nat → Int) (a : Int) (f : Bool) {i : Nat} (h : i < 29) (v : Int) : (dcells q D a f).setIfInBounds (1 + i) (.int .i64 v) = dcells q (upd D i v) a f := by
  rcases cases29 h with rfl | rfl | rfl | rfl | rfl | rfl | rfl | rfl | rfl | rfl | rfl | rfl | rfl | rfl | rfl | rfl | rfl | rfl | rfl | rfl | rfl | rfl | rfl | rfl | rfl | rfl | rfl | rfl | rfl <;> rfl
theorem dset30 (q : Int) (D : Nat → Int) (a b : Int) (f : Bool) : (dcells q D a f).setIfInBounds 30 (.int .i64 b) = dcells q D b f := rfl
theorem dset31 (q : Int) (D : Nat → Int) (a : Int) (f b : Bool) : (dcells q D a f).setIfInBounds 31 (.bool b) = dcells q D a b := rfl
set_option maxRecDepth 100000 in
theorem New_ok (w : World) : Calls Try.prog 27 #[.int .i64 5000] w fun e w' => e = .returned (.pointer (some ⟨w.heap.size, 0, none⟩)) ∧ w' = w.alloc (.cells (dcells 5000 (fun _ => 0) 1 false) 109) := by
  go_enter Try.func27, Try.ntmps27
  go_wp2
  go_ret
  exact ⟨rfl, rfl⟩
set_option maxRecDepth 100000 in
theorem rNew_ok (w : World) : Calls Try.prog 28 #[.int .i64 5000] w fun e w' => e = .returned (.pointer (some ⟨w.heap.size, 0, none⟩)) ∧ w' = w.alloc (.cells (dcells 5000 (fun _ => 0) 1 false) 71) := by
  go_enter Try.func28, Try.ntmps28
  go_wp2
  go_ret
  exact ⟨rfl, rfl⟩
theorem Deficit_ok (w : World) (g : Nat) (q : Int) (D : Nat → Int) (a : Int) (f : Bool) (h : Bk w g 109 (dcells q D a f)) (m : Nat) (h1 : 1 ≤ m) (h2 : m ≤ 28) :
    Calls Try.prog 34 #[.pointer (some ⟨g, 0, none⟩), .int .i64 (m : Int)] w fun e w' => e = .returned (.int .i64 (D m)) ∧ w' = w := by
  have hc := (h.cell (1 + m)).trans (dget q D a f (by omega))
  clear h
  go_enter Try.func34, Try.ntmps34
  go_wp2
  go_ret
  exact ⟨rfl, rfl⟩
def clip (n h : Int) : Int := min (max n 1) h
theorem ret_int {k : IntKind} {a b : Int} (h : a = b) : Ending.returned (.int k a) = .returned (.int k b) := by rw [h]
theorem within_ok (n m : Int) (w : World) : Calls Try.prog 78 #[.int .i64 n, .int .i64 m] w fun e w' => e = .returned (.int .i64 (clip n m)) ∧ w' = w := by
  go_enter Try.func78, Try.ntmps78
  go_wp2
  all_goals
    go_ret
    refine ⟨ret_int ?_, rfl⟩
    unfold clip
    omega
theorem on_ok (w : World) (g : Nat) (q : Int) (D : Nat → Int) (a : Int) (ha : 1 ≤ a ∧ a ≤ 28) (f : Bool) (h : Bk w g 109 (dcells q D a f)) :
    Calls Try.prog 79 #[.pointer (some ⟨g, 0, none⟩)] w fun e w' => e = .returned (.tuple #[]) ∧ Bk w' g 109 (dcells q D (a % 28 + 1) false) ∧ Keep w w' (fun k => k = g) := by
  have H := Aside0.mk h
  have c0 := h.cell 30
  have c1 := h.cell 31
  change _ = some (Value.int .i64 a) at c0
  change _ = some (Value.bool f) at c1
  have f0 := h.frozen 30
  have f1 := h.frozen 31
  clear h
  go_enter Try.func79, Try.ntmps79
  go_wp2
  go_returns
  refine ⟨rfl, ?_, ((Keep.refl w (fun k => k = g)).set ⟨g, 30, none⟩ _ (.inl rfl)).set ⟨g, 31, none⟩ _ (.inl rfl)⟩
  have h1 := (H.out.set 30 (.int .i64 (a % 28 + 1))).set 31 (.bool false)
  rw [dset30, dset31] at h1
  exact h1
/-! ### Costs and weights -/
theorem same_ok (w : World) (m n : Int) (p : Addr) (hp : w.cell? p = some (.int .i64 n)) : Calls Try.prog 73 #[.int .i64 m, .pointer (some p)] w fun e w' => e = .returned (.int .i64 n) ∧ w' = w := by
  go_enter Try.func73, Try.ntmps73
  go_wp2
  go_ret
  exact ⟨rfl, rfl⟩
theorem cost_ok (w : World) (m b0 b1 : Int) (hm : 1 ≤ m ∧ m ≤ 28) (h0 : 0 ≤ b0 ∧ b0 ≤ 65535) (g : Nat) (h : Bk w g 55 #[.int .u16 b0, .int .u16 b1]) : Calls Try.prog 29 #[.int .i64 m, .pointer (some ⟨g, 0, none⟩)] w fun e w' => e = .returned (.int .i64 (100 + m * b0 % 9000)) ∧ w' = w := by
  have c0 : w.cell? ⟨g, 0, none⟩ = some (.int .u16 b0) := h.cell 0
  have hp : 0 ≤ m * b0 := Int.mul_nonneg (by omega) h0.1
  have hq : m * b0 ≤ 28 * 65535 := Int.mul_le_mul hm.2 h0.2 h0.1 (by omega)
  clear h
  go_enter Try.func29, Try.ntmps29
  go_wp2
  go_ret
  exact ⟨rfl, rfl⟩
theorem weight_ok (w : World) (m b0 b1 : Int) (hm : 1 ≤ m ∧ m ≤ 28) (h0 : 0 ≤ b1 ∧ b1 ≤ 65535) (g : Nat) (h : Bk w g 55 #[.int .u16 b0, .int .u16 b1]) : Calls Try.prog 30 #[.int .i64 m, .pointer (some ⟨g, 0, none⟩)] w fun e w' => e = .returned (.int .i64 (1 + m * b1 % 8)) ∧ w' = w := by
  have c0 : w.cell? ⟨g, 1, none⟩ = some (.int .u16 b1) := h.cell 1
  have hp : 0 ≤ m * b1 := Int.mul_nonneg (by omega) h0.1
  have hq : m * b1 ≤ 28 * 65535 := Int.mul_le_mul hm.2 h0.2 h0.1 (by omega)
  clear h
  go_enter Try.func30, Try.ntmps30
  go_wp2
  go_ret
  exact ⟨rfl, rfl⟩
end Go.Proofs.Ytcmcgjjhbjlkpaa.Pk
