import Derived.Test.YtcmcgjjhbjlkpaaPkN
namespace Go.Proofs.Ytcmcgjjhbjlkpaa.Pk
open Go.RowKit Go.Shelf Go.Proofs.Ytcmcgjjhbjlkpaa.Rw Go.Proofs.YtcmcgjjhbjlkpaaW.PrintWords Go.Proofs.YtcmcgjjhbjlkpaaW.PrintLast Go.Proofs.YtcmcgjjhbjlkpaaW.PrintMore Go.Proofs.Ytcmcgjjhbjlkpaa.PPickPlays Go.Proofs.Ytcmcgjjhbjlkpaa.Air
set_option linter.unusedVariables false
set_option linter.unusedSimpArgs false
/-! ### A row of 29 numbers -/
def rcells (D : Nat → Int) : Array Value := #[.int .i64 (D 0), .int .i64 (D 1), .int .i64 (D 2), .int .i64 (D 3), .int .i64 (D 4), .int .i64 (D 5), .int .i64 (D 6), .int .i64 (D 7), .int .i64 (D 8), .int .i64 (D 9), .int .i64 (D 10), .int .i64 (D 11), .int .i64 (D 12), .int .i64 (D 13), .int .i64 (D 14), .int .i64 (D 15), .int .i64 (D 16), .int .i64 (D 17), .int .i64 (D 18), .int .i64 (D 19), .int .i64 (D 20), .int .i64 (D 21), .int .i64 (D 22), .int .i64 (D 23), .int .i64 (D 24), .int .i64 (D 25), .int .i64 (D 26), .int .i64 (D 27), .int .i64 (D 28)]
theorem rget (D : Nat → Int) {i : Nat} (h : i < 29) : (rcells D)[i]? = some (.int .i64 (D i)) := by
  rcases cases29 h with rfl | rfl | rfl | rfl | rfl | rfl | rfl | rfl | rfl | rfl | rfl | rfl | rfl | rfl | rfl | rfl | rfl | rfl | rfl | rfl | rfl | rfl | rfl | rfl | rfl | rfl | rfl | rfl | rfl <;> rfl
theorem rset (D : Nat → Int) {i : Nat} (h : i < 29) (v : Int) : (rcells D).setIfInBounds i (.int .i64 v) = rcells (upd D i v) := by
  rcases cases29 h with rfl | rfl | rfl | rfl | rfl | rfl | rfl | rfl | rfl | rfl | rfl | rfl | rfl | rfl | rfl | rfl | rfl | rfl | rfl | rfl | rfl | rfl | rfl | rfl | rfl | rfl | rfl | rfl | rfl <;> rfl
theorem rcells_one (D : Nat → Int) : (rcells D).all (·.oneCell') = true := by simp [rcells, Value.oneCell']
theorem size68 : (Try.prog.info? 68).map (·.size) = some 29 := by kernel_rfl
theorem size71 : (Try.prog.info? 71).map (·.size) = some 32 := by kernel_rfl
theorem below_setRow {B : Nat} {w wr : World} (h : Below B w wr) (g : Nat) (hg : B ≤ g) (cs : Array Value) : Below B w (wr.setRow g cs) :=
  ⟨h.os, h.tape, h.output, by simpa using h.size, fun k hk => by
    show (wr.setRow g cs).heap[k]? = _
    simp only [World.setRow]
    rw [Array.getElem?_modify, if_neg (by omega)]
    exact h.block k hk⟩
def rowTo (f : Int → Int) (k : Nat) : Nat → Int := fun j => if 1 ≤ j ∧ j < k then f (j : Int) else 0
theorem rowTo_step (f : Int → Int) (k : Nat) (h : 1 ≤ k) : upd (rowTo f k) k (f (k : Int)) = rowTo f (k + 1) := by
  funext j
  unfold upd rowTo
  by_cases e : j = k
  · subst e; simp [h]
  · rw [if_neg e]
    by_cases h1 : 1 ≤ j ∧ j < k
    · rw [if_pos h1, if_pos ⟨h1.1, by omega⟩]
    · rw [if_neg h1, if_neg (by omega)]
set_option maxHeartbeats 4000000 in
set_option maxRecDepth 100000 in
theorem rowA (w : World) (g : Nat) (b0 b1 : Int) (h0 : 0 ≤ b0 ∧ b0 ≤ 65535) (h1 : 0 ≤ b1 ∧ b1 ≤ 65535) (h : Bk w g 55 #[.int .u16 b0, .int .u16 b1]) :
    Calls Try.prog 33 #[.func (.func 29) #[] #[.pointer (some ⟨g, 0, none⟩)]] w fun e w' => e = .returned (.agg (rcells (rowTo (fun m => 100 + m * b0 % 9000) 29))) ∧ Below w.heap.size w w' := by
  have H := Aside0.mk h
  obtain ⟨W1, eW1⟩ : ∃ W1, W1 = allocs w [.cells (rcells (fun _ => 0)) 68, .cells (rcells (fun _ => 0)) 68] := ⟨_, rfl⟩
  have HB1 : Aside0 (Below w.heap.size w W1) := ⟨by rw [eW1]; exact allocs_below _ _⟩
  have K0 : Aside0 (Bk W1 w.heap.size 68 (rcells (fun _ => 0))) := ⟨by rw [eW1]; exact allocs_get _ _ 0 _ rfl⟩
  have K1 : Aside0 (Bk W1 (w.heap.size + 1) 68 (rcells (rowTo (fun m => 100 + m * b0 % 9000) 1))) := ⟨by
    rw [show rowTo (fun m => 100 + m * b0 % 9000) 1 = fun _ => 0 from by funext j; unfold rowTo; rw [if_neg (by omega)]]
    rw [eW1]; exact allocs_get _ _ 1 _ rfl⟩
  simp only [allocs, rcells] at eW1
  clear h
  go_enter Try.func33, Try.ntmps33
  go_wp2_with fail
  rw [← eW1]
  clear eW1
  go_loopw [4] (fun v4 wr => ∃ k : Nat, 1 ≤ k ∧ k ≤ 29 ∧ v4 = .int .i64 k ∧ Aside0 (Bk wr (w.heap.size + 1) 68 (rcells (rowTo (fun m => 100 + m * b0 % 9000) k))) ∧ Aside0 (Bk wr w.heap.size 68 (rcells (fun _ => 0))) ∧ Aside0 (Below w.heap.size w wr)) (fun v4 _ => 29 - (intOf v4).toNat)
  case atStart => exact ⟨1, by omega, by omega, rfl, K1, K0, HB1⟩
  case round =>
    obtain ⟨k, h1k, hk, rfl, HK, HZ, HB⟩ := hrel
    by_cases hlt : k < 29
    · have cc : wr.cell? ⟨w.heap.size + 1, k, none⟩ = _ := (HK.out.cell k).trans (rget _ hlt)
      have cf := HK.out.frozen k
      go_wp2_with fail
      refine (cost_ok wr (k : Int) b0 b1 (by omega) h0 g (H.out.below HB.out)).mono ?_
      rintro e w2 ⟨rfl, rfl⟩
      obtain ⟨v, ev⟩ : ∃ v, v = (fun m => 100 + m * b0 % 9000) (k : Int) := ⟨_, rfl⟩
      have HV := Aside0.mk ev
      rw [show (100 + (k : Int) * b0 % 9000) = v from by rw [ev]]
      clear ev
      go_wp2
      go_roundw
      case rel =>
        refine ⟨k + 1, by omega, by omega, by go_num, ⟨?_⟩, ⟨HZ.out.set_other (by omega) _ _⟩, ⟨HB.out.setCell (p := ⟨w.heap.size + 1, k, none⟩) (by show w.heap.size ≤ w.heap.size + 1; omega) _⟩⟩
        have h1 := HK.out.set k (.int .i64 v)
        rw [rset _ hlt, HV.out, rowTo_step _ _ h1k] at h1
        rw [HV.out]
        exact h1
      case measure => simp [intOf]; omega
    · obtain rfl : k = 29 := by omega
      go_wp2_with (first | (refine wpList_load_row rfl 68 (.tmp 3) rfl (w.heap.size + 1) rfl 68 _ (0, 0) _ HK.out Try.underlying68 rfl size68 ?_) | (refine wpList_store_row rfl 68 (.tmp 2) (.tmp 14) rfl w.heap.size _ rfl rfl 68 _ HZ.out size68 rfl (rcells_one _) ?_))
      have HF : Aside0 ((wr.setRow w.heap.size (rcells (rowTo (fun m => 100 + m * b0 % 9000) 29))).heap[w.heap.size]? = some (.cells (rcells (rowTo (fun m => 100 + m * b0 % 9000) 29)) 68 (0, 0))) := ⟨setRow_heap wr _ _ _ _ _ HZ.out⟩
      refine bodyPost_ret (results_cell_row rfl _ _ w.heap.size 68 _ (0, 0) _ rfl HF.out Try.underlying68 rfl size68) rfl ⟨rfl, ?_⟩
      exact below_setRow HB.out _ (Nat.le_refl _) _
set_option maxHeartbeats 4000000 in
set_option maxRecDepth 100000 in
theorem rowB (w : World) (g : Nat) (b0 b1 : Int) (h0 : 0 ≤ b0 ∧ b0 ≤ 65535) (h1 : 0 ≤ b1 ∧ b1 ≤ 65535) (h : Bk w g 55 #[.int .u16 b0, .int .u16 b1]) :
    Calls Try.prog 33 #[.func (.func 30) #[] #[.pointer (some ⟨g, 0, none⟩)]] w fun e w' => e = .returned (.agg (rcells (rowTo (fun m => 1 + m * b1 % 8) 29))) ∧ Below w.heap.size w w' := by
  have H := Aside0.mk h
  obtain ⟨W1, eW1⟩ : ∃ W1, W1 = allocs w [.cells (rcells (fun _ => 0)) 68, .cells (rcells (fun _ => 0)) 68] := ⟨_, rfl⟩
  have HB1 : Aside0 (Below w.heap.size w W1) := ⟨by rw [eW1]; exact allocs_below _ _⟩
  have K0 : Aside0 (Bk W1 w.heap.size 68 (rcells (fun _ => 0))) := ⟨by rw [eW1]; exact allocs_get _ _ 0 _ rfl⟩
  have K1 : Aside0 (Bk W1 (w.heap.size + 1) 68 (rcells (rowTo (fun m => 1 + m * b1 % 8) 1))) := ⟨by
    rw [show rowTo (fun m => 1 + m * b1 % 8) 1 = fun _ => 0 from by funext j; unfold rowTo; rw [if_neg (by omega)]]
    rw [eW1]; exact allocs_get _ _ 1 _ rfl⟩
  simp only [allocs, rcells] at eW1
  clear h
  go_enter Try.func33, Try.ntmps33
  go_wp2_with fail
  rw [← eW1]
  clear eW1
  go_loopw [4] (fun v4 wr => ∃ k : Nat, 1 ≤ k ∧ k ≤ 29 ∧ v4 = .int .i64 k ∧ Aside0 (Bk wr (w.heap.size + 1) 68 (rcells (rowTo (fun m => 1 + m * b1 % 8) k))) ∧ Aside0 (Bk wr w.heap.size 68 (rcells (fun _ => 0))) ∧ Aside0 (Below w.heap.size w wr)) (fun v4 _ => 29 - (intOf v4).toNat)
  case atStart => exact ⟨1, by omega, by omega, rfl, K1, K0, HB1⟩
  case round =>
    obtain ⟨k, h1k, hk, rfl, HK, HZ, HB⟩ := hrel
    by_cases hlt : k < 29
    · have cc : wr.cell? ⟨w.heap.size + 1, k, none⟩ = _ := (HK.out.cell k).trans (rget _ hlt)
      have cf := HK.out.frozen k
      go_wp2_with fail
      refine (weight_ok wr (k : Int) b0 b1 (by omega) h1 g (H.out.below HB.out)).mono ?_
      rintro e w2 ⟨rfl, rfl⟩
      obtain ⟨v, ev⟩ : ∃ v, v = (fun m => 1 + m * b1 % 8) (k : Int) := ⟨_, rfl⟩
      have HV := Aside0.mk ev
      rw [show (1 + (k : Int) * b1 % 8) = v from by rw [ev]]
      clear ev
      go_wp2
      go_roundw
      case rel =>
        refine ⟨k + 1, by omega, by omega, by go_num, ⟨?_⟩, ⟨HZ.out.set_other (by omega) _ _⟩, ⟨HB.out.setCell (p := ⟨w.heap.size + 1, k, none⟩) (by show w.heap.size ≤ w.heap.size + 1; omega) _⟩⟩
        have h1 := HK.out.set k (.int .i64 v)
        rw [rset _ hlt, HV.out, rowTo_step _ _ h1k] at h1
        rw [HV.out]
        exact h1
      case measure => simp [intOf]; omega
    · obtain rfl : k = 29 := by omega
      go_wp2_with (first | (refine wpList_load_row rfl 68 (.tmp 3) rfl (w.heap.size + 1) rfl 68 _ (0, 0) _ HK.out Try.underlying68 rfl size68 ?_) | (refine wpList_store_row rfl 68 (.tmp 2) (.tmp 14) rfl w.heap.size _ rfl rfl 68 _ HZ.out size68 rfl (rcells_one _) ?_))
      have HF : Aside0 ((wr.setRow w.heap.size (rcells (rowTo (fun m => 1 + m * b1 % 8) 29))).heap[w.heap.size]? = some (.cells (rcells (rowTo (fun m => 1 + m * b1 % 8) 29)) 68 (0, 0))) := ⟨setRow_heap wr _ _ _ _ _ HZ.out⟩
      refine bodyPost_ret (results_cell_row rfl _ _ w.heap.size 68 _ (0, 0) _ rfl HF.out Try.underlying68 rfl size68) rfl ⟨rfl, ?_⟩
      exact below_setRow HB.out _ (Nat.le_refl _) _
end Go.Proofs.Ytcmcgjjhbjlkpaa.Pk
