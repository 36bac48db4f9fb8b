import Derived.Test.YtcmcgjjhbjlkpaaAirP
namespace Go.Proofs.Ytcmcgjjhbjlkpaa.Air
open Go.RowKit Go.Proofs.YtcmcgjjhbjlkpaaW.PrintWords Go.Proofs.YtcmcgjjhbjlkpaaW.PrintLast Go.Proofs.YtcmcgjjhbjlkpaaW.PrintMore
set_option linter.unusedVariables false
set_option linter.unusedSimpArgs false
structure S46 where
  f0 : Int
  f1 : Int
  f2 : Int
  f3 : ByteArray
def k46 : Kd S46 := Kd.iso (Kd.pair (Kd.int .i64) (Kd.pair (Kd.int .i64) (Kd.pair (Kd.int .i64) Kd.string))) (fun x : S46 => (x.f0, x.f1, x.f2, x.f3))
theorem k46_open {w : World} {x : S46} {cs : List Value} (h : k46.K w x cs) : cs = [.int .i64 x.f0, .int .i64 x.f1, .int .i64 x.f2, .string x.f3] := by
  obtain ⟨c1, r1, rfl, rfl, c2, r2, rfl, rfl, c3, r3, rfl, rfl, rfl⟩ := h
  rfl
def z46 : S46 := ⟨0, 0, 0, ByteArray.empty⟩
theorem at46 {w : World} {A : Option Addr} {n : Nat} {xs : List S46} (h : Kd.C k46 w A n xs) (i : Nat) (h1 : i < n) : ∃ (ad : Addr) (x : S46), A = some ad ∧
    w.cell? (ad.add (i * 4)) = some (.int .i64 x.f0) ∧ w.cell? ⟨(ad.add (i * 4)).block, (ad.add (i * 4)).off + 1, none⟩ = some (.int .i64 x.f1) ∧
    w.cell? ⟨(ad.add (i * 4)).block, (ad.add (i * 4)).off + 2, none⟩ = some (.int .i64 x.f2) ∧ w.cell? ⟨(ad.add (i * 4)).block, (ad.add (i * 4)).off + 3, none⟩ = some (.string x.f3) := by
  obtain ⟨ad, c, e, _, hK, hc0⟩ := Kd.C_get h z46 (i : Int) (by omega) (by omega)
  have hc : ∀ j u, c[j]? = some u → w.cell? (ad.add (i * 4 + j)) = some u := hc0
  have ha : ∀ j, 0 < j → (⟨(ad.add (i * 4)).block, (ad.add (i * 4)).off + j, none⟩ : Addr) = ad.add (i * 4 + j) := by
    intro j hj
    unfold Addr.add
    by_cases h : i * 4 = 0
    · rw [if_pos h, if_neg (by omega), h, Nat.zero_add]
    · rw [if_neg h, if_neg (by omega)]
      simp [Nat.add_assoc]
  obtain rfl := k46_open hK
  refine ⟨ad, _, e, hc 0 _ rfl, ?_, ?_, ?_⟩
  · rw [ha 1 (by decide)]; exact hc 1 _ rfl
  · rw [ha 2 (by decide)]; exact hc 2 _ rfl
  · rw [ha 3 (by decide)]; exact hc 3 _ rfl
set_option maxHeartbeats 4000000 in
set_option maxRecDepth 100000 in
theorem law_bad (w : World) (n : Int) (hn : ¬ (1 ≤ n ∧ n ≤ 8)) (A0 : Option Addr) (m c : Nat) : Calls Try.prog 6 #[.int .i64 n, .slice A0 m c] w fun e w' => e = .returned (.bool true) ∧ Below w.heap.size w w' := by
  go_enter Try.func6, Try.ntmps6
  go_wp2_with fail
  refine (New_bad w n hn).mono ?_
  rintro e w1 ⟨rfl, rfl⟩
  go_wp2_with fail
  refine (rNew_bad w1 n hn).mono ?_
  rintro e w2 ⟨rfl, rfl⟩
  go_wp2_with fail
  refine (works w2).mono ?_
  rintro e w3 ⟨rfl, hB⟩
  have HB := Aside0.mk hB
  clear hB
  go_wp2
  go_ret
  exact ⟨rfl, HB.out⟩
end Go.Proofs.Ytcmcgjjhbjlkpaa.Air
