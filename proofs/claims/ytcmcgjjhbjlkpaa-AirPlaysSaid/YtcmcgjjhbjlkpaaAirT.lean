import Derived.Test.YtcmcgjjhbjlkpaaAirU
import Derived.Deep.RegionWith
namespace Go.Proofs.Ytcmcgjjhbjlkpaa.Air
open Go.RowKit Go.Proofs.YtcmcgjjhbjlkpaaW.PrintWords Go.Proofs.YtcmcgjjhbjlkpaaW.PrintLast Go.Proofs.YtcmcgjjhbjlkpaaW.PrintMore
set_option linter.unusedVariables false
set_option linter.unusedSimpArgs false
set_option maxHeartbeats 4000000 in
set_option maxRecDepth 100000 in
theorem law_ok (w : World) (n : Int) (hn : 1 ≤ n ∧ n ≤ 8) (A0 : Option Addr) (m c : Nat) (l : List S46) (hr : Kd.C k46 w A0 m l) : Calls Try.prog 6 #[.int .i64 n, .slice A0 m c] w fun e w' => e = .returned (.bool true) ∧ Below w.heap.size w w' := by
  have HR := Aside0.mk hr
  have HN := Aside0.mk hn
  have hmm := hr.2.1
  clear hr
  go_enter Try.func6, Try.ntmps6
  go_wp2_with fail
  refine (New_ok w n hn).mono ?_
  rintro e w1 ⟨rfl, rfl⟩
  go_wp2_with fail
  refine (rNew_ok _ n hn).mono ?_
  rintro e w2 ⟨rfl, rfl⟩
  have HT := Aside0.mk (two_new w n hn)
  rw [World.size_alloc]
  obtain ⟨ga, ega⟩ : ∃ g, g = w.heap.size := ⟨_, rfl⟩
  generalize ((w.alloc (.cells #[.int .i64 n, .slice none 0 0, .slice none 0 0] 91)).alloc (.cells #[.int .i64 n, .slice none 0 0, .slice none 0 0] 94)) = W at *
  clear hn
  go_wp2_with fail
  go_loopw [7] (fun v7 wr => ∃ i : Nat, i ≤ m ∧ v7 = .int .i64 i ∧ ∃ vma vta vmr vtr ms ts, Aside0 (Two w wr w.heap.size (w.heap.size + 1) vma vta vmr vtr n ms ts ms ts) ∧ Aside0 (TB ts)) (fun v7 _ => m - (intOf v7).toNat)
  case atStart => exact ⟨0, by omega, rfl, _, _, _, _, _, _, HT, ⟨TB_nil⟩⟩
  case round =>
    obtain ⟨i, hi, rfl, vma, vta, vmr, vtr, ms, ts, HTW, HTB⟩ := hrel
    by_cases hlt : i < m
    · by_cases h100 : i < 100
      · obtain ⟨ad, x, rfl, h0, h1, h2, h3⟩ := at46 HR.out i hlt
        have hb := HTW.out.b
        have hl0 := World.block_lt_of_cell? w _ h0
        replace h0 := (hb.cell hl0).trans h0
        replace h1 := (hb.cell (World.block_lt_of_cell? w _ h1)).trans h1
        replace h2 := (hb.cell (World.block_lt_of_cell? w _ h2)).trans h2
        replace h3 := (hb.cell (World.block_lt_of_cell? w _ h3)).trans h3
        clear hb
        have HT2 := Aside0.mk (HTW.out.below ((Below.refl _ wr).alloc (Nat.le_refl _) (Obj.cells #[Value.int IntKind.i64 x.f0, Value.int IntKind.i64 x.f1, Value.int IntKind.i64 x.f2, Value.string x.f3] 46)))
        by_cases e0 : x.f0 = 0
        · go_wp2_with fail
          obtain ⟨W2, eW2⟩ : ∃ W2, W2 = wr.alloc (Obj.cells #[Value.int IntKind.i64 x.f0, Value.int IntKind.i64 x.f1, Value.int IntKind.i64 x.f2, Value.string x.f3] 46) := ⟨_, rfl⟩
          have hx : W2.cell? ⟨wr.heap.size, 1, none⟩ = some (.int .i64 x.f1) := by rw [eW2]; exact World.cell?_alloc_new ..
          have hxl : wr.heap.size < W2.heap.size := by rw [eW2]; simp
          rw [← eW2] at HT2
          rw [e0] at eW2
          rw [← eW2]
          clear eW2
          have hfa : ¬ Foot w.heap.size vma vta wr.heap.size := fun hf => by have := HTW.out.a.foot_lt _ hf; omega
          have hfr : ¬ Foot (w.heap.size + 1) vmr vtr wr.heap.size := fun hf => by have := HTW.out.r.foot_lt _ hf; omega
          have HTd := Aside0.mk (HT2.out.below (below_drew (Below.refl _ W2)))
          have HFA := Aside0.mk hfa
          clear hfa h0 h1 h2 h3 HT HTW HT2 hl0
          go_region_with (first | (go_at_call 21; refine (EraseT HTd.out x.f1).mono ?_; rintro e w3 ⟨rfl, hk, vma1, vta1, hT3⟩; have hx3 : w3.cell? ⟨wr.heap.size, 1, none⟩ = some (.int .i64 x.f1) := hk ⟨wr.heap.size, 1, none⟩ _ hxl HFA.out hx; have HT3 := Aside0.mk hT3; clear hk hT3) | (go_at_call 22; refine (rEraseT HT3.out x.f1).mono ?_; rintro e w4 ⟨rfl, hk, vmr1, vtr1, hT4⟩; have HT4 := Aside0.mk hT4; clear hk hT4))
          all_goals
            go_wp2_with fail
            refine ⟨⟨i + 1, by omega, by go_num, _, _, _, _, _, _, HT4, HTB⟩, ?_⟩
            simp [intOf]
            omega
        · by_cases e1 : x.f0 = 1
          · go_wp2_with fail
            obtain ⟨W2, eW2⟩ : ∃ W2, W2 = wr.alloc (Obj.cells #[Value.int IntKind.i64 x.f0, Value.int IntKind.i64 x.f1, Value.int IntKind.i64 x.f2, Value.string x.f3] 46) := ⟨_, rfl⟩
            have hx : W2.cell? ⟨wr.heap.size, 1, none⟩ = some (.int .i64 x.f1) := by rw [eW2]; exact World.cell?_alloc_new ..
            have hy : W2.cell? ⟨wr.heap.size, 2, none⟩ = some (.int .i64 x.f2) := by rw [eW2]; exact World.cell?_alloc_new ..
            have hxl : wr.heap.size < W2.heap.size := by rw [eW2]; simp
            rw [← eW2] at HT2
            rw [e1] at eW2
            rw [← eW2]
            clear eW2
            have hfa : ¬ Foot w.heap.size vma vta wr.heap.size := fun hf => by have := HTW.out.a.foot_lt _ hf; omega
            have hfr : ¬ Foot (w.heap.size + 1) vmr vtr wr.heap.size := fun hf => by have := HTW.out.r.foot_lt _ hf; omega
            have HTd := Aside0.mk (HT2.out.below (below_drew (Below.refl _ W2)))
            have HFA := Aside0.mk hfa
            clear hfa h0 h1 h2 h3 HT HTW HT2 hl0
            go_region_with (first | (go_at_call 23; refine (TurnT HTd.out x.f1 x.f2).mono ?_; rintro e w3 ⟨rfl, hk, vma1, vta1, hT3⟩; have hx3 : w3.cell? ⟨wr.heap.size, 1, none⟩ = some (.int .i64 x.f1) := hk ⟨wr.heap.size, 1, none⟩ _ hxl HFA.out hx; have hy3 : w3.cell? ⟨wr.heap.size, 2, none⟩ = some (.int .i64 x.f2) := hk ⟨wr.heap.size, 2, none⟩ _ hxl HFA.out hy; have HT3 := Aside0.mk hT3; clear hk hT3) | (go_at_call 24; refine (rTurnT HT3.out x.f1 x.f2).mono ?_; rintro e w4 ⟨rfl, hk, vmr1, vtr1, hT4⟩; have HT4 := Aside0.mk hT4; clear hk hT4))
            all_goals
              go_wp2_with fail
              refine ⟨⟨i + 1, by omega, by go_num, _, _, _, _, _, _, HT4, ⟨TB_put HTB.out⟩⟩, ?_⟩
              simp [intOf]
              omega
          · go_wp2_with fail
            all_goals
              refine (Pass _ w.heap.size w.heap.size vma vta n ms ts _ HT2.out.a HT2.out.b.size HTB.out (by first | omega | (simp [ByteArray.size_extract]; omega))).mono ?_
              rintro e w3 ⟨rfl, hL⟩
              obtain ⟨vma1, vta1, hT3⟩ := HT2.out.stepA hL
              have HT3 := Aside0.mk hT3
              clear hL hT3
              go_wp2_with fail
              refine (rPass _ w.heap.size (w.heap.size + 1) vmr vtr n ms ts _ HT3.out.r HT3.out.b.size HTB.out (by first | omega | (simp [ByteArray.size_extract]; omega))).mono ?_
              rintro e w4 ⟨rfl, hL⟩
              obtain ⟨vmr1, vtr1, hT4⟩ := HT3.out.stepR hL
              have HT4 := Aside0.mk hT4
              clear hL hT4
              go_wp2_with fail
              refine ⟨⟨i + 1, by omega, by go_num, _, _, _, _, _, _, HT4, ⟨TB_tail HTB.out⟩⟩, ?_⟩
              simp [intOf]
              omega
      · have HBW := Aside0.mk HTW.out.b
        go_wp2_with fail
        refine (works wr).mono ?_
        rintro e w3 ⟨rfl, hB⟩
        have HB3 := Aside0.mk (HBW.out.trans (hB.mono HBW.out.size))
        clear hB
        go_wp2
        go_ret
        exact ⟨rfl, HB3.out⟩
    · have HBW := Aside0.mk HTW.out.b
      go_wp2_with fail
      refine (works wr).mono ?_
      rintro e w3 ⟨rfl, hB⟩
      have HB3 := Aside0.mk (HBW.out.trans (hB.mono HBW.out.size))
      clear hB
      go_wp2
      go_ret
      exact ⟨rfl, HB3.out⟩
end Go.Proofs.Ytcmcgjjhbjlkpaa.Air
