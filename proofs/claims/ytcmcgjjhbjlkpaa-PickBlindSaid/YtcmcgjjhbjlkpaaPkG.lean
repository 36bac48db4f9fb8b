import Derived.Test.YtcmcgjjhbjlkpaaPkF
import Derived.Test.YtcmcgjjhbjlkpaaRw
namespace Go.Proofs.Ytcmcgjjhbjlkpaa.Pk
open Go.RowKit Go.Shelf Go.Proofs.Ytcmcgjjhbjlkpaa.Rw Go.Proofs.YtcmcgjjhbjlkpaaW.PrintWords Go.Proofs.YtcmcgjjhbjlkpaaW.PrintLast Go.Proofs.YtcmcgjjhbjlkpaaW.PrintMore Go.Proofs.Ytcmcgjjhbjlkpaa.PPickPlays Go.Proofs.Ytcmcgjjhbjlkpaa.Air
set_option linter.unusedVariables false
set_option linter.unusedSimpArgs false
attribute [local go_sem] Oper.semAt_some
def wdOf (ys : List (Fin 29)) : Nat → Bool := fun i => ys.any (fun y => y.val == i)
theorem wdOf_snoc (ys : List (Fin 29)) (x : Fin 29) : wdOf (ys ++ [x]) = fun j => if j = x.val then true else wdOf ys j := by
  funext j
  unfold wdOf
  rw [List.any_append]
  by_cases h : j = x.val
  · rw [if_pos h]; simp [h]
  · have hx : (x.val == j) = false := beq_eq_false_iff_ne.mpr (fun e => h e.symm)
    rw [if_neg h]
    show (ys.any _ || ((x.val == j) || false)) = _
    rw [hx]
    simp
theorem wset (wd : Nat → Bool) {i : Nat} (h : i < 29) : (wcells wd).setIfInBounds i (.bool true) = wcells (fun j => if j = i then true else wd j) := by
  rcases cases29 h with rfl | rfl | rfl | rfl | rfl | rfl | rfl | rfl | rfl | rfl | rfl | rfl | rfl | rfl | rfl | rfl | rfl | rfl | rfl | rfl | rfl | rfl | rfl | rfl | rfl | rfl | rfl | rfl | rfl <;> rfl
/-- What a search leaves. -/
def NextPost (w : World) (g : Nat) (q : Int) (s : St) (ys : List (Fin 29)) (c wt : Int → Int) (e : Ending) (w' : World) : Prop :=
  Below w.heap.size w w' ∧ ((ys = [] ∧ e = .returned (.tuple #[.int .i64 0, .pointer (some ⟨g, 0, none⟩)])) ∨
    (ys ≠ [] ∧ ∃ s' X, Res q (wdOf ys) c wt s s' ∧ e = .returned (.tuple #[.int .i64 (s'.a : Int), .pointer (some ⟨X, 0, none⟩)]) ∧ Bk w' X 109 (dcells q s'.D (s'.a : Int) s'.f) ∧ w.heap.size ≤ X))
theorem FnP.form {w : World} {fc fw : Value} {c wt : Int → Int} (h : FnP w fc fw c wt) : ∃ nc pc nw pw, fc = .func (.func nc) #[] #[.pointer (some pc)] ∧ fw = .func (.func nw) #[] #[.pointer (some pw)] := by
  rcases h with ⟨p1, p2, n1, n2, h1, h2, _⟩ | ⟨g, b0, b1, h1, h2, _⟩
  · exact ⟨_, _, _, _, h1, h2⟩
  · exact ⟨_, _, _, _, h1, h2⟩
theorem Bk.own {W W' : World} {row : Option Nat} {g t : Nat} {cs : Array Value} (h : Bk W g t cs) (hg : W.grownBy W' row) (hr : ∀ r, row = some r → ∃ o : Obj, W.heap[r]? = some o ∧ o.isCells = false) : Bk W' g t cs :=
  (grownBy_keeps_cells hg hr h rfl).trans h
theorem cells32 {w : World} {g : Nat} {q a : Int} {f : Bool} {D : Nat → Int} {t : Nat} (h : Bk w g t (dcells q D a f)) : w.cell? ⟨g, 0, none⟩ = some (.int .i64 q) ∧ w.cell? ⟨g, 1, none⟩ = some (.int .i64 (D 0)) ∧ w.cell? ⟨g, 2, none⟩ = some (.int .i64 (D 1)) ∧ w.cell? ⟨g, 3, none⟩ = some (.int .i64 (D 2)) ∧ w.cell? ⟨g, 4, none⟩ = some (.int .i64 (D 3)) ∧ w.cell? ⟨g, 5, none⟩ = some (.int .i64 (D 4)) ∧ w.cell? ⟨g, 6, none⟩ = some (.int .i64 (D 5)) ∧ w.cell? ⟨g, 7, none⟩ = some (.int .i64 (D 6)) ∧ w.cell? ⟨g, 8, none⟩ = some (.int .i64 (D 7)) ∧ w.cell? ⟨g, 9, none⟩ = some (.int .i64 (D 8)) ∧ w.cell? ⟨g, 10, none⟩ = some (.int .i64 (D 9)) ∧ w.cell? ⟨g, 11, none⟩ = some (.int .i64 (D 10)) ∧ w.cell? ⟨g, 12, none⟩ = some (.int .i64 (D 11)) ∧ w.cell? ⟨g, 13, none⟩ = some (.int .i64 (D 12)) ∧ w.cell? ⟨g, 14, none⟩ = some (.int .i64 (D 13)) ∧ w.cell? ⟨g, 15, none⟩ = some (.int .i64 (D 14)) ∧ w.cell? ⟨g, 16, none⟩ = some (.int .i64 (D 15)) ∧ w.cell? ⟨g, 17, none⟩ = some (.int .i64 (D 16)) ∧ w.cell? ⟨g, 18, none⟩ = some (.int .i64 (D 17)) ∧ w.cell? ⟨g, 19, none⟩ = some (.int .i64 (D 18)) ∧ w.cell? ⟨g, 20, none⟩ = some (.int .i64 (D 19)) ∧ w.cell? ⟨g, 21, none⟩ = some (.int .i64 (D 20)) ∧ w.cell? ⟨g, 22, none⟩ = some (.int .i64 (D 21)) ∧ w.cell? ⟨g, 23, none⟩ = some (.int .i64 (D 22)) ∧ w.cell? ⟨g, 24, none⟩ = some (.int .i64 (D 23)) ∧ w.cell? ⟨g, 25, none⟩ = some (.int .i64 (D 24)) ∧ w.cell? ⟨g, 26, none⟩ = some (.int .i64 (D 25)) ∧ w.cell? ⟨g, 27, none⟩ = some (.int .i64 (D 26)) ∧ w.cell? ⟨g, 28, none⟩ = some (.int .i64 (D 27)) ∧ w.cell? ⟨g, 29, none⟩ = some (.int .i64 (D 28)) ∧ w.cell? ⟨g, 30, none⟩ = some (.int .i64 a) ∧ w.cell? ⟨g, 31, none⟩ = some (.bool f) :=
  ⟨h.cell 0, h.cell 1, h.cell 2, h.cell 3, h.cell 4, h.cell 5, h.cell 6, h.cell 7, h.cell 8, h.cell 9, h.cell 10, h.cell 11, h.cell 12, h.cell 13, h.cell 14, h.cell 15, h.cell 16, h.cell 17, h.cell 18, h.cell 19, h.cell 20, h.cell 21, h.cell 22, h.cell 23, h.cell 24, h.cell 25, h.cell 26, h.cell 27, h.cell 28, h.cell 29, h.cell 30, h.cell 31⟩
theorem size109 : (Try.prog.info? 109).map (·.size) = some 32 := by kernel_rfl
theorem dcells_one (q : Int) (D : Nat → Int) (a : Int) (f : Bool) : (dcells q D a f).all (·.oneCell') = true := by simp [dcells, Value.oneCell']
theorem ysOf_rng {xs : List Int} {y : Fin 29} (h : y ∈ ysOf xs) : 1 ≤ y.val ∧ y.val ≤ 28 := by
  unfold ysOf at h
  obtain ⟨x, hx, rfl⟩ := List.mem_map.1 h
  have := (List.mem_filter.1 hx).2
  simp [inR] at this
  have := fi_val this.1 this.2
  omega
theorem sameBut.toBelow {w w1 : World} {X n : Nat} (h : sameBut w w1 X) (hX : n ≤ X) (hn : n ≤ w.heap.size) : Below n w w1 := ⟨h.os, h.tape, h.output, h.size, fun k hk => h.block k (by omega) (by omega)⟩
theorem sameBut.trans {w w1 w2 : World} {X : Nat} (h : sameBut w w1 X) (k : sameBut w1 w2 X) : sameBut w w2 X := Keep.trans h k (fun i hi => .inl hi)
/-- The row of what is wanted, the mark, and the boxes. -/
def NI (w : World) (fc fw : Value) (pre : List (Fin 29)) (W : World) : Prop :=
  Bk W (w.heap.size + 1 + 1) 130 (wcells (wdOf pre)) ∧ Bk W (w.heap.size + 1 + 1 + 1) 4 #[.bool (!pre.isEmpty)] ∧ Bk W w.heap.size 60 #[fc] ∧ Bk W (w.heap.size + 1) 60 #[fw]
theorem NI_own (w : World) (fc fw : Value) : Own (NI w fc fw) := fun pre A B row hs hg hr => ⟨hs.1.own hg hr, hs.2.1.own hg hr, hs.2.2.1.own hg hr, hs.2.2.2.own hg hr⟩
def measW (m X : Nat) (W : World) : Nat := 29 * (40000 - intOf ((W.cell? ⟨X, 1 + m, none⟩).getD undef)).toNat + (m + 28 - (intOf ((W.cell? ⟨X, 30, none⟩).getD undef)).toNat) % 28 + (match W.cell? ⟨X, 31, none⟩ with | some (.bool true) => 29 | _ => 0)
theorem measW_eq {m X : Nat} (hm : m < 29) {W : World} {q : Int} {s : St} (h : Bk W X 109 (dcells q s.D (s.a : Int) s.f)) : measW m X W = meas m s := by
  have h1 := (h.cell (1 + m)).trans (dget q s.D _ s.f hm)
  have h2 : W.cell? ⟨X, 30, none⟩ = some (Value.int .i64 (s.a : Int)) := h.cell 30
  have h3 : W.cell? ⟨X, 31, none⟩ = some (Value.bool s.f) := h.cell 31
  unfold measW meas
  rw [h1, h2, h3]
  cases s.f <;> simp [intOf]
set_option maxHeartbeats 8000000 in
set_option maxRecDepth 100000 in
theorem Next_ok (w : World) (g : Nat) (q : Int) (hq : 1000 ≤ q ∧ q ≤ 1000000) (s : St) (hs : Inv s) (hd : Bk w g 109 (dcells q s.D (s.a : Int) s.f)) (A : Option Addr) (cc : Nat) (xs : List Int) (hlen : xs.length ≤ 9223372036854775806) (hr : Kd.C (Kd.int .i64) w A xs.length xs)
    (hA : ∀ ad, A = some ad → ad.block < w.heap.size) (fc fw : Value) (c wt : Int → Int) (hf : FnP w fc fw c wt) :
    Calls Try.prog 67 #[.pointer (some ⟨g, 0, none⟩), .slice A xs.length cc, fc, fw] w (NextPost w g q s (ysOf xs) c wt) := by
  obtain ⟨nc, pc, nw, pw, efc, efw⟩ := hf.form
  have HF := Aside0.mk hf
  have HR := Aside0.mk hr
  have HD := Aside0.mk hd
  have hgl := hd.lt
  obtain ⟨W5, eW5⟩ : ∃ W5, W5 = ((((w.alloc (.cells #[fc] 60)).alloc (.cells #[fw] 60)).alloc (.cells (wcells (fun _ => false)) 130)).alloc (.cells #[.bool false] 4)).alloc (.cells #[.slice A xs.length cc] 27) := ⟨_, rfl⟩
  have HB5 : Aside0 (Below w.heap.size w W5) := ⟨by rw [eW5]; exact (((((Below.refl _ w).alloc (Nat.le_refl _) _).alloc (by simp) _).alloc (by simp; omega) _).alloc (by simp; omega) _).alloc (by simp; omega) _⟩
  have hsz5 : W5.heap.size = w.heap.size + 5 := by rw [eW5]; simp
  have HI0 : Aside0 (NI w fc fw [] W5) := ⟨by
    rw [eW5]
    refine ⟨?_, ?_, ?_, ?_⟩
    · have := ((Bk.new ((w.alloc (.cells #[fc] 60)).alloc (.cells #[fw] 60)) 130 (wcells (fun _ => false))).alloc (.cells #[.bool false] 4)).alloc (.cells #[.slice A xs.length cc] 27)
      rw [World.size_alloc, World.size_alloc] at this
      exact this
    · have := (Bk.new (((w.alloc (.cells #[fc] 60)).alloc (.cells #[fw] 60)).alloc (.cells (wcells (fun _ => false)) 130)) 4 #[.bool false]).alloc (.cells #[.slice A xs.length cc] 27)
      rw [World.size_alloc, World.size_alloc, World.size_alloc] at this
      exact this
    · exact ((((Bk.new w 60 #[fc]).alloc _).alloc _).alloc _).alloc _
    · have := (((Bk.new (w.alloc (.cells #[fc] 60)) 60 #[fw]).alloc (.cells (wcells (fun _ => false)) 130)).alloc (.cells #[.bool false] 4)).alloc (.cells #[.slice A xs.length cc] 27)
      rw [World.size_alloc] at this
      exact this⟩
  have HBX : Aside0 (W5.heap[w.heap.size + 1 + 1 + 1 + 1]? = some (.cells #[.slice A xs.length cc] 27 (0, 0))) := ⟨by
    have := Bk.new ((((w.alloc (.cells #[fc] 60)).alloc (.cells #[fw] 60)).alloc (.cells (wcells (fun _ => false)) 130)).alloc (.cells #[.bool false] 4)) 27 #[.slice A xs.length cc]
    rw [World.size_alloc, World.size_alloc, World.size_alloc, World.size_alloc] at this
    rw [eW5]
    exact this⟩
  have HW5 := Aside0.mk eW5
  clear eW5 hf hr hd
  subst efc efw
  refine (callsIn_wide (n := 4)).1 ?_
  refine callsIn_of_wp_marks Try.func67 rfl trivial ?_ rfl
  simp only [Try.ntmps67, List.size_toArray, List.length_cons, List.length_nil, Nat.reduceAdd, Nat.reduceSub, Array.replicate_succ, Array.replicate_zero, List.push_toArray, List.append_toArray, List.nil_append, List.cons_append]
  gi_wp2_with fail
  rename_i hK
  refine hK _ _ ?_
  clear hK
  gi_wp2_with fail
  rename_i hK
  refine hK _ _ ?_
  clear hK
  gi_wp2_with fail
  refine ⟨trivial, ?_⟩
  refine (modes_in Fence.wide 3 trivial rfl _ A _ cc).mono ?_
  rintro e w5 ⟨rfl, rfl⟩
  gi_wp2_with fail
  have hW5 := HW5.out
  simp only [wcells] at hW5
  rw [← hW5]
  clear hW5 HW5
  refine wpIn_rangeFunc_ownF rfl (by omega) (gf := 81) (lb := #[.pointer (some ⟨w.heap.size + 1 + 1 + 1 + 1, 0, none⟩)]) rfl trivial (enters_of Try.func81 (by kernel_rfl) rfl)
    (modes_stops Fence.wide 3 trivial rfl (by omega) w.heap.size (w.heap.size + 1 + 1 + 1 + 1) A cc xs hlen W5 HBX.out (cells_below HR.out HB5.out) hA) (fun h k i hi => (k i hi).trans (h i hi)) (fun W l o o' hl ho _ _ k hk => World.putObj_heap_other (by omega)) (Below.refl _ _) (fun _ => rfl)
    (fun pre W => NI w (.func (.func nc) #[] #[.pointer (some pc)]) (.func (.func nw) #[] #[.pointer (some pw)]) pre W ∧ Below w.heap.size w W)
    (fun _ _ _ => False)
    (OwnFrom.and (Own.from (NI_own w _ _) _) (ownFrom_below (Nat.le_refl _) (by omega)))
    (fun _ _ _ _ _ hs _ _ => hs)
    ⟨HI0.out, HB5.out⟩
    (fun x => { tmps := #[Value.pointer (some { block := g, off := 0 }), Value.slice A xs.length cc,
        Value.func (Fn.func nc) #[] #[Value.pointer (some pc)], Value.func (Fn.func nw) #[] #[Value.pointer (some pw)],
        undef, undef, Value.pointer (some { block := w.heap.size, off := 0 }),
        Value.pointer (some { block := w.heap.size + 1, off := 0 }), Value.int IntKind.i64 0, Value.pointer none,
        Value.pointer (some { block := w.heap.size + 1 + 1, off := 0 }),
        Value.pointer (some { block := w.heap.size + 1 + 1 + 1, off := 0 }), .int .i64 (x.val : Int), undef, undef,
        Value.pointer (some { block := g, off := 0 }), Value.bool false, Value.bool false,
        Value.func (Fn.func nc) #[] #[Value.pointer (some pc)], Value.bool false, Value.bool false, Value.bool false,
        Value.func (Fn.func nw) #[] #[Value.pointer (some pw)], Value.bool false, Value.bool false, undef,
        Value.slice A xs.length cc,
        Value.func (Fn.func 81) #[] #[Value.pointer (some { block := w.heap.size + 1 + 1 + 1 + 1, off := 0 })], .int .i64 (x.val : Int),
        undef, undef, undef, undef, undef, undef, undef, undef, undef, undef, undef, undef, undef, undef, undef], defers := [] }) ?assign ?body ?done ?stop
  case assign =>
    intro l x W K hK
    gi_wp2
    exact hK
  case body =>
    rintro l pre ⟨k, hk⟩ W ⟨hI, hB⟩ _
    dsimp only
    have HI := Aside0.mk hI
    have HBW := Aside0.mk hB
    have c1 := (hI.1.cell k).trans (wget _ hk)
    have c2 : W.cell? ⟨w.heap.size + 1 + 1 + 1, 0, none⟩ = some (Value.bool (!pre.isEmpty)) := hI.2.1.cell 0
    have f1 : W.frozen? ⟨w.heap.size + 1 + 1, k, none⟩ = false := hI.1.frozen _
    have f2 : W.frozen? ⟨w.heap.size + 1 + 1 + 1, 0, none⟩ = false := hI.2.1.frozen _
    clear hI hB HI0 HB5
    gi_wp2_with fail
    refine ⟨(KeepsOthers.setCell _ _ _).trans (KeepsOthers.setCell _ _ _), fun i hi => (Below.heap_setCell _ _ _ _ (by show i ≠ w.heap.size + 1 + 1 + 1; omega)).trans (Below.heap_setCell _ _ _ _ (by show i ≠ w.heap.size + 1 + 1; omega)), ⟨?_, ?_, ?_, ?_⟩, ?_⟩
    · have h1 := (HI.out.1.set k (.bool true)).set_other (b := w.heap.size + 1 + 1 + 1) (by omega) 0 (.bool true)
      rw [wset _ hk] at h1
      rw [wdOf_snoc]
      exact h1
    · have h1 := (HI.out.2.1.set_other (b := w.heap.size + 1 + 1) (by omega) k (.bool true)).set 0 (.bool true)
      rw [show (!(pre ++ [(⟨k, hk⟩ : Fin 29)]).isEmpty) = true by simp]
      exact h1
    · exact (HI.out.2.2.1.set_other (by omega) _ _).set_other (by omega) _ _
    · exact (HI.out.2.2.2.set_other (by omega) _ _).set_other (by omega) _ _
    · exact (HBW.out.setCell (p := ⟨w.heap.size + 1 + 1, k, none⟩) (by show w.heap.size ≤ w.heap.size + 1 + 1; omega) _).setCell (p := ⟨w.heap.size + 1 + 1 + 1, 0, none⟩) (by show w.heap.size ≤ w.heap.size + 1 + 1 + 1; omega) _
  case done =>
    rintro D ys W hD rfl ⟨hI, hB⟩ hK
    have HI := Aside0.mk hI
    have HBW := Aside0.mk hB
    have HKD := Aside0.mk hK
    have c2 : W.cell? ⟨w.heap.size + 1 + 1 + 1, 0, none⟩ = some (Value.bool (!(ysOf xs).isEmpty)) := hI.2.1.cell 0
    have HDW := Aside0.mk (HD.out.below hB)
    have hDl : D < W.heap.size := (Array.getElem?_eq_some_iff.1 hK).1
    clear hI hB hK HI0 HB5
    obtain ⟨ys, ey⟩ : ∃ ys, ys = ysOf xs := ⟨_, rfl⟩
    rw [← ey] at c2 HI
    have HY := Aside0.mk ey
    clear ey
    rcases ys with _ | ⟨y, ys⟩
    · rw [List.isEmpty_nil] at c2
      gi_wp2_with fail
      refine ⟨by simp, .inl ⟨_, _, rfl, run_takeDeferred HKD.out, ?_⟩⟩
      refine ⟨_, results_tmp2 rfl _ _ _, HBW.out.trans (belowK_b (w := w) (Nat.le_refl _) W D _ _ (by omega) HKD.out rfl rfl), .inl ⟨HY.out.symm, rfl⟩⟩
    · rw [List.isEmpty_cons] at c2
      gi_wp2_with (first | (refine wpListIn_load_row rfl 109 (.tmp 35) rfl g rfl 109 (dcells q s.D (s.a : Int) s.f) (0, 0) _ HDW.out Try.underlying109 rfl size109 ?_) | (refine wpListIn_store_row rfl 109 (.tmp 13) (.tmp 36) rfl W.heap.size (dcells q s.D (s.a : Int) s.f) rfl rfl 109 _ (heap_alloc_new W _) size109 rfl (dcells_one _ _ _ _) ?_; rw [World.setRow_alloc_new]))
      have hy := ysOf_rng (xs := xs) (y := y) (by rw [← HY.out]; simp)
      obtain ⟨wd, ewd⟩ : ∃ wd, wd = wdOf (y :: ys) := ⟨_, rfl⟩
      have hwy : wd y.val = true := by rw [ewd]; simp [wdOf]
      have HWD := Aside0.mk ewd
      obtain ⟨X, eX⟩ : ∃ X, X = W.heap.size := ⟨_, rfl⟩
      obtain ⟨W7, eW7⟩ : ∃ W7, W7 = W.alloc (Obj.cells (dcells q s.D (s.a : Int) s.f) 109) := ⟨_, rfl⟩
      have HX7 : Aside0 (Bk W7 X 109 (dcells q s.D (s.a : Int) s.f)) := ⟨by rw [eX, eW7]; exact Bk.new W 109 _⟩
      have HB7 : Aside0 (Below W.heap.size W W7) := ⟨by rw [eW7]; exact (Below.refl _ W).alloc (Nat.le_refl _) _⟩
      have hI := HI.out
      unfold NI at hI
      rw [← ewd] at hI
      have HY7 := Aside0.mk (hI.1.below HB7.out)
      have HC7 := Aside0.mk (hI.2.2.1.below HB7.out)
      have HW7 := Aside0.mk (hI.2.2.2.below HB7.out)
      have HF7 := Aside0.mk ((HF.out.below HBW.out).below HB7.out)
      have hIl := hI.1.lt
      have hXl : W7.heap.size = X + 1 := by rw [eW7, eX]; simp
      have hXw : w.heap.size + 5 ≤ D ∧ D < X ∧ w.heap.size + 1 + 1 < X := by rw [eX]; omega
      have HKD7 : Aside0 (W7.heap[D]? = some (.deferred (some []))) := ⟨(HB7.out.block D hDl).trans HKD.out⟩
      have HBL := Aside0.mk (HBW.out.trans (HB7.out.mono HBW.out.size))
      rw [← eX, ← eW7]
      clear eW7 eX ewd hI hIl hDl c2
      have hss := Aside0.mk (Fails.refl (q := q) (wd := wd) (c := c) (wt := wt) (s0 := s))
      gi_loopw [41] (fun v41 wr =>
        Aside0 (∃ s1, Fails q wd c wt s s1 ∧ Bk wr X 109 (dcells q s1.D (s1.a : Int) s1.f)) ∧ Aside0 (sameBut W7 wr X)) (fun _ wr => measW y.val X wr)
      case atStart => exact ⟨⟨s, hss.out, HX7.out⟩, ⟨Keep.refl _ _⟩⟩
      case round =>
        obtain ⟨⟨s1, hfl, hbk⟩, HS⟩ := hrel
        have HFL := Aside0.mk hfl
        have HBK := Aside0.mk hbk
        have hi1 := hfl.inv hq hs
        have HI1 := Aside0.mk hi1
        have HM1 := Aside0.mk (measW_eq (m := y.val) (by omega) hbk)
        have HT := Aside0.mk (turn_ok wr X (w.heap.size + 1 + 1) ⟨w.heap.size, 0, none⟩ ⟨w.heap.size + 1, 0, none⟩ q hq s1 hi1.1 wd (hi1.2 _) hbk (HS.out.bk (by omega) HY7.out) _ _ c wt
          (HF.out.below (HBL.out.trans (HS.out.toBelow (by omega) HBL.out.size))) ((HS.out.bk (by omega) HC7.out).cell 0) ((HS.out.bk (by omega) HW7.out).cell 0))
        clear hfl hbk hi1
        gi_wp2_with fail
        refine ⟨trivial, ?_⟩
        refine (callsIn_wide.2 HT.out).mono ?_
        rintro e w1 ⟨rfl, hb1, hs1⟩
        have HB1 := Aside0.mk hb1
        have HS1 := Aside0.mk (HS.out.trans hs1)
        have HTI := Aside0.mk (turn_inv (wd := wd) (c := c) (wt := wt) hq HI1.out)
        clear hb1 hs1 HT
        cases hb : (turnF q wd c wt s1).1
        · have HFN := Aside0.mk (HFL.out.step hb)
          have HML := Aside0.mk (meas_lt hq hy hwy HI1.out hb)
          clear hb
          gi_wp2_with fail
          refine ⟨trivial, ?_⟩
          refine (callsIn_wide.2 (on_ok w1 X q (turnF q wd c wt s1).2.D ((turnF q wd c wt s1).2.a : Int) (by have := HTI.out.1.1; omega) (turnF q wd c wt s1).2.f HB1.out)).mono ?_
          rintro e w2 ⟨rfl, hb2, hs2⟩
          have HB2 : Aside0 (Bk w2 X 109 (dcells q (onF (turnF q wd c wt s1).2).D ((onF (turnF q wd c wt s1).2).a : Int) (onF (turnF q wd c wt s1).2).f)) := ⟨by
            have e : (((onF (turnF q wd c wt s1).2).a : Nat) : Int) = ((turnF q wd c wt s1).2.a : Int) % 28 + 1 := by simp [onF]
            rw [e]; exact hb2⟩
          have HS2 := Aside0.mk (HS1.out.trans hs2)
          clear hb2 hs2
          gi_wp2_with fail
          refine ⟨⟨⟨_, HFN.out, HB2.out⟩, HS2⟩, ?_⟩
          show measW y.val X w2 < measW y.val X wr
          rw [HM1.out, measW_eq (m := y.val) (by omega) HB2.out]
          exact HML.out
        · have HRES := Aside0.mk (show Res q wd c wt s (turnF q wd c wt s1).2 from ⟨s1, HFL.out, Prod.ext hb rfl⟩)
          have c30 : w1.cell? ⟨X, 30, none⟩ = some (Value.int .i64 ((turnF q wd c wt s1).2.a : Int)) := HB1.out.cell 30
          clear hb
          gi_wp2_with fail
          have HKD1 := Aside0.mk ((HS1.out.block D (by omega) (by omega)).trans HKD7.out)
          have HBE := Aside0.mk (HBL.out.trans (HS1.out.toBelow (by omega) HBL.out.size))
          refine ⟨by simp, .inl ⟨_, _, rfl, run_takeDeferred HKD1.out, ?_⟩⟩
          refine ⟨_, results_tmp2 rfl _ _ _, HBE.out.trans (belowK_b (w := w) (Nat.le_refl _) w1 D _ _ (by omega) HKD1.out rfl rfl), .inr ⟨?_, _, X, ?_, rfl, ?_, by omega⟩⟩
          · rw [← HY.out]; simp
          · rw [← HY.out, ← HWD.out]; exact HRES.out
          · exact (World.putObj_heap_other (by omega)).trans HB1.out
  case stop =>
    rintro D c pre W _ _ h _
    exact h.elim
end Go.Proofs.Ytcmcgjjhbjlkpaa.Pk
