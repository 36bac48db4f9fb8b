/- The plain law of SpecWithin. -/
import Derived.Test.YtcmcgjjhbjlkpaaSpWithin
import Derived.Test.YtcmcgjjhbjlkpaaSpPure
set_option linter.unusedVariables false
set_option linter.unusedSimpArgs false
namespace Go.Proofs.Ytcmcgjjhbjlkpaa.Sp
open Go.RowKit Go.Proofs.YtcmcgjjhbjlkpaaW.PrintWords Go.Proofs.YtcmcgjjhbjlkpaaW.PrintLast Go.Proofs.YtcmcgjjhbjlkpaaW.PrintMore
/-! ### The plain law of SpecWithin -/
def txt (x : S32) : ByteArray := strOfNums [(97 + (Int.tmod x.f2 4)) % 256]
def gT (x : S32) : S35 := ⟨wrap64 (Int.tmod x.f0 3), wrap64 (Int.tmod x.f1 3), txt x⟩
def pT (i : Int) (x : S32) : S38 := ⟨IntKind.u64.wrap ((IntKind.u64.wrap i) + 1), wrap64 (Int.tmod x.f0 3), wrap64 (Int.tmod x.f1 3), txt x, 0⟩
theorem key_pT (i : Int) (x : S32) : keyOf (pT i x) = gkey (gT x) := rfl
def accOf : Nat → List S32 → List S38
  | _, [] => []
  | i, x :: xs => pT i x :: accOf (i + 1) xs
def someOf : List S32 → List S35
  | [] => []
  | x :: xs => if x.f3 = true then gT x :: someOf xs else someOf xs
def begOf (e : Int) : Nat → List S32 → List S35
  | _, [] => []
  | i, x :: xs => if (i : Int) < e then gT x :: begOf e (i + 1) xs else begOf e (i + 1) xs
theorem accOf_len : ∀ (xs : List S32) (i : Nat), (accOf i xs).length = xs.length
  | [], _ => rfl
  | x :: xs, i => by simp [accOf, accOf_len xs (i + 1)]
theorem someOf_le : ∀ (xs : List S32), (someOf xs).length ≤ xs.length
  | [] => Nat.le_refl _
  | x :: xs => by have := someOf_le xs; simp only [someOf]; split <;> simp <;> omega
theorem begOf_le (e : Int) : ∀ (xs : List S32) (i : Nat), (begOf e i xs).length ≤ xs.length
  | [], _ => Nat.le_refl _
  | x :: xs, i => by have := begOf_le e xs (i + 1); simp only [begOf]; split <;> simp <;> omega
theorem begOf_none (e : Int) : ∀ (xs : List S32) (i : Nat), e ≤ i → begOf e i xs = []
  | [], _, _ => rfl
  | x :: xs, i, h => by simp only [begOf]; rw [if_neg (by omega)]; exact begOf_none e xs (i + 1) (by push_cast; omega)
def runF (nx : List ByteArray → ByteArray → Option (List ByteArray)) : List S35 → (Int × Int → List ByteArray) → Option (Int × Int → List ByteArray)
  | [], left => some left
  | g :: gs, left => match nx (left (gkey g)) g.f2 with
    | none => none
    | some r => runF nx gs (fun k => if k = gkey g then r else left k)
theorem run_first {nx : List ByteArray → ByteArray → Option (List ByteArray)} : ∀ {gs : List S35} {left l' : Int × Int → List ByteArray} {i : Int}, runF nx gs left = some l' → firstF nx gs left i = -1
  | [], _, _, _, _ => rfl
  | g :: gs, left, l', i, h => by
    simp only [runF] at h
    simp only [firstF]
    cases hn : nx (left (gkey g)) g.f2 with
    | none => rw [hn] at h; simp at h
    | some r => rw [hn] at h; exact run_first h
theorem run_last {nx : List ByteArray → ByteArray → Option (List ByteArray)} (z : S35) : ∀ {gs : List S35} {left l' : Int × Int → List ByteArray} {i : Int}, runF nx gs left = some l' → nx (l' (gkey z)) z.f2 = none → firstF nx (gs ++ [z]) left i = i + gs.length
  | [], left, l', i, h, hz => by
    simp only [runF, Option.some.injEq] at h
    subst h
    simp [firstF, hz]
  | g :: gs, left, l', i, h, hz => by
    simp only [runF] at h
    simp only [List.cons_append, firstF]
    cases hn : nx (left (gkey g)) g.f2 with
    | none => rw [hn] at h; simp at h
    | some r =>
      rw [hn] at h
      have := run_last z (i := i + 1) h hz
      simp only [this, List.length_cons]
      push_cast
      omega
theorem grp_cons (p : S38) (ps : List S38) (k : Int × Int) : grp (p :: ps) k = if keyOf p = k then p.f3 :: grp ps k else grp ps k := by
  by_cases h : keyOf p = k <;> simp [grp, List.filter_cons, h]
/-- beginnings -/
theorem pre_run (e : Int) : ∀ (xs : List S32) (i : Nat) (left : Int × Int → List ByteArray), (∀ k, left k = grp (accOf i xs) k) → ∃ l', runF pnext (begOf e i xs) left = some l' ∧ ∀ k, l' k <:+ left k
  | [], i, left, _ => ⟨left, rfl, fun k => List.suffix_refl _⟩
  | x :: xs, i, left, h => by
    by_cases hi : (i : Int) < e
    · have hk := h (gkey (gT x))
      simp only [accOf] at hk
      rw [grp_cons, if_pos (key_pT i x)] at hk
      have hn : pnext (left (gkey (gT x))) (gT x).f2 = some (grp (accOf (i + 1) xs) (gkey (gT x))) := by
        rw [hk]; simp only [pnext]; exact if_pos rfl
      obtain ⟨l', h1, h2⟩ := pre_run e xs (i + 1) (fun k => if k = gkey (gT x) then grp (accOf (i + 1) xs) (gkey (gT x)) else left k) (fun k => by
        by_cases e : k = gkey (gT x)
        · simp [e]
        · simp only [if_neg e, h k, accOf]
          rw [grp_cons, if_neg (fun e' => e ((key_pT i x).symm.trans e').symm)])
      refine ⟨l', ?_, fun k => (h2 k).trans ?_⟩
      · simp only [begOf, if_pos hi, runF, hn]
        exact h1
      · by_cases e : k = gkey (gT x)
        · simp only [if_pos e]
          rw [e, hk]
          exact List.suffix_cons _ _
        · simp only [if_neg e]
          exact List.suffix_refl _
    · rw [begOf_none e (x :: xs) i (by omega)]
      exact ⟨left, rfl, fun k => List.suffix_refl _⟩
theorem wnext_suffix (s : ByteArray) (R : List ByteArray) : ∀ pre : List ByteArray, ∃ r, wnext (pre ++ s :: R) s = some r ∧ R <:+ r ∧ r <:+ (pre ++ s :: R)
  | [] => ⟨R, by simp [wnext], List.suffix_refl _, List.suffix_cons _ _⟩
  | x :: pre => by
    by_cases hx : x.toList = s.toList
    · exact ⟨pre ++ s :: R, by simp [wnext, hx], ⟨pre ++ [s], by simp⟩, List.suffix_cons _ _⟩
    · obtain ⟨r, h1, h2, h3⟩ := wnext_suffix s R pre
      exact ⟨r, by simp only [List.cons_append, wnext, if_neg hx]; exact h1, h2, h3.trans (List.suffix_cons _ _)⟩
/-- within: whatever is left out -/
theorem in_run (f : Nat → S32 → Bool) (gs : Nat → List S32 → List S35) (hg0 : ∀ i, gs i [] = []) (hg : ∀ i x xs, gs i (x :: xs) = if f i x = true then gT x :: gs (i + 1) xs else gs (i + 1) xs) :
    ∀ (xs : List S32) (i : Nat) (left : Int × Int → List ByteArray), (∀ k, grp (accOf i xs) k <:+ left k) → ∃ l', runF wnext (gs i xs) left = some l' ∧ ∀ k, l' k <:+ left k
  | [], i, left, _ => ⟨left, by rw [hg0]; rfl, fun k => List.suffix_refl _⟩
  | x :: xs, i, left, h => by
    rw [hg]
    by_cases hf : f i x = true
    · rw [if_pos hf]
      have hk := h (gkey (gT x))
      simp only [accOf] at hk
      rw [grp_cons, if_pos (key_pT i x)] at hk
      obtain ⟨pre, hp⟩ := hk
      obtain ⟨r, h1, h2, h3⟩ := wnext_suffix (pT i x).f3 (grp (accOf (i + 1) xs) (gkey (gT x))) pre
      rw [hp] at h1 h3
      obtain ⟨l', q1, q2⟩ := in_run f gs hg0 hg xs (i + 1) (fun k => if k = gkey (gT x) then r else left k) (fun k => by
        by_cases e : k = gkey (gT x)
        · simp only [if_pos e]; rw [e]; exact h2
        · simp only [if_neg e]
          have := h k
          simp only [accOf] at this
          rwa [grp_cons, if_neg (fun e' => e ((key_pT i x).symm.trans e').symm)] at this)
      refine ⟨l', ?_, fun k => (q2 k).trans ?_⟩
      · have h1' : wnext (left (gkey (gT x))) (gT x).f2 = some r := h1
        simp only [runF, h1']
        exact q1
      · by_cases e : k = gkey (gT x)
        · simp only [if_pos e]; rw [e]; exact h3
        · simp only [if_neg e]; exact List.suffix_refl _
    · rw [if_neg hf]
      exact in_run f gs hg0 hg xs (i + 1) left (fun k => by
        have := h k
        simp only [accOf] at this
        rw [grp_cons] at this
        split at this
        · exact (List.suffix_cons _ _).trans this
        · exact this)
/-! #### what no packet is -/
def zz : S35 := ⟨1, 1, ⟨#[122, 122]⟩⟩
theorem txt_ne (x : S32) : ¬ (txt x).toList = (⟨#[122, 122]⟩ : ByteArray).toList := by
  intro h
  have := congrArg List.length h
  simp [txt, strOfNums, ByteArray.toList_eq] at this
theorem grp_mem {xs : List S32} {k : Int × Int} {s : ByteArray} : ∀ {i : Nat}, s ∈ grp (accOf i xs) k → ∃ x, s = txt x := by
  induction xs with
  | nil => intro i h; simp [accOf, grp] at h
  | cons x xs ih =>
    intro i h
    simp only [accOf] at h
    rw [grp_cons] at h
    split at h
    · rcases List.mem_cons.1 h with h | h
      · exact ⟨x, h⟩
      · exact ih h
    · exact ih h
theorem pnext_zz {l : List ByteArray} (h : ∀ s ∈ l, ∃ x, s = txt x) : pnext l zz.f2 = none := by
  cases l with
  | nil => rfl
  | cons a r =>
    obtain ⟨x, rfl⟩ := h a (List.mem_cons_self)
    simp only [pnext]
    exact if_neg (txt_ne x)
theorem wnext_zz : ∀ {l : List ByteArray}, (∀ s ∈ l, ∃ x, s = txt x) → wnext l zz.f2 = none
  | [], _ => rfl
  | a :: r, h => by
    obtain ⟨x, rfl⟩ := h a (List.mem_cons_self)
    simp only [wnext]
    have hne : ¬ (txt x).toList = zz.f2.toList := txt_ne x
    rw [if_neg hne]
    exact wnext_zz (fun s hs => h s (List.mem_cons_of_mem _ hs))
/-! #### the loop -/
theorem tail_true (x0 : List S32) (x1 : Int) (i : Int) (acc : List S38) (som beg : List S35) (ha : acc.length ≤ 60) (hb : beg.length ≤ 60) (h1 : firstF wnext som (grp acc) 0 = -1) (h2 : firstF pnext beg (grp acc) 0 = -1) (h3 : firstF wnext beg (grp acc) 0 = -1)
    (h4 : firstF pnext (beg ++ [zz]) (grp acc) 0 = beg.length) (h5 : firstF wnext (beg ++ [zz]) (grp acc) 0 = beg.length) : Ev (fun k => aeriallaw30_SpecWithin.j1 k x0 x1 acc som beg i false) true := by
  have ew : ∀ l : List S35, spec_Within.f l acc = some (firstF wnext l (grp acc) 0) := fun l => by unfold spec_Within.f; rw [if_pos (by omega)]
  have ep : ∀ l : List S35, spec_Prefix.f l acc = some (firstF pnext l (grp acc) 0) := fun l => by unfold spec_Prefix.f; rw [if_pos (by omega)]
  have e3 : Ev (fun k => aeriallaw30_SpecWithin.j3 k acc beg false) true := by
    refine Ev.step (f := fun _ => some true) (fun k => ?_) (Ev.now _)
    simp only [aeriallaw30_SpecWithin.j3]
    rw [if_neg (by simp), Option.bind_some, if_pos (by simp; omega), Option.bind_some, if_pos (by simp; omega), Option.bind_some, List.nil_append]
    have hz : (⟨1, 1, (⟨#[122, 122]⟩ : ByteArray)⟩ : S35) = zz := rfl
    rw [hz, ep, Option.bind_some, h4, if_pos rfl, ew, Option.bind_some, h5]
    simp
  have e2 : Ev (fun k => aeriallaw30_SpecWithin.j2 k acc som beg false) true := by
    by_cases hp : firstF pnext som (grp acc) 0 = -1
    · refine Ev.step (fun k => ?_) e3
      simp only [aeriallaw30_SpecWithin.j2]
      rw [if_neg (by simp), ep, Option.bind_some, if_pos hp, ew, Option.bind_some, h1]
      simp
    · refine Ev.step (fun k => ?_) e3
      simp only [aeriallaw30_SpecWithin.j2]
      rw [if_neg (by simp), ep, Option.bind_some, if_neg hp]
  refine Ev.step (fun k => ?_) e2
  simp only [aeriallaw30_SpecWithin.j1]
  rw [if_neg (by simp), ew, Option.bind_some, if_pos h1, ep, Option.bind_some, if_pos h2, ew, Option.bind_some, h3]
  simp
theorem loop_true (x0 : List S32) (x1 : Int) : ∀ (d i : Nat) (acc : List S38) (som beg : List S35), i + d = min x0.length 60 → acc.length = i → som.length ≤ i → beg.length ≤ i →
    Ev (fun k => aeriallaw30_SpecWithin.j1 k x0 x1 (acc ++ accOf i ((x0.take 60).drop i)) (som ++ someOf ((x0.take 60).drop i)) (beg ++ begOf (wrap64 x1) i ((x0.take 60).drop i)) ((min x0.length 60 : Nat) : Int) false) true →
    Ev (fun k => aeriallaw30_SpecWithin.l0 k x0 x1 acc som beg (i : Int)) true := by
  intro d
  induction d with
  | zero =>
    intro i acc som beg hi _ _ _ h
    have hd : (x0.take 60).drop i = [] := List.drop_of_length_le (by rw [List.length_take]; omega)
    rw [hd] at h
    simp only [accOf, someOf, begOf, List.append_nil] at h
    have hi' : min x0.length 60 = i := by omega
    rw [hi'] at h
    refine Ev.step (fun k => ?_) h
    simp only [aeriallaw30_SpecWithin.l0]
    by_cases hl : (i : Int) < (x0.length : Int)
    · rw [if_pos hl]
      have : decide ((i : Int) < 60) = false := by simp; omega
      rw [this]
    · rw [if_neg hl]
  | succ d ih =>
    intro i acc som beg hi ha hs hb h
    have hlt : i < x0.length := by omega
    have ed : (x0.take 60).drop i = x0[i] :: (x0.take 60).drop (i + 1) := by
      rw [List.drop_eq_getElem_cons (by rw [List.length_take]; omega)]
      simp
    have er : rd_T32 x0 (i : Int) = x0[i] := by simp [rd_T32, List.getElem?_eq_getElem hlt]
    have e2 : wrap64 ((i : Int) + 1) = ((i + 1 : Nat) : Int) := by rw [w64 (by omega) (by omega)]; push_cast; rfl
    rw [ed] at h
    simp only [accOf, someOf, begOf] at h
    have hj : Ev (fun k => aeriallaw30_SpecWithin.j1 k x0 x1 acc som beg (i : Int) true) true := by
      have hn := ih (i + 1) (acc ++ [pT i x0[i]]) (if x0[i].f3 = true then som ++ [gT x0[i]] else som) (if (i : Int) < wrap64 x1 then beg ++ [gT x0[i]] else beg) (by omega) (by simp [ha]) (by split <;> (try simp only [List.length_append, List.length_singleton]) <;> omega) (by split <;> (try simp only [List.length_append, List.length_singleton]) <;> omega) (by
        rw [List.append_assoc, List.singleton_append]
        have q1 : (if x0[i].f3 = true then som ++ [gT x0[i]] else som) ++ someOf ((x0.take 60).drop (i + 1)) = som ++ (if x0[i].f3 = true then gT x0[i] :: someOf ((x0.take 60).drop (i + 1)) else someOf ((x0.take 60).drop (i + 1))) := by
          split <;> simp
        have q2 : (if (i : Int) < wrap64 x1 then beg ++ [gT x0[i]] else beg) ++ begOf (wrap64 x1) (i + 1) ((x0.take 60).drop (i + 1)) = beg ++ (if (i : Int) < wrap64 x1 then gT x0[i] :: begOf (wrap64 x1) (i + 1) ((x0.take 60).drop (i + 1)) else begOf (wrap64 x1) (i + 1) ((x0.take 60).drop (i + 1))) := by
          split <;> simp
        rw [q1, q2]
        exact h)
      refine Ev.step (fun k => ?_) hn
      simp only [aeriallaw30_SpecWithin.j1]
      rw [if_pos trivial, if_pos (by omega), if_pos (by omega), Option.bind_some, if_pos (by omega), Option.bind_some, er, e2]
      have hp : (⟨IntKind.u64.wrap ((IntKind.u64.wrap (i : Int)) + 1), wrap64 (Int.tmod x0[i].f0 3), wrap64 (Int.tmod x0[i].f1 3), strOfNums [(97 + (Int.tmod x0[i].f2 4)) % 256], 0⟩ : S38) = pT i x0[i] := rfl
      have hg : (⟨wrap64 (Int.tmod x0[i].f0 3), wrap64 (Int.tmod x0[i].f1 3), strOfNums [(97 + (Int.tmod x0[i].f2 4)) % 256]⟩ : S35) = gT x0[i] := rfl
      rw [hp, hg]
      by_cases h3 : x0[i].f3 = true
      · rw [if_pos h3, if_pos h3, if_pos (by omega), Option.bind_some]
        by_cases h4 : (i : Int) < wrap64 x1
        · rw [if_pos h4, if_pos h4, if_pos (by omega)]
        · rw [if_neg h4, if_neg h4]
      · rw [if_neg h3, if_neg h3]
        by_cases h4 : (i : Int) < wrap64 x1
        · rw [if_pos h4, if_pos h4, if_pos (by omega)]
        · rw [if_neg h4, if_neg h4]
    refine Ev.step (fun k => ?_) hj
    simp only [aeriallaw30_SpecWithin.l0]
    rw [if_pos (by omega)]
    have : decide ((i : Int) < 60) = true := by simp; omega
    rw [this]
theorem within_law (x0 : List S32) (x1 : Int) : ∃ k, aeriallaw30_SpecWithin.f k x0 x1 = some true := by
  generalize hxs : x0.take 60 = xs
  have hlen : xs.length ≤ 60 := by rw [← hxs, List.length_take]; omega
  have hacc := accOf_len xs 0
  have hbeg := begOf_le (wrap64 x1) xs 0
  obtain ⟨l1, p1, p2⟩ := pre_run (wrap64 x1) xs 0 (grp (accOf 0 xs)) (fun _ => rfl)
  obtain ⟨l2, q1, q2⟩ := in_run (fun _ x => x.f3) (fun _ l => someOf l) (fun _ => rfl) (fun _ x l => rfl) xs 0 (grp (accOf 0 xs)) (fun _ => List.suffix_refl _)
  obtain ⟨l3, r1, r2⟩ := in_run (fun i _ => decide ((i : Int) < wrap64 x1)) (fun i l => begOf (wrap64 x1) i l) (fun _ => rfl) (fun i x l => by simp [begOf]) xs 0 (grp (accOf 0 xs)) (fun _ => List.suffix_refl _)
  have z1 : pnext (l1 (gkey zz)) zz.f2 = none := pnext_zz (fun s hs => grp_mem ((p2 _).subset hs))
  have z2 : wnext (l3 (gkey zz)) zz.f2 = none := wnext_zz (fun s hs => grp_mem ((r2 _).subset hs))
  have ht := tail_true x0 x1 ((min x0.length 60 : Nat) : Int) (accOf 0 xs) (someOf xs) (begOf (wrap64 x1) 0 xs) (by omega) (by omega) (run_first q1) (run_first p1) (run_first r1) (by rw [run_last zz p1 z1]; omega) (by rw [run_last zz r1 z2]; omega)
  have hl := loop_true x0 x1 (min x0.length 60) 0 [] [] [] (by omega) rfl (by simp) (by simp) (by simpa [hxs] using ht)
  obtain ⟨k, hk⟩ := hl.rounds
  refine ⟨k, ?_⟩
  unfold aeriallaw30_SpecWithin.f aeriallaw30_works.f
  rw [Option.bind_some, if_pos rfl]
  exact hk
end Go.Proofs.Ytcmcgjjhbjlkpaa.Sp
