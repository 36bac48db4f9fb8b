import Derived.Test.YtcmcgjjhbjlkpaaAirK
/- A region that draws its order, in a round of a range over a function: by the plain walk's steps. No program. -/
namespace Go.Proofs.Ytcmcgjjhbjlkpaa.Air
set_option linter.unusedVariables false
set_option linter.unusedSimpArgs false
def notDefer (o : Oper) : Bool := match o.op with
  | .defer _ => false
  | _ => true
section
variable {P : Program} {ops : Array Oper} {Q : Exit → Act → World → Prop} {md : Region.Mode}
theorem wpIn_of_wp {n l : Nat} {o : Oper} (hd : notDefer o = true) {a : Act} {w : World} {K : Act → World → Prop} (h : o.wp P a w K Q) : o.wpIn (Fence.wide.inRound l) n P a w K Q := by
  have hd' : ∀ c, o.op ≠ .defer c := by
    intro c e
    simp [notDefer, e] at hd
  unfold Oper.wp at h
  unfold Oper.wpIn
  refine ⟨fun _ _ => trivial, ?_⟩
  rw [Oper.semAt_eq _ _ _ hd']
  generalize (execOp a.eval o).run P w = r at *
  cases r with
  | ok x w' =>
    cases x <;> simp only [Oper.upon, Oper.uponIn] at h ⊢ <;>
      first
        | exact h
        | exact ⟨fun hh => by simp [Fence.wide, Fence.inRound] at hh, (CallsIn.inRound l (callsIn_wide.2 h))⟩
        | exact ⟨fun hh => by simp [Fence.wide, Fence.inRound] at hh, fun c cs _ => let ⟨v, w2, r, s⟩ := h c cs; ⟨v, w2, r, stepsIn_wide.2 s⟩⟩
        | exact h.elim
  | halt x w' => cases x <;> simp only [Oper.upon, Oper.uponIn] at h ⊢ <;> exact h
theorem anyIn_of_any {n l : Nat} (hno : ¬ LetsOut Q) (hd : ∀ (i : Nat) (o : Oper), ops[i]? = some o → notDefer o = true) : ∀ (fuel : Nat) (listed : Array Bool) (a : Act) (w : World), wpAny P md ops Q fuel listed a w → wpAnyIn (Fence.wide.inRound l) n P md ops Q fuel listed a w := by
  intro fuel
  induction fuel with
  | zero => exact fun _ _ _ h => h
  | succ fuel ih =>
    intro listed a w h
    refine ⟨h.1, fun i hi => ?_⟩
    have hp := h.2 i hi
    unfold wpOp at hp
    unfold wpOpIn
    cases ho : ops[i]? with
    | none =>
      simp only [ho] at hp
      exact ih _ _ _ hp
    | some o =>
      simp only [ho] at hp
      by_cases hw : Region.wanted o (yielded ops a.tmps) = true
      · simp only [hw, if_true] at hp ⊢
        rcases hp with hp | hp
        · exact Oper.wpIn_mono (fun a w h => ih _ a w h) (wpIn_of_wp (hd i o ho) hp)
        · exact absurd hp.2 hno
      · simp only [hw, if_false, Bool.false_eq_true] at hp ⊢
        exact ⟨fun _ _ => trivial, ih _ _ _ hp⟩
theorem regionIn {n l id : Nat} {a : Act} {w : World} (hm : P.follows .mixedOrders = true) (hno : ¬ LetsOut Q) (hd : ops.all notDefer = true)
    (h : wpAny P .any ops Q ops.size (Array.replicate ops.size false) a w.drew) : (Code.region id ops true).wpIn (Fence.wide.inRound l) n P Q a w := by
  refine wpIn_region_any hm (anyIn_of_any hno (fun i o ho => ?_) _ _ _ _ h)
  rw [Array.all_eq_true] at hd
  obtain ⟨hi, rfl⟩ := Array.getElem?_eq_some_iff.1 ho
  exact hd i hi
end
end Go.Proofs.Ytcmcgjjhbjlkpaa.Air
