import Derived.Test.YtfdnobhedbglgaaGreatDoorRangeState
import Derived.OrdersHeld
import Derived.OwnWalkIn
namespace Go.Proofs.YtfdnobhedbglgaaGreatDoor
open Go Go.RowKit
def noDefer (ops : Array Oper) : Bool := ops.all fun o => match o.op with | .defer _ => false | _ => true
theorem noDefer_at {ops : Array Oper} (h : noDefer ops = true) {i : Nat} {o : Oper} (hi : ops[i]? = some o) (c : Call) : o.op ≠ .defer c := by
  intro e
  obtain ⟨hlt, rfl⟩ := Array.getElem?_eq_some_iff.1 hi
  have := Array.all_eq_true.1 h i hlt
  rw [e] at this
  cases this
/-- An operation that is no defer statement, inside a round. -/
theorem op_inRound {l n : Nat} {P : Program} {o : Oper} {a : Act} {w : World} {K : Act → World → Prop} {Q : Exit → Act → World → Prop} (hd : ∀ c, o.op ≠ .defer c) (h : o.wp P a w K Q) : o.wpIn (Fence.wide.inRound l) n P a w K Q := by
  unfold Oper.wpIn
  refine ⟨fun _ _ => trivial, ?_⟩
  rw [Oper.semAt_plain _ _ _ hd]
  unfold Oper.wp at h
  generalize (execOp a.eval o).run P w = r at *
  unfold Oper.upon at h
  split at h
  · exact h
  · exact h
  · exact h
  · exact ⟨fun h => (by cases h), CallsIn.inRound l (callsIn_wide.2 h)⟩
  · refine ⟨fun h => (by cases h), fun c cs _ => ?_⟩
    obtain ⟨v, w', r, s⟩ := h c cs
    exact ⟨v, w', r, stepsIn_wide.2 s⟩
  · exact h
  · exact h.elim
/-- A post that lets the plain end alone by. -/
def onlyN (R : Act → World → Prop) : Exit → Act → World → Prop
  | .normal, a, w => R a w
  | _, _, _ => False
theorem any_inRound {l n : Nat} {P : Program} {md : Region.Mode} {ops : Array Oper} {R : Act → World → Prop} (hd : noDefer ops = true) : ∀ (fuel : Nat) (listed : Array Bool) (a : Act) (w : World),
    wpAny P md ops (onlyN R) fuel listed a w → wpAnyIn (Fence.wide.inRound l) n P md ops (onlyN R) fuel listed a w := by
  intro fuel
  induction fuel with
  | zero => exact fun _ _ _ h => h
  | succ fuel ih =>
    intro listed a w h
    refine ⟨h.1, fun i hi => ?_⟩
    have h2 := h.2 i hi
    unfold wpOp at h2
    unfold wpOpIn
    cases ho : ops[i]? with
    | none => rw [ho] at h2; exact ih _ _ _ h2
    | some o =>
      rw [ho] at h2
      dsimp only at h2 ⊢
      split at h2
      · rename_i hw
        rw [if_pos hw]
        rcases h2 with h2 | ⟨_, a', w', h2⟩
        · exact Oper.wpIn_mono (fun a w h => ih _ a w h) (op_inRound (noDefer_at hd ho) h2)
        · exact h2.elim
      · rename_i hw
        rw [if_neg hw]
        exact ⟨fun _ _ => trivial, ih _ _ _ h2⟩
theorem region_inRound {l n id : Nat} {P : Program} {ops : Array Oper} {R : Act → World → Prop} {Q : Exit → Act → World → Prop} {a : Act} {w : World} (hm : P.follows .mixedOrders = true) (hd : noDefer ops = true) (S : World → Prop)
    (h : wpAnyH P .any ops (onlyN R) S ops.size (Array.replicate ops.size false) a w.drew) (hQ : ∀ a w, R a w → Q .normal a w) : (Code.region id ops true).wpIn (Fence.wide.inRound l) n P Q a w :=
  wpIn_mono (wpIn_region_any hm (any_inRound hd _ _ _ _ (wpAny_of_held _ _ _ _ h))) fun e a w h => by cases e <;> first | exact hQ a w h | exact h.elim
end Go.Proofs.YtfdnobhedbglgaaGreatDoor
