/- General laws for the walk, over any program: a region that draws its order, in a round of a range over a function, walked as outside it. -/
import Derived.Test.YtcgkglonnmkfcaaKit2
import Derived.Test.YtcgkglonnmkfcaaKit3
import Derived.OrdersHeld
namespace Go.Lap
open Go.RowKit
section
variable {P : Program} {ops : Array Oper} {md : Region.Mode} {n l : Nat}

theorem wpIn_of_wp_round {o : Oper} {a : Act} {K K' : Act → World → Prop} {Q : Exit → Act → World → Prop} {w : World} (hd : ∀ c, o.op ≠ .defer c) (hK : ∀ a w, K a w → K' a w) (h : o.wp P a w K Q) : o.wpIn (Fence.wide.inRound l) n P a w K' Q := by
  refine ⟨fun _ _ => trivial, ?_⟩
  rw [Oper.semAt_eq _ _ _ hd]
  unfold Oper.wp at h
  revert h
  generalize (execOp a.eval o).run P w = r
  intro h
  cases r with
  | ok x w' =>
    cases x <;> simp only [Oper.uponIn] <;> simp only [Oper.upon] at h
    case value v => exact hK _ _ h
    case skip => exact hK _ _ h
    case defer d => exact hK _ _ h
    case enter f args =>
      refine ⟨fun h => (by cases h), CallsIn.inRound l (((callsIn_wide (n := n - 1)).2 h).mono fun e w'' he => ?_)⟩
      cases e with
      | returned v => exact hK _ _ he
      | panicked c => exact he
      | outgrown => exact he
    case row row args => exact ⟨fun h => (by cases h), fun c cs _ => let ⟨v, w2, hr, hs⟩ := h c cs; ⟨v, w2, hK _ _ hr, stepsIn_wide.2 hs⟩⟩
  | halt x w' =>
    cases x <;> exact h

theorem wpOpIn_of_wpOp_round {i : Nat} {a : Act} {K K' : Act → World → Prop} {Q : Exit → Act → World → Prop} {w : World} (hL : ¬ LetsOut Q) (hd : noDeferB ops = true) (hK : ∀ a w, K a w → K' a w) (h : wpOp P ops Q i K a w) : wpOpIn (Fence.wide.inRound l) n P ops Q i K' a w := by
  unfold wpOp at h
  unfold wpOpIn
  split
  · rename_i ho; simp only [ho] at h; exact hK _ _ h
  · rename_i o ho
    simp only [ho] at h
    split
    · rename_i hw
      simp only [hw, if_true] at h
      rcases h with h | h
      · exact wpIn_of_wp_round (noDefer_spec hd ho) hK h
      · exact (hL h.2).elim
    · rename_i hw
      simp only [hw] at h
      exact ⟨fun _ _ => trivial, hK _ _ h⟩

theorem wpAnyIn_of_wpAny_round {Q : Exit → Act → World → Prop} (hL : ¬ LetsOut Q) (hd : noDeferB ops = true) : ∀ (fuel : Nat) (listed : Array Bool) (a : Act) (w : World), wpAny P md ops Q fuel listed a w → wpAnyIn (Fence.wide.inRound l) n P md ops Q fuel listed a w
  | 0, _, _, _, h => h
  | fuel + 1, _, _, _, h => ⟨h.1, fun i hi => wpOpIn_of_wpOp_round hL hd (fun a w => wpAnyIn_of_wpAny_round hL hd fuel _ a w) (h.2 i hi)⟩

theorem wpIn_region_round {id : Nat} {Q : Exit → Act → World → Prop} {a : Act} {w : World} (hm : P.follows .mixedOrders = true) (hd : noDeferB ops = true) (hL : ¬ LetsOut Q) (h : wpAny P .any ops Q ops.size (Array.replicate ops.size false) a w.drew) : (Code.region id ops true).wpIn (Fence.wide.inRound l) n P Q a w :=
  wpIn_region_any hm (wpAnyIn_of_wpAny_round hL hd _ _ _ _ h)
end
end Go.Lap
