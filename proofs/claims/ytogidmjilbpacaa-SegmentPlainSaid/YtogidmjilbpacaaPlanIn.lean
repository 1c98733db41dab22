/- A region that draws its order, inside a round of a range over a function: the plan's walk serves there too. -/
import Derived.Test.YtogidmjilbpacaaPlan
import Derived.OrdersIn
import Derived.RangeFuncCalls
import Derived.TacticsIn
namespace Go.Cub

section
variable {P : Program} {ops : Array Oper} {md : Region.Mode} {es : List Nat} {F : World → Prop} {Q : Exit → Act → World → Prop} {l n : Nat}

def noDefer (ops : Array Oper) : Bool := ops.all fun o => match o.op with | .defer _ => false | _ => true

theorem noDefer_spec (h : noDefer ops = true) {i : Nat} {o : Oper} (ho : ops[i]? = some o) : ∀ c, o.op ≠ .defer c := by
  intro c hc
  unfold noDefer at h
  rw [Array.all_eq_true] at h
  obtain ⟨hi, he⟩ := Array.getElem?_eq_some_iff.1 ho
  have := h i hi
  rw [he, hc] at this
  cases this

theorem in_of_wp {o : Oper} {K : Act → World → Prop} {a : Act} {w : World} (hd : ∀ c, o.op ≠ .defer c) (h : o.wp P a w K noQ) : o.wpIn (Fence.wide.inRound l) n P a w K Q := by
  refine ⟨fun _ _ => trivial, ?_⟩
  rw [show (Fence.wide.inRound l).round = some l from rfl, Oper.semAt_some l _ _ hd]
  unfold Oper.wp at h
  generalize (execOp a.eval o).run P w = r at *
  cases r with
  | ok nx w' =>
    cases nx with
    | value v => exact h
    | skip => exact h
    | defer d => exact h
    | enter f args =>
      refine ⟨(fun h0 => by cases h0), CallsIn.inRound l ((callsIn_wide (n := n - 1)).2 (Calls.mono h fun e w'' he => ?_))⟩
      cases e with
      | returned u => exact he
      | panicked c => exact False.elim he
      | outgrown => exact (not_letsOut he).elim
    | row r args =>
      refine ⟨(fun h0 => by cases h0), fun c cs _ => ?_⟩
      obtain ⟨v, w2, r1, s1⟩ := h c cs
      exact ⟨v, w2, r1, stepsIn_wide.2 s1⟩
    | _ => exact False.elim h
  | halt x w' => cases x <;> exact False.elim h

theorem in_of_wpOp (hd : noDefer ops = true) {i : Nat} {K : Act → World → Prop} {a : Act} {w : World} (h : wpOp P ops noQ i K a w) : wpOpIn (Fence.wide.inRound l) n P ops Q i K a w := by
  unfold wpOp at h
  unfold wpOpIn
  split
  · rename_i ho; simpa only [ho] using h
  · rename_i o ho
    simp only [ho] at h
    split
    · rename_i hw
      simp only [hw, if_true] at h
      rcases h with h | ⟨_, h⟩
      · exact in_of_wp (noDefer_spec hd ho) h
      · exact (not_letsOut h).elim
    · rename_i hw
      rw [if_neg hw] at h
      exact ⟨fun _ _ => trivial, h⟩

theorem wpAnyIn_of_X (hd : noDefer ops = true) : ∀ (fuel : Nat) (listed : Array Bool) (a : Act) (w : World), wpAnyX P md ops es F Q fuel listed a w → wpAnyIn (Fence.wide.inRound l) n P md ops Q fuel listed a w
  | 0, _, _, _, h => h
  | fuel + 1, listed, a, w, h => ⟨h.1, fun i hi => by
      have h2 := h.2 i hi
      unfold stX at h2
      split at h2
      · exact wpOpIn_mono (fun a' w' h3 => wpAnyIn_of_X hd fuel _ a' w' h3.2) (in_of_wpOp hd h2)
      · exact in_of_wpOp hd (wpOp_of_stOp (fun a' h3 => wpAnyIn_of_X hd fuel _ a' w h3) h2)⟩

theorem wpIn_region_plan {id : Nat} {a : Act} {w : World} (m : Nat) (F : World → Prop) (es : List Nat) (plan : Code) (hn : ops.size = m) (hm : P.follows .mixedOrders = true)
    (hok : (Region.noSelect ops && planOk .any ops es m plan (Array.replicate ops.size false)) = true) (hd : noDefer ops = true)
    (hF : F w.drew) (h : wpPlan P ops F Q m plan a w.drew) : (Code.region id ops true).wpIn (Fence.wide.inRound l) n P Q a w := by
  subst hn
  simp only [Bool.and_eq_true] at hok
  exact wpIn_region_any hm (wpAnyIn_of_X hd _ _ _ _ (wpAnyX_of_plan (es := es) hok.1 _ _ _ _ _ hok.2 hF h))
end
end Go.Cub
