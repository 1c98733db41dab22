/- A region that draws its order: one walk along a plan (operations that only read are taken as soon as they are ready; the others in every order that the edges let) suffices for every order that the tape may draw. -/
import Derived.Still
import Derived.Tactics
import Derived.KernelRfl
namespace Go.Cub

section
variable {P : Program} {ops : Array Oper} {md : Region.Mode} {es : List Nat} {F : World → Prop} {Q : Exit → Act → World → Prop}

def noQ : Exit → Act → World → Prop := fun _ _ _ => False

theorem not_letsOut : ¬ LetsOut noQ := fun ⟨_, _, h⟩ => h

theorem wpOp_strict {j : Nat} {K : Act → World → Prop} {a : Act} {w : World} (h : wpOp P ops noQ j K a w) : wpOp P ops Q j K a w := by
  unfold wpOp at *
  split
  · rename_i ho; simpa only [ho] using h
  · rename_i o ho
    simp only [ho] at h
    split
    · rename_i hw
      simp only [hw, if_true] at h
      rcases h with h | ⟨_, h⟩
      · refine .inl ?_
        unfold Oper.wp at *
        generalize (execOp a.eval o).run P w = r at *
        cases r with
        | ok n w' =>
          cases n <;> simp only [Oper.upon] at h ⊢ <;> first
            | exact h
            | (refine Calls.mono h fun e w'' he => ?_
               cases e with
               | returned u => exact he
               | panicked c => exact False.elim he
               | outgrown => exact (not_letsOut he).elim)
        | halt x w' => cases x <;> simp only [Oper.upon] at h ⊢ <;> exact False.elim h
      · exact (not_letsOut h).elim
    · rename_i hw; rw [if_neg hw] at h; exact h

def stX (P : Program) (ops : Array Oper) (es : List Nat) (F : World → Prop) (j : Nat) (K : Act → World → Prop) (a : Act) (w : World) : Prop :=
  if es.contains j then wpOp P ops noQ j (fun a' w' => F w' ∧ K a' w') a w else stOp P ops w j (fun a' => K a' w) a

def wpAnyX (P : Program) (md : Region.Mode) (ops : Array Oper) (es : List Nat) (F : World → Prop) (Q : Exit → Act → World → Prop) : Nat → Array Bool → Act → World → Prop
  | 0, listed, a, w => Region.ready md ops listed = [] ∧ Q .normal a w
  | fuel + 1, listed, a, w =>
    (Region.ready md ops listed = [] → Q .normal a w) ∧
    ∀ i ∈ Region.ready md ops listed, stX P ops es F i (wpAnyX P md ops es F Q fuel (listed.setIfInBounds i true)) a w

theorem wpAny_of_X : ∀ (fuel : Nat) (listed : Array Bool) (a : Act) (w : World), wpAnyX P md ops es F Q fuel listed a w → wpAny P md ops Q fuel listed a w
  | 0, _, _, _, h => h
  | fuel + 1, listed, a, w, h => ⟨h.1, fun i hi => by
      have h2 := h.2 i hi
      unfold stX at h2
      split at h2
      · exact wpOp_mono (fun a' w' h3 => wpAny_of_X fuel _ a' w' h3.2) (wpOp_strict h2)
      · exact wpOp_of_stOp (fun a' h3 => wpAny_of_X fuel _ a' w h3) h2⟩

def YieldsIn (P : Program) (ops : Array Oper) (F' : World → Prop) (o : Oper) (a : Act) (a1 : Act → Act) : Prop :=
  ∀ W, F' W → ∃ v, YieldsAt P ops W o v a ∧ a.put o.dst v = a1 a

/-- what is put into a slot -/
def putOf (dst : Option Tmp) (v : Value) : Act → Act := fun a => a.put dst v

theorem put_same {a : Act} {x y : Option Tmp} {v v' u : Value} (h : a.put x v' = a.put x v) (hn : ∀ d, y = some d → x ≠ some d) : (a.put y u).put x v' = (a.put y u).put x v := by
  rw [Act.put_comm a u v' hn, Act.put_comm a u v hn, h]

theorem put_same_defers {a : Act} {x : Option Tmp} {v v' : Value} (h : a.put x v' = a.put x v) (d : List Deferred) :
    ({ a with defers := d } : Act).put x v' = ({ a with defers := d } : Act).put x v := by
  cases x with
  | none => rfl
  | some t =>
    have h1 := congrArg Act.tmps h
    simp only [Act.put] at h1 ⊢
    rw [h1]

theorem YieldsIn.keep {F' : World → Prop} {oi oj : Oper} {v : Value} {a : Act} (hy : YieldsIn P ops F' oi a (putOf oi.dst v)) (hap : oi.apart ops oj = true)
    (hsi : ∀ cs b, oi.op ≠ .select cs b) (u : Value) : YieldsIn P ops F' oi (a.put oj.dst u) (putOf oi.dst v) := by
  obtain ⟨h1, h2, h3⟩ := Oper.apart_spec hap
  intro W hW
  obtain ⟨v', hy', he⟩ := hy W hW
  refine ⟨v', hy'.of_same (execOp_put oi hsi a oj.dst u h3) (wanted_put oi a oj.dst u h3), ?_⟩
  exact put_same he fun d hd hx => h2 d hx hd

theorem YieldsIn.keepD {F' : World → Prop} {oi : Oper} {v : Value} {a : Act} (hy : YieldsIn P ops F' oi a (putOf oi.dst v)) (d : List Deferred) :
    YieldsIn P ops F' oi { a with defers := d } (putOf oi.dst v) := by
  intro W hW
  obtain ⟨v', hy', he⟩ := hy W hW
  exact ⟨v', hy'.of_same rfl rfl, put_same_defers he d⟩

theorem stOp_putX {F' : World → Prop} {w : World} {j : Nat} {oi oj : Oper} {v : Value} (hj : ops[j]? = some oj) (hap : oi.apart ops oj = true)
    (hsi : ∀ cs b, oi.op ≠ .select cs b) (hsj : ∀ cs b, oj.op ≠ .select cs b) {K : Act → Prop} {a : Act}
    (hy : YieldsIn P ops F' oi a (putOf oi.dst v)) (h : stOp P ops w j K (a.put oi.dst v)) :
    stOp P ops w j (fun a' => YieldsIn P ops F' oi a' (putOf oi.dst v) ∧ K (a'.put oi.dst v)) a := by
  obtain ⟨h1, h2, h3⟩ := Oper.apart_spec hap
  unfold stOp at *
  simp only [hj] at *
  rw [wanted_put oj a oi.dst v h1] at h
  split
  · rename_i hw
    simp only [hw, if_true] at h
    unfold Oper.still at *
    rw [execOp_put oj hsj a oi.dst v h1] at h
    generalize (execOp a.eval oj).run P w = r at *
    cases r with
    | ok n w' =>
      cases n <;> simp only [Oper.stillUpon] at h ⊢
      case value u => exact ⟨h.1, hy.keep hap hsi u, by rw [← Act.put_comm a v u h2]; exact h.2⟩
      case skip => exact ⟨h.1, hy.keep hap hsi _, by rw [← Act.put_comm a v undef h2]; exact h.2⟩
      case enter f args => obtain ⟨hw', u, hc, hn⟩ := h; exact ⟨hw', u, hc, hy.keep hap hsi u, by rw [← Act.put_comm a v u h2]; exact hn⟩
    | halt x w' => simp only [Oper.stillUpon] at h
  · rename_i hw
    simp only [hw] at h
    exact ⟨hy.keep hap hsi _, by rw [← Act.put_comm a v undef h2]; exact h⟩

theorem wpOp_putX {F' : World → Prop} {w : World} {j : Nat} {oi oj : Oper} {v : Value} (hj : ops[j]? = some oj) (hap : oi.apart ops oj = true)
    (hsi : ∀ cs b, oi.op ≠ .select cs b) (hsj : ∀ cs b, oj.op ≠ .select cs b) {K : Act → World → Prop} {a : Act}
    (hy : YieldsIn P ops F' oi a (putOf oi.dst v)) (h : wpOp P ops noQ j K (a.put oi.dst v) w) :
    wpOp P ops noQ j (fun a' w' => YieldsIn P ops F' oi a' (putOf oi.dst v) ∧ K (a'.put oi.dst v) w') a w := by
  obtain ⟨h1, h2, h3⟩ := Oper.apart_spec hap
  unfold wpOp at *
  simp only [hj] at *
  rw [wanted_put oj a oi.dst v h1] at h
  split
  · rename_i hw
    simp only [hw, if_true] at h
    rcases h with h | ⟨_, hlets⟩
    case inr => exact (not_letsOut hlets).elim
    refine .inl ?_
    unfold Oper.wp at *
    rw [execOp_put oj hsj a oi.dst v h1] at h
    generalize (execOp a.eval oj).run P w = r at *
    cases r with
    | ok n w' =>
      cases n <;> simp only [Oper.upon] at h ⊢
      case value u => exact ⟨hy.keep hap hsi u, by rw [← Act.put_comm a v u h2]; exact h⟩
      case skip => exact ⟨hy.keep hap hsi _, by rw [← Act.put_comm a v undef h2]; exact h⟩
      case defer d =>
        refine ⟨YieldsIn.keep (hy.keepD _) hap hsi _, ?_⟩
        rw [← Act.put_comm _ v undef h2, ← Act.put_defers]
        exact h
      case enter f args =>
        refine Calls.mono h fun e w'' he => ?_
        cases e with
        | returned u => exact ⟨hy.keep hap hsi u, by rw [← Act.put_comm a v u h2]; exact he⟩
        | panicked c => exact he
        | outgrown => exact he
      case row row args => exact Rows.mono h fun u w'' he => ⟨hy.keep hap hsi u, by rw [← Act.put_comm a v u h2]; exact he⟩
    | halt x w' =>
      cases x <;> simp only [Oper.upon] at h ⊢
      case panic u => exact h
  · rename_i hw
    simp only [hw] at h
    exact ⟨hy.keep hap hsi _, by rw [← Act.put_comm a v undef h2]; exact h⟩

theorem stX_of_yields {F' : World → Prop} {i : Nat} {oi : Oper} {v : Value} (hi : ops[i]? = some oi) (hE : es.contains i = false) {K : Act → World → Prop} {a : Act} {w : World}
    (hF : F' w) (hy : YieldsIn P ops F' oi a (putOf oi.dst v)) (h : K (a.put oi.dst v) w) : stX P ops es F i K a w := by
  obtain ⟨v', hy', he⟩ := hy w hF
  unfold stX
  simp only [hE, Bool.false_eq_true, if_false]
  exact hy'.stOp hi (by rw [he]; exact h)

def Waits (md : Region.Mode) (ops : Array Oper) (es : List Nat) (i : Nat) (listed : Array Bool) : Prop :=
  ∀ j oj, ops[j]? = some oj → es.contains j = true → listed.getD j true = false → ∃ e ∈ oj.after, Region.binds md e = true ∧ e.on = i

theorem wpAnyX_first {F' : World → Prop} {i : Nat} {oi : Oper} {v : Value} (hi : ops[i]? = some oi) (hsel : ∀ (j : Nat) (o : Oper) cs b, ops[j]? = some o → o.op ≠ .select cs b)
    (hEi : es.contains i = false) :
    ∀ (fuel : Nat) (listed : Array Bool) (a : Act) (w : World),
      (∀ j oj, ops[j]? = some oj → j ≠ i → listed.getD j true = false → (∀ e ∈ oj.after, Region.binds md e = true → e.on ≠ i) → oi.apart ops oj = true) →
      ((∀ W, F W → F' W) ∨ Waits md ops es i listed) →
      i ∈ Region.ready md ops listed → F' w → YieldsIn P ops F' oi a (putOf oi.dst v) →
      wpAnyX P md ops es F Q fuel (listed.setIfInBounds i true) (a.put oi.dst v) w → wpAnyX P md ops es F Q (fuel + 1) listed a w := by
  intro fuel
  induction fuel with
  | zero =>
    intro listed a w _ _ hr hF hy H
    refine ⟨fun h => (by rw [h] at hr; cases hr), fun j hj => ?_⟩
    by_cases hji : j = i
    · subst hji; exact stX_of_yields hi hEi hF hy H
    · have := ready_mono hj hji
      rw [H.1] at this
      cases this
  | succ fuel ih =>
    intro listed a w hfree hW hr hF hy H
    refine ⟨fun h => (by rw [h] at hr; cases hr), fun j hj => ?_⟩
    by_cases hji : j = i
    · subst hji; exact stX_of_yields hi hEi hF hy H
    · have h1 := H.2 j (ready_mono hj hji)
      obtain ⟨hjun, oj, hoj, hall⟩ := mem_ready.1 hj
      have hnot : ∀ e ∈ oj.after, Region.binds md e = true → e.on ≠ i := fun e he hb heq => by
        have h1 := hall e he hb
        have h0 := (mem_ready.1 hr).1
        rw [heq] at h1
        rcases Nat.lt_or_ge i listed.size with h' | h'
        · simp [h'] at h0 h1; rw [h0] at h1; cases h1
        · simp [Array.getElem?_eq_none h'] at h1
      have hfree' : ∀ k ok, ops[k]? = some ok → k ≠ i → (listed.setIfInBounds j true).getD k true = false →
          (∀ e ∈ ok.after, Region.binds md e = true → e.on ≠ i) → oi.apart ops ok = true := fun k ok hk hki hun hno => by
        refine hfree k ok hk hki ?_ hno
        by_cases hjk : j = k
        · subst hjk; exact hjun
        · rw [getD_set_ne true hjk] at hun; exact hun
      have hW' : (∀ W, F W → F' W) ∨ Waits md ops es i (listed.setIfInBounds j true) := hW.imp id fun h k ok hk hek hun => by
        refine h k ok hk hek ?_
        by_cases hjk : j = k
        · subst hjk; exact hjun
        · rw [getD_set_ne true hjk] at hun; exact hun
      unfold stX at h1 ⊢
      cases hEj : es.contains j with
      | true =>
        simp only [hEj, if_true] at h1 ⊢
        have hFF : ∀ W, F W → F' W := hW.resolve_right fun h => by
          obtain ⟨e, he, hb, ho⟩ := h j oj hoj hEj hjun
          exact hnot e he hb ho
        have h2 := wpOp_putX hoj (hfree j oj hoj hji hjun hnot) (fun cs b => hsel i oi cs b hi) (fun cs b => hsel j oj cs b hoj) hy h1
        refine wpOp_mono (fun a' w' h3 => ⟨h3.2.1, ih (listed.setIfInBounds j true) a' w' hfree' hW' (ready_mono hr (Ne.symm hji)) (hFF _ h3.2.1) h3.1 ?_⟩) h2
        rw [Array.setIfInBounds_comm _ _ hji]
        exact h3.2.2
      | false =>
        simp only [hEj, Bool.false_eq_true, if_false] at h1 ⊢
        have h2 := stOp_putX hoj (hfree j oj hoj hji hjun hnot) (fun cs b => hsel i oi cs b hi) (fun cs b => hsel j oj cs b hoj) hy h1
        refine stOp_mono (fun a' h3 => ih (listed.setIfInBounds j true) a' w hfree' hW' (ready_mono hr (Ne.symm hji)) hF h3.1 ?_) h2
        rw [Array.setIfInBounds_comm _ _ hji]
        exact h3.2

/-! The plan: 'skip': done; 'block (2 i + t) next': operation i is taken now (t = 1: it may lean on the world as it is; t = 0: it must hold in every world in which F holds); 'loop c': every operation that is ready is one of c's; c: 'seq (block i p) more'. -/
def alts : Code → List (Nat × Code)
  | .seq (.block i p) more => (i, p) :: alts more
  | _ => []

def tightB (md : Region.Mode) (ops : Array Oper) (es : List Nat) (i : Nat) (listed : Array Bool) : Bool :=
  (List.range ops.size).all fun j => !es.contains j || listed.getD j true || match ops[j]? with
    | some oj => oj.after.any fun e => Region.binds md e && e.on == i
    | none => true

theorem tightB_spec {i : Nat} {listed : Array Bool} (h : tightB md ops es i listed = true) : Waits md ops es i listed := by
  intro j oj hj hE hun
  simp only [tightB, List.all_eq_true, List.mem_range] at h
  have h1 := h j (Array.getElem?_eq_some_iff.1 hj).1
  simp only [hj, hE, hun, Bool.not_true, Bool.false_or] at h1
  obtain ⟨e, he, hb⟩ := Array.any_eq_true'.1 h1
  simp only [Bool.and_eq_true, beq_iff_eq] at hb
  exact ⟨e, he, hb.1, hb.2⟩

def planOk (md : Region.Mode) (ops : Array Oper) (es : List Nat) : Nat → Code → Array Bool → Bool
  | _, .skip, listed => (Region.ready md ops listed).isEmpty
  | f + 1, .block n next, listed =>
    !es.contains (n / 2) && (Region.ready md ops listed).contains (n / 2) && Region.free md ops listed (n / 2) && (n % 2 == 0 || tightB md ops es (n / 2) listed) &&
      planOk md ops es f next (listed.setIfInBounds (n / 2) true)
  | f + 1, .loop c, listed =>
    !(Region.ready md ops listed).isEmpty && (Region.ready md ops listed).all (fun i => (alts c).any fun x => x.1 == i) &&
      (alts c).all fun x => es.contains x.1 && planOk md ops es f x.2 (listed.setIfInBounds x.1 true)
  | _, _, _ => false

def wpPlan (P : Program) (ops : Array Oper) (F : World → Prop) (Q : Exit → Act → World → Prop) : Nat → Code → Act → World → Prop
  | _, .skip, a, w => Q .normal a w
  | f + 1, .block n next, a, w => ∃ a', (∀ W, (if n % 2 = 0 then F W else W = w) → stOp P ops W (n / 2) (fun x => x = a') a) ∧ wpPlan P ops F Q f next a' w
  | f + 1, .loop c, a, w => ∀ x ∈ alts c, wpOp P ops noQ x.1 (fun a' w' => F w' ∧ wpPlan P ops F Q f x.2 a' w') a w
  | _, _, _, _ => False

theorem wpAnyX_done {listed : Array Bool} {a : Act} {w : World} (hr : Region.ready md ops listed = []) (h : Q .normal a w) : ∀ fuel, wpAnyX P md ops es F Q fuel listed a w
  | 0 => ⟨hr, h⟩
  | _ + 1 => ⟨fun _ => h, by rw [hr]; simp⟩

theorem wpAnyX_of_plan (hs : Region.noSelect ops = true) : ∀ (f : Nat) (plan : Code) (listed : Array Bool) (a : Act) (w : World),
    planOk md ops es f plan listed = true → F w → wpPlan P ops F Q f plan a w → wpAnyX P md ops es F Q f listed a w := by
  intro f
  induction f with
  | zero =>
    intro plan listed a w hok _ h
    cases plan <;> simp only [planOk, Bool.false_eq_true] at hok
    simp only [wpPlan] at h
    exact ⟨by simpa using hok, h⟩
  | succ f ih =>
    intro plan listed a w hok hF h
    cases plan <;> simp only [planOk, Bool.false_eq_true] at hok
    case skip =>
      simp only [wpPlan] at h
      exact wpAnyX_done (by simpa using hok) h _
    case block n next =>
      simp only [Bool.and_eq_true, Bool.or_eq_true, Bool.not_eq_true', beq_iff_eq] at hok
      obtain ⟨⟨⟨⟨hE, hr⟩, hf⟩, ht⟩, hok'⟩ := hok
      obtain ⟨a', hy, h'⟩ := h
      have hr' : n / 2 ∈ Region.ready md ops listed := by simpa using hr
      obtain ⟨_, oi, hoi, _⟩ := mem_ready.1 hr'
      have hv : ∃ v, a' = a.put oi.dst v := by
        have h0 := hy w (by split <;> first | exact hF | rfl)
        obtain ⟨v, _, he⟩ := yieldsAt_of_stOp hoi h0
        exact ⟨v, he.symm⟩
      obtain ⟨v, rfl⟩ := hv
      have hyi : YieldsIn P ops (fun W => if n % 2 = 0 then F W else W = w) oi a (putOf oi.dst v) := fun W hW => by
        obtain ⟨u, hu, he⟩ := yieldsAt_of_stOp hoi (hy W hW)
        exact ⟨u, hu, he⟩
      refine wpAnyX_first (F' := fun W => if n % 2 = 0 then F W else W = w) hoi (Region.noSelect_spec hs) hE f listed a w (Region.free_spec hoi hf) ?_ hr' ?_ hyi (ih _ _ _ _ hok' hF h')
      · rcases ht with ht | ht
        · exact .inl fun W hW => by simpa [ht] using hW
        · exact .inr (tightB_spec ht)
      · split <;> first | exact hF | rfl
    case loop c =>
      simp only [Bool.and_eq_true, Bool.not_eq_true', List.all_eq_true] at hok
      obtain ⟨⟨hne, hall⟩, hch⟩ := hok
      refine ⟨fun h0 => (by rw [h0] at hne; cases hne), fun i hi => ?_⟩
      obtain ⟨x, hx, hxi⟩ := List.any_eq_true.1 (hall i hi)
      have hxi' : x.1 = i := by simpa using hxi
      subst hxi'
      have hx2 := hch x hx
      have hw := h x hx
      unfold stX
      simp only [hx2.1, if_true]
      exact wpOp_mono (fun a' w' h3 => ⟨h3.1, ih _ _ _ _ hx2.2 h3.1 h3.2⟩) hw

theorem wp_region_plan {id : Nat} {a : Act} {w : World} (n : Nat) (F : World → Prop) (es : List Nat) (plan : Code) (hn : ops.size = n) (hm : P.follows .mixedOrders = true)
    (hok : (Region.noSelect ops && planOk .any ops es n plan (Array.replicate ops.size false)) = true)
    (hF : F w.drew) (h : wpPlan P ops F Q n plan a w.drew) : (Code.region id ops true).wp P Q a w := by
  subst hn
  simp only [Bool.and_eq_true] at hok
  exact wp_region_any hm (wpAny_of_X _ _ _ _ (wpAnyX_of_plan (es := es) hok.1 _ _ _ _ _ hok.2 hF h))

/-! the steps -/
theorem stOp_at {i : Nat} {K : Act → Prop} {a : Act} {w : World} {o : Oper} (ho : ops[i]? = some o) :
    stOp P ops w i K a = if Region.wanted o (yielded ops a.tmps) then o.still P a w K else K (a.put o.dst undef) := by
  unfold stOp
  simp only [ho]

theorem plan_free {f n : Nat} {next : Code} {a : Act} {w : World} {o : Oper} (hn : n % 2 = 0) (ho : ops[n / 2]? = some o)
    (h : ∀ K : Act → Prop, (∀ a', (∀ W, F W → if Region.wanted o (yielded ops a.tmps) then o.still P a W (fun x => x = a') else a.put o.dst undef = a') → wpPlan P ops F Q f next a' w → K a') →
      if Region.wanted o (yielded ops a.tmps) then o.still P a w K else K (a.put o.dst undef)) :
    wpPlan P ops F Q (f + 1) (.block n next) a w := by
  have h0 := h (fun a' => (∀ W, F W → if Region.wanted o (yielded ops a.tmps) then o.still P a W (fun x => x = a') else a.put o.dst undef = a') ∧ wpPlan P ops F Q f next a' w) (fun a' h1 h2 => ⟨h1, h2⟩)
  rw [← stOp_at ho] at h0
  obtain ⟨v, _, h1, h2⟩ := yieldsAt_of_stOp ho h0
  refine ⟨a.put o.dst v, fun W hW => ?_, h2⟩
  rw [if_pos hn] at hW
  rw [stOp_at ho]
  exact h1 W hW

theorem plan_tight {f n : Nat} {next : Code} {a : Act} {w : World} {o : Oper} (hn : n % 2 = 1) (ho : ops[n / 2]? = some o)
    (h : ∀ K : Act → Prop, (∀ a', wpPlan P ops F Q f next a' w → K a') → if Region.wanted o (yielded ops a.tmps) then o.still P a w K else K (a.put o.dst undef)) :
    wpPlan P ops F Q (f + 1) (.block n next) a w := by
  have h0 := h (fun a' => wpPlan P ops F Q f next a' w) (fun a' h2 => h2)
  rw [← stOp_at ho] at h0
  obtain ⟨v, hy, h2⟩ := yieldsAt_of_stOp ho h0
  refine ⟨a.put o.dst v, fun W hW => ?_, h2⟩
  have e1 : ¬ n % 2 = 0 := by omega
  rw [if_neg e1] at hW
  subst hW
  exact hy.stOp ho rfl

theorem wpOp_of_list {i : Nat} {o : Oper} {K : Act → World → Prop} {a : Act} {w : World} (ho : ops[i]? = some o)
    (h : wpList P ops (fun e a' w' => e = .normal ∧ K a' w') [o] a w) : wpOp P ops noQ i K a w := by
  unfold wpOp
  simp only [ho]
  unfold wpList at h
  split
  · rename_i hw
    simp only [hw, if_true] at h
    rcases h with h | ⟨_, a0, w0, he0, _⟩
    · refine .inl ?_
      unfold Oper.wp at *
      generalize (execOp a.eval o).run P w = r at *
      have hl : ¬ LetsOut (fun (e : Exit) (a' : Act) (w' : World) => e = .normal ∧ K a' w') := fun ⟨_, _, h, _⟩ => by cases h
      cases r with
      | ok n w' =>
        cases n <;> simp only [Oper.upon, wpList] at h ⊢ <;> first
          | exact h.2
          | exact h
          | (refine Calls.mono h fun e w'' he => ?_
             cases e with
             | returned u => exact he.2
             | panicked c => cases he.1
             | outgrown => exact (hl he).elim)
          | exact Rows.mono h fun u w'' he => he.2
      | halt x w' => cases x <;> simp only [Oper.upon] at h ⊢ <;> first | exact h | cases h.1
    · cases he0
  · rename_i hw
    simp only [hw] at h
    simp only [Bool.false_eq_true, if_false, wpList] at h
    exact h.2

theorem plan_one {f i : Nat} {next : Code} {a : Act} {w : World} {o : Oper} (ho : ops[i]? = some o)
    (h : wpList P ops (fun e a' w' => e = .normal ∧ (F w' ∧ wpPlan P ops F Q f next a' w')) [o] a w) :
    wpPlan P ops F Q (f + 1) (.loop (.seq (.block i next) .skip)) a w := by
  intro x hx
  simp only [alts, List.mem_singleton] at hx
  subst hx
  exact wpOp_of_list ho h

theorem plan_two {f i j : Nat} {p q : Code} {a : Act} {w : World} {o o' : Oper} (ho : ops[i]? = some o) (ho' : ops[j]? = some o')
    (h : wpList P ops (fun e a' w' => e = .normal ∧ (F w' ∧ wpPlan P ops F Q f p a' w')) [o] a w)
    (h' : wpList P ops (fun e a' w' => e = .normal ∧ (F w' ∧ wpPlan P ops F Q f q a' w')) [o'] a w) :
    wpPlan P ops F Q (f + 1) (.loop (.seq (.block i p) (.seq (.block j q) .skip))) a w := by
  intro x hx
  simp only [alts, List.mem_cons, List.not_mem_nil, or_false] at hx
  rcases hx with rfl | rfl
  · exact wpOp_of_list ho h
  · exact wpOp_of_list ho' h'

theorem plan_done {f : Nat} {a : Act} {w : World} (h : Q .normal a w) : wpPlan P ops F Q f .skip a w := by
  cases f <;> exact h

end
end Go.Cub
