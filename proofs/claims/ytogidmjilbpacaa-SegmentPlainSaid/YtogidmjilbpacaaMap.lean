/- Maps of the call's own, from numbers to numbers. -/
import Derived.Test.YtogidmjilbpacaaFacts
import Derived.Maps.OwnSet
namespace Go.Cub
open Go Go.RowKit
open Go.Maps (Keyed)

/-- Block b of w is a map of at most n entries, from numbers of kind kq to numbers of kind q. -/
def GMap (P : Program) (K E : TypeId) (kq q : IntKind) (w : World) (b n : Nat) (g : Nat → Option Int) : Prop :=
  ∃ D : DataW Unit, w.ownsMap P K (plainElem P E) b n D ∧ ∀ x : Nat, (Lit.int kq x).wf = true → Maps.has D (.int kq x) = (g x).isSome ∧ ∀ c, g x = some c → D.atKey (.int kq x) (.lit (.int q 0)) = .lit (.int q c)

section
variable {P : Program} {K E T : TypeId} {kq q : IntKind} {w w1 : World} {b n : Nat} {g : Nat → Option Int}

theorem GMap.mono (h : GMap P K E kq q w b n g) {m : Nat} (hm : n ≤ m) : GMap P K E kq q w b m g := by
  obtain ⟨D, h1, h2⟩ := h
  exact ⟨D, h1.mono hm, h2⟩
theorem GMap.lt (h : GMap P K E kq q w b n g) : b < w.heap.size := by
  obtain ⟨D, h1, h2⟩ := h
  exact h1.lt
theorem GMap.of_heap (h : GMap P K E kq q w b n g) (he : w1.heap[b]? = w.heap[b]?) : GMap P K E kq q w1 b n g := by
  obtain ⟨D, ⟨es, clock, hb, r⟩, h2⟩ := h
  exact ⟨D, ⟨es, clock, he.trans hb, r⟩, h2⟩
theorem GMap.frm {S : Nat → Prop} (h : GMap P K E kq q w b n g) (hf : Frm S w w1) (hS : ¬ S b) : GMap P K E kq q w1 b n g := h.of_heap (hf.block b h.lt hS)
theorem GMap.alloc (h : GMap P K E kq q w b n g) (o : Obj) : GMap P K E kq q (w.alloc o) b n g := h.of_heap (Below.heap_alloc _ _ _ h.lt)
theorem GMap.setCell (h : GMap P K E kq q w b n g) {a : Addr} (ha : b ≠ a.block) (v : Value) : GMap P K E kq q (w.setCell a v) b n g := h.of_heap (Below.heap_setCell _ _ _ _ ha)
theorem GMap.congr (h : GMap P K E kq q w b n g) {g' : Nat → Option Int} (he : ∀ x : Nat, (Lit.int kq x).wf = true → g x = g' x) : GMap P K E kq q w b n g' := by
  obtain ⟨D, h1, h2⟩ := h
  exact ⟨D, h1, fun x hx => by rw [← he x hx]; exact h2 x hx⟩
theorem GMap.made (w : World) (P : Program) (K E : TypeId) (kq q : IntKind) : GMap P K E kq q (w.alloc (.map #[] 0)) w.heap.size 0 (fun _ => none) :=
  ⟨.map [], World.ownsMap_made _ _ _ _, fun x _ => ⟨rfl, fun c hc => by cases hc⟩⟩

theorem GMap.look (h : GMap P K E kq q w b n g) (hK : P.underlying K = some (.int kq)) (hT : P.underlying T = some (.map K E)) (hE : P.underlying E = some (.int q)) (hz : (zeroValue E).run P w = .ok (.int q 0) w) (x : Nat) (hx : (Lit.int kq x).wf = true) :
    (Instr.lookup T (.map (some b)) (.int kq x) true).run P w = .ok (.tuple #[.int q ((g x).getD 0), .bool (g x).isSome]) w := by
  obtain ⟨D, h1, h2⟩ := h
  obtain ⟨v, ps, hrun, hv⟩ := h1.look_ok (Maps.int_keyed hK) hT hz (plainElem_int hE (by cases q <;> decide)) (Maps.keyOf_int_mk hK hx)
  obtain ⟨c, rfl, hc, hwc⟩ := plainElem_int_inv hE hv
  obtain ⟨e1, e2⟩ := h2 x hx
  rw [hrun, e1]
  simp only [Prod.mk.injEq] at hc
  cases hg : g x with
  | none =>
    rw [hg] at e1
    have := Maps.atKey_of_not_has (k := .int kq x) e1 (.lit (.int q 0))
    rw [this] at hc
    have h3 := hc.1
    injection h3 with h3
    injection h3 with _ h3
    subst h3
    rfl
  | some c' =>
    have := e2 c' hg
    rw [this] at hc
    have h3 := hc.1
    injection h3 with h3
    injection h3 with _ h3
    subst h3
    rfl

theorem wpList_gmap_look {P : Program} (w : World) {ops : Array Oper} {rest : List Oper} {o : Oper} {a : Act} {Q : Exit → Act → World → Prop}
    (hg : o.guard = none) (m x : Operand) (t : TypeId) (hop : o.op = Op.lookup t m x true) (K E : TypeId) (kq q : IntKind)
    (hK : P.underlying K = some (.int kq)) (ht : P.underlying t = some (.map K E)) (hE : P.underlying E = some (.int q)) (hz : (zeroValue E).run P w = .ok (.int q 0) w) (b n : Nat) (g : Nat → Option Int)
    (hm : a.eval m = .map (some b)) (hown : GMap P K E kq q w b n g) (key : Nat) (hx : a.eval x = .int kq key) (hkey : (Lit.int kq key).wf = true) (c : Int) (f : Bool) (hc : (g key).getD 0 = c) (hf : (g key).isSome = f)
    (hk : wpList P ops Q rest (a.put o.dst (.tuple #[.int q c, .bool f])) w) :
    wpList P ops Q (o :: rest) a w := by
  refine wpList_plain hg fun K' hK' => ?_
  have hrun := hown.look hK ht hE hz key hkey
  rw [hc, hf] at hrun
  unfold Oper.wp
  simp [execOp, hop, hm, hx, hrun, Result.andThen]
  exact hK' _ _ hk

theorem wpList_gmap_put {P : Program} (w : World) {ops : Array Oper} {rest : List Oper} {o : Oper} {a : Act} {Q : Exit → Act → World → Prop}
    (hg : o.guard = none) (m x v : Operand) (t : TypeId) (hop : o.op = Op.mapUpdate t m x v) (K E : TypeId) (kq q : IntKind)
    (hK : P.underlying K = some (.int kq)) (ht : P.underlying t = some (.map K E)) (hE : P.underlying E = some (.int q)) (b n : Nat) (g : Nat → Option Int)
    (hm : a.eval m = .map (some b)) (hown : GMap P K E kq q w b n g) (hn : n < maxLen) (key : Nat) (c : Int) (hx : a.eval x = .int kq key) (hv : a.eval v = .int q c) (hkey : (Lit.int kq key).wf = true) (hval : (Lit.int q c).wf = true)
    (hk : ∀ w', GMap P K E kq q w' b (n + 1) (upd g key (some c)) → Frm (fun i => i = b) w w' → wpList P ops Q rest (a.put o.dst undef) w') :
    wpList P ops Q (o :: rest) a w := by
  obtain ⟨D, h1, h2⟩ := hown
  refine wpList_mapUpdate_own w hg m x v t hop K E (Maps.int_keyed hK) ht (plainElem P E) b n D hm h1 hn _ _ (.int kq key) hx hv (Maps.keyOf_int_mk hK hkey) (.lit (.int q c)) [] (plainElem_int hE hval) fun w' r1 r2 => hk w' ⟨_, r1, fun y hy => ?_⟩ (Frm.grown r2 (fun i _ e => by injection e with e; exact e.symm))
  by_cases e : y = key
  · subst e
    rw [upd_same]
    refine ⟨Maps.has_put_same h1.isMap (k := .int kq y) trivial _, fun c' hc' => ?_⟩
    injection hc' with hc'
    subst hc'
    exact Maps.atKey_put_same h1.isMap (k := .int kq y) trivial _ _
  · have hne : Lit.int kq (y : Int) ≠ Lit.int kq (key : Int) := fun h => e (by injection h with _ h; omega)
    rw [upd_ne _ _ e, Maps.has_put_other hne]
    refine ⟨(h2 y hy).1, fun c' hc' => ?_⟩
    rw [Maps.atKey_put_other hne]
    exact (h2 y hy).2 c' hc'

/-- 'delete(m, k)' -/
theorem wpList_gmap_del {P : Program} (w : World) {ops : Array Oper} {rest : List Oper} {o : Oper} {a : Act} {Q : Exit → Act → World → Prop}
    (hg : o.guard = none) (m x : Operand) (t K : TypeId) (hop : o.op = Op.call { callee := Callee.builtin Builtin.delete, args := #[m, x], argTypes := #[t, K] }) (E : TypeId) (kq q : IntKind)
    (hK : P.underlying K = some (.int kq)) (ht : P.underlying t = some (.map K E)) (b n : Nat) (g : Nat → Option Int)
    (hm : a.eval m = .map (some b)) (hown : GMap P K E kq q w b n g) (key : Nat) (hx : a.eval x = .int kq key) (hkey : (Lit.int kq key).wf = true)
    (hk : ∀ w', GMap P K E kq q w' b n (upd g key none) → Frm (fun i => i = b) w w' → wpList P ops Q rest (a.put o.dst (.tuple #[])) w') :
    wpList P ops Q (o :: rest) a w := by
  obtain ⟨D, h1, h2⟩ := hown
  refine wpList_delete_own w hg m x t K hop E (Maps.int_keyed hK) ht (plainElem P E) b n D hm h1 _ (.int kq key) hx (Maps.keyOf_int_mk hK hkey) fun w' r1 r2 => hk w' ⟨_, r1, fun y hy => ?_⟩ (Frm.grown r2.grown (fun i _ e => by injection e with e; exact e.symm))
  by_cases e : y = key
  · subst e
    rw [upd_same]
    exact ⟨Maps.has_del_same, fun c' hc' => by cases hc'⟩
  · have hne : Lit.int kq (y : Int) ≠ Lit.int kq (key : Int) := fun h => e (by injection h with _ h; omega)
    rw [upd_ne _ _ e, Maps.has_del_other hne]
    refine ⟨(h2 y hy).1, fun c' hc' => ?_⟩
    rw [Maps.atKey_del_other hne]
    exact (h2 y hy).2 c' hc'

/-- 'm[k]', without 'ok' -/
theorem GMap.look1 (h : GMap P K E kq q w b n g) (hK : P.underlying K = some (.int kq)) (hT : P.underlying T = some (.map K E)) (hE : P.underlying E = some (.int q)) (hz : (zeroValue E).run P w = .ok (.int q 0) w) (x : Nat) (hx : (Lit.int kq x).wf = true) :
    (Instr.lookup T (.map (some b)) (.int kq x) false).run P w = .ok (.int q ((g x).getD 0)) w := by
  obtain ⟨D, h1, h2⟩ := h
  obtain ⟨c, hrun, hc, hwc⟩ := h1.lookup_int (Maps.int_keyed hK) hT hE hz (Maps.keyOf_int_mk hK hx)
  obtain ⟨e1, e2⟩ := h2 x hx
  rw [hrun]
  cases hg : g x with
  | none =>
    rw [hg] at e1
    rw [Maps.atKey_of_not_has (k := .int kq x) e1 (.lit (.int q 0))] at hc
    injection hc with h3
    injection h3 with _ h3
    subst h3
    rfl
  | some c' =>
    rw [e2 c' hg] at hc
    injection hc with h3
    injection h3 with _ h3
    subst h3
    rfl
end
end Go.Cub
