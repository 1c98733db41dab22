/- Small words: two worlds that agree but for some blocks ('Frm'); rows of numbers ('ints'); what a block is behind a store. -/
import Derived.WalkKit
import Derived.WalkSpells
import Derived.Lib.Hide
namespace Go.Cub
open Go Go.RowKit

/-- Of the blocks that were there only those of S may differ. -/
structure Frm (S : Nat → Prop) (w w' : World) : Prop where
  os : w'.os = w.os
  tape : w'.tape = w.tape
  output : w'.output = w.output
  size : w.heap.size ≤ w'.heap.size
  block : ∀ b, b < w.heap.size → ¬ S b → w'.heap[b]? = w.heap[b]?

theorem lt_of_some {w : World} {b : Nat} {o : Obj} (h : w.heap[b]? = some o) : b < w.heap.size := lt_of_block h

section
variable {S T : Nat → Prop} {w w1 w2 : World}

theorem Frm.refl (S : Nat → Prop) (w : World) : Frm S w w := ⟨rfl, rfl, rfl, Nat.le_refl _, fun _ _ _ => rfl⟩

theorem Frm.trans (h : Frm S w w1) (k : Frm T w1 w2) (hT : ∀ b, b < w.heap.size → T b → S b) : Frm S w w2 :=
  ⟨k.os.trans h.os, k.tape.trans h.tape, k.output.trans h.output, Nat.le_trans h.size k.size, fun b hb hS =>
    (k.block b (Nat.lt_of_lt_of_le hb h.size) (fun ht => hS (hT b hb ht))).trans (h.block b hb hS)⟩

theorem Frm.mono (h : Frm S w w1) (hT : ∀ b, b < w.heap.size → S b → T b) : Frm T w w1 :=
  ⟨h.os, h.tape, h.output, h.size, fun b hb ht => h.block b hb (fun hs => ht (hT b hb hs))⟩

theorem Frm.drew (h : Frm S w w1) : Frm S w w1.drew := ⟨h.os, h.tape, h.output, h.size, h.block⟩

theorem Frm.alloc (h : Frm S w w1) (o : Obj) : Frm S w (w1.alloc o) :=
  ⟨h.os, h.tape, h.output, by have := h.size; simp; omega, fun b hb hS => (Below.heap_alloc _ _ _ (Nat.lt_of_lt_of_le hb h.size)).trans (h.block b hb hS)⟩

theorem Frm.setCell (h : Frm S w w1) {a : Addr} (ha : a.block < w.heap.size → S a.block) (v : Value) : Frm S w (w1.setCell a v) :=
  ⟨h.os, h.tape, h.output, by have := h.size; simp [World.setCell]; omega, fun b hb hS =>
    (Below.heap_setCell _ _ _ _ (fun e => hS (by subst e; exact ha hb))).trans (h.block b hb hS)⟩

theorem Frm.below (h : Frm S w w1) {B : Nat} (hB : B ≤ w.heap.size) (hS : ∀ b, b < B → ¬ S b) : Below B w w1 :=
  ⟨h.os, h.tape, h.output, h.size, fun b hb => h.block b (by omega) (hS b hb)⟩

theorem Frm.of_below {B : Nat} (h : Below B w w1) (hS : ∀ b, b < w.heap.size → B ≤ b → S b) : Frm S w w1 :=
  ⟨h.os, h.tape, h.output, h.size, fun b hb hs => h.block b (by rcases Nat.lt_or_ge b B with h' | h'; exact h'; exact absurd (hS b hb h') hs)⟩

theorem Frm.grown {row : Option Nat} (hg : w.grownBy w1 row) (hS : ∀ b, b < w.heap.size → row = some b → S b) : Frm S w w1 :=
  ⟨hg.os, hg.tape, hg.output, hg.size, fun b hb hs => hg.block b hb (fun e => hs (hS b hb e.symm))⟩

theorem Frm.heap (h : Frm S w w1) {b : Nat} {o : Obj} (hb : w.heap[b]? = some o) (hS : ¬ S b) : w1.heap[b]? = some o :=
  (h.block b (lt_of_some hb) hS).trans hb

/-- a frame whose blocks are all new is empty on the old ones -/
theorem Frm.none (h : Frm S w w1) (hS : ∀ b, b < w.heap.size → ¬ S b) : Frm (fun _ => False) w w1 := h.mono fun b hb hs => hS b hb hs
end

section
variable {w : World} {b : Nat} {cs : Array Value} {t : TypeId}

theorem cell_at (h : w.heap[b]? = some (.cells cs t (0, 0))) {o : Nat} {v : Value} (hv : cs[o]? = some v) : w.cell? ⟨b, o, none⟩ = some v := by simp [World.cell?, h, hv]
theorem free_at (h : w.heap[b]? = some (.cells cs t (0, 0))) (o : Nat) : w.frozen? ⟨b, o, none⟩ = false := by simp [World.frozen?, h]

theorem set_same (h : w.heap[b]? = some (.cells cs t (0, 0))) (o : Nat) (v : Value) : (w.setCell ⟨b, o, none⟩ v).heap[b]? = some (.cells (cs.setIfInBounds o v) t (0, 0)) := by
  have hlt := lt_of_some h
  have h' : w.heap[b] = .cells cs t (0, 0) := by simpa [Array.getElem?_eq_getElem hlt] using h
  show (w.heap.modify b _)[b]? = _
  rw [Array.getElem?_eq_getElem (by simpa using hlt), Array.getElem_modify_self, h']
  rfl

theorem set_ne {a : Addr} (h : b ≠ a.block) (v : Value) : (w.setCell a v).heap[b]? = w.heap[b]? := Below.heap_setCell _ _ _ _ h

theorem set_other {o : Obj} (h : w.heap[b]? = some o) {a : Addr} (hn : b ≠ a.block) (v : Value) : (w.setCell a v).heap[b]? = some o := (set_ne hn v).trans h

theorem alloc_new (w : World) (o : Obj) : (w.alloc o).heap[w.heap.size]? = some o := by show (w.heap.push o)[w.heap.size]? = _; simp
theorem alloc_old {o : Obj} (h : w.heap[b]? = some o) (o' : Obj) : (w.alloc o').heap[b]? = some o := (Below.heap_alloc _ _ _ (lt_of_some h)).trans h
theorem drew_heap (w : World) : w.drew.heap = w.heap := rfl
end

/-! ### rows of numbers -/
def upd {α : Type} (c : Nat → α) (i : Nat) (v : α) : Nat → α := fun j => if j = i then v else c j
@[simp] theorem upd_same {α : Type} (c : Nat → α) (i : Nat) (v : α) : upd c i v i = v := by simp [upd]
theorem upd_ne {α : Type} (c : Nat → α) {i j : Nat} (v : α) (h : j ≠ i) : upd c i v j = c j := by simp [upd, h]

def ints (k : IntKind) (c : Nat → Int) (M : Nat) : Array Value := Array.ofFn (n := M) fun i => Value.int k (c i.val)
def nats (k : IntKind) (c : Nat → Nat) (M : Nat) : Array Value := ints k (fun o => (c o : Int)) M

theorem ints_size (k : IntKind) (c : Nat → Int) (M : Nat) : (ints k c M).size = M := by simp [ints]
theorem ints_get (k : IntKind) (c : Nat → Int) {M o : Nat} (h : o < M) : (ints k c M)[o]? = some (.int k (c o)) := by simp [ints, h]
theorem ints_set (k : IntKind) (c : Nat → Int) (M o : Nat) (v : Int) : (ints k c M).setIfInBounds o (.int k v) = ints k (upd c o v) M := by
  apply Array.ext_getElem?
  intro i
  rw [Array.getElem?_setIfInBounds]
  by_cases e : o = i
  · subst e
    rw [if_pos rfl, ints_size]
    by_cases h : o < M
    · rw [if_pos h, ints_get _ _ h, upd_same]
    · rw [if_neg h, Array.getElem?_eq_none (by rw [ints_size]; omega)]
  · rw [if_neg e]
    by_cases h : i < M
    · rw [ints_get _ _ h, ints_get _ _ h, upd_ne _ _ (fun x => e x.symm)]
    · rw [Array.getElem?_eq_none (by rw [ints_size]; omega), Array.getElem?_eq_none (by rw [ints_size]; omega)]
theorem ints_ext (k : IntKind) {c c' : Nat → Int} {M : Nat} (h : ∀ o, o < M → c o = c' o) : ints k c M = ints k c' M := by
  apply Array.ext
  · simp [ints]
  · intro i h1 h2
    simp only [ints, Array.getElem_ofFn]
    rw [h i (by simpa [ints] using h1)]

theorem nats_size (k : IntKind) (c : Nat → Nat) (M : Nat) : (nats k c M).size = M := ints_size ..
theorem nats_get (k : IntKind) (c : Nat → Nat) {M o : Nat} (h : o < M) : (nats k c M)[o]? = some (.int k (c o : Int)) := ints_get _ _ h
theorem nats_set (k : IntKind) (c : Nat → Nat) (M o v : Nat) : (nats k c M).setIfInBounds o (.int k (v : Int)) = nats k (upd c o v) M := by
  unfold nats
  rw [ints_set]
  refine ints_ext _ fun i _ => ?_
  simp only [upd]
  split <;> rfl
theorem nats_ext (k : IntKind) {c c' : Nat → Nat} {M : Nat} (h : ∀ o, o < M → c o = c' o) : nats k c M = nats k c' M := ints_ext k fun o ho => by rw [h o ho]

end Go.Cub

namespace Go.Cub
open Go Go.RowKit
/-! ### a row of numbers in memory: block b's first M cells -/
def Row (w : World) (b : Nat) (k : IntKind) (c : Nat → Int) (M : Nat) : Prop :=
  ∃ A E, w.heap[b]? = some (.cells A E (0, 0)) ∧ ∀ o, o < M → A[o]? = some (.int k (c o))
def RowN (w : World) (b : Nat) (k : IntKind) (c : Nat → Nat) (M : Nat) : Prop := Row w b k (fun o => (c o : Int)) M

section
variable {w w1 : World} {b : Nat} {k : IntKind} {c : Nat → Int} {d : Nat → Nat} {M : Nat}
theorem Row.cell (h : Row w b k c M) {o : Nat} (ho : o < M) : w.cell? ⟨b, o, none⟩ = some (.int k (c o)) := by
  obtain ⟨A, E, h1, h2⟩ := h
  exact cell_at h1 (h2 o ho)
theorem Row.free (h : Row w b k c M) (o : Nat) : w.frozen? ⟨b, o, none⟩ = false := by
  obtain ⟨A, E, h1, _⟩ := h
  exact free_at h1 o
theorem Row.lt (h : Row w b k c M) : b < w.heap.size := by
  obtain ⟨A, E, h1, _⟩ := h
  exact lt_of_some h1
theorem Row.of_heap (h : Row w b k c M) (he : w1.heap[b]? = w.heap[b]?) : Row w1 b k c M := by
  obtain ⟨A, E, h1, h2⟩ := h
  exact ⟨A, E, he.trans h1, h2⟩
theorem Row.set (h : Row w b k c M) (o : Nat) (v : Int) : Row (w.setCell ⟨b, o, none⟩ (.int k v)) b k (upd c o v) M := by
  obtain ⟨A, E, h1, h2⟩ := h
  refine ⟨A.setIfInBounds o (.int k v), E, set_same h1 o _, fun i hi => ?_⟩
  rw [Array.getElem?_setIfInBounds]
  by_cases e : o = i
  · subst e
    have hA : o < A.size := by
      rcases Nat.lt_or_ge o A.size with h' | h'
      · exact h'
      · have := h2 o hi; rw [Array.getElem?_eq_none h'] at this; cases this
    rw [if_pos rfl, if_pos hA, upd_same]
  · rw [if_neg e, upd_ne _ _ (fun x => e x.symm)]; exact h2 i hi
theorem Row.other (h : Row w b k c M) {a : Addr} (hn : b ≠ a.block) (v : Value) : Row (w.setCell a v) b k c M := h.of_heap (set_ne hn v)
theorem Row.alloc (h : Row w b k c M) (o : Obj) : Row (w.alloc o) b k c M := h.of_heap (Below.heap_alloc _ _ _ h.lt)
theorem Row.drew (h : Row w b k c M) : Row w.drew b k c M := h
theorem Row.frm {S : Nat → Prop} (h : Row w b k c M) (hf : Frm S w w1) (hS : ¬ S b) : Row w1 b k c M := h.of_heap (hf.block b h.lt hS)
theorem Row.congr {c' : Nat → Int} (h : Row w b k c M) (he : ∀ o, o < M → c o = c' o) : Row w b k c' M := by
  obtain ⟨A, E, h1, h2⟩ := h
  exact ⟨A, E, h1, fun o ho => by rw [h2 o ho, he o ho]⟩
theorem Row.mk_ints {E : TypeId} (h : w.heap[b]? = some (.cells (ints k c M) E (0, 0))) : Row w b k c M := ⟨_, E, h, fun _ ho => ints_get _ _ ho⟩
theorem Row.less {M' : Nat} (h : Row w b k c M) (hM : M' ≤ M) : Row w b k c M' := by
  obtain ⟨A, E, h1, h2⟩ := h
  exact ⟨A, E, h1, fun o ho => h2 o (by omega)⟩

theorem RowN.cell (h : RowN w b k d M) {o : Nat} (ho : o < M) : w.cell? ⟨b, o, none⟩ = some (.int k (d o : Int)) := Row.cell h ho
theorem RowN.free (h : RowN w b k d M) (o : Nat) : w.frozen? ⟨b, o, none⟩ = false := Row.free h o
theorem RowN.set (h : RowN w b k d M) (o : Nat) (v : Nat) : RowN (w.setCell ⟨b, o, none⟩ (.int k (v : Int))) b k (upd d o v) M :=
  (Row.set h o (v : Int)).congr fun _ _ => by simp only [upd]; split <;> rfl
theorem RowN.other (h : RowN w b k d M) {a : Addr} (hn : b ≠ a.block) (v : Value) : RowN (w.setCell a v) b k d M := Row.other h hn v
theorem RowN.congr {d' : Nat → Nat} (h : RowN w b k d M) (he : ∀ o, o < M → d o = d' o) : RowN w b k d' M := Row.congr h fun o ho => by rw [he o ho]
theorem RowN.frm {S : Nat → Prop} (h : RowN w b k d M) (hf : Frm S w w1) (hS : ¬ S b) : RowN w1 b k d M := Row.frm h hf hS
theorem RowN.lt (h : RowN w b k d M) : b < w.heap.size := Row.lt h
theorem RowN.of_heap (h : RowN w b k d M) (he : w1.heap[b]? = w.heap[b]?) : RowN w1 b k d M := Row.of_heap h he
end
end Go.Cub
