/- Facts on this program's types that the walk uses by itself. -/
import Derived.Test.YtogidmjilbpacaaProg
import Derived.Test.YtogidmjilbpacaaPlan
import Derived.Test.YtogidmjilbpacaaBase
import Derived.WalkLawsBesides
import Derived.WalkSpells
import Derived.Handy
import Derived.KernelRfl
namespace Go.Proofs.Ytogidmjilbpacaa
open Go.RowKit Go.Cub

@[go_sem] theorem eql_nodes_nil (w : World) (a : Option Addr) (n c : Nat) : (binOp .eql 110 (.slice a n c) (.slice none 0 0)).run Try.prog w = .ok (.bool a.isNone) w :=
  Lib.run_eql_slice_nil w 110 116 a n c 0 0 (by kernel_rfl)

theorem info_u32 : (Try.prog.info? 34).map (fun i => (i.zero, i.size, i.bytes)) = some (some (.int .u32 0), 1, 4) := by kernel_rfl
theorem info_int : (Try.prog.info? 3).map (fun i => (i.zero, i.size, i.bytes)) = some (some (.int .i64 0), 1, 8) := by kernel_rfl

/-- numbers as cells -/
def us (xs : List Nat) : List Value := xs.map fun (x : Nat) => Value.int .u32 (x : Int)
def is (xs : List Int) : List Value := xs.map fun x => Value.int .i64 x
theorem us_append (xs ys : List Nat) : us (xs ++ ys) = us xs ++ us ys := by simp [us]
theorem is_append (xs ys : List Int) : is (xs ++ ys) = is xs ++ is ys := by simp [is]
theorem us_length (xs : List Nat) : (us xs).length = xs.length := by simp [us]
theorem is_length (xs : List Int) : (is xs).length = xs.length := by simp [is]

/-- The slice v of the call's own (blocks from base on) holds the numbers xs. -/
def SlU (w : World) (base : Nat) (v : Value) (xs : List Nat) : Prop := w.ownsRow base 34 1 v xs.length (us xs)
def SlI (w : World) (base : Nat) (v : Value) (xs : List Int) : Prop := w.ownsRow base 3 1 v xs.length (is xs)

/-- It returns a new slice of these numbers; nothing that was there has turned. -/
def GivesU (w : World) (xs : List Nat) (e : Ending) (w' : World) : Prop := ∃ v, e = .returned v ∧ SlU w' w.heap.size v xs ∧ Frm (fun _ => False) w w'
def GivesI (w : World) (xs : List Int) (e : Ending) (w' : World) : Prop := ∃ v, e = .returned v ∧ SlI w' w.heap.size v xs ∧ Frm (fun _ => False) w w'

theorem own_ge {w : World} {base : Nat} {e : TypeId} {size : Nat} {v : Value} {n : Nat} {xs : List Value} (h : w.ownsRow base e size v n xs) {b : Nat} (hb : v.ownBlock = some b) : base ≤ b := by
  rcases h.2 with ⟨hv, _⟩ | ⟨g, cap, cur, hv, hg, _⟩
  · rw [hv] at hb; cases hb
  · rw [hv] at hb; cases hb; exact hg
theorem own_lt {w : World} {base : Nat} {e : TypeId} {size : Nat} {v : Value} {n : Nat} {xs : List Value} (h : w.ownsRow base e size v n xs) {b : Nat} (hb : v.ownBlock = some b) : b < w.heap.size := by
  rcases h.2 with ⟨hv, _⟩ | ⟨g, cap, cur, hv, hg, hh, _⟩
  · rw [hv] at hb; cases hb
  · rw [hv] at hb; cases hb; exact lt_of_some hh
theorem own_frm {w w1 : World} {base : Nat} {e : TypeId} {size : Nat} {v : Value} {n : Nat} {xs : List Value} {S : Nat → Prop} (h : w.ownsRow base e size v n xs) (hf : Frm S w w1)
    (hS : ∀ b, v.ownBlock = some b → ¬ S b) : w1.ownsRow base e size v n xs := by
  obtain ⟨h1, h2⟩ := h
  refine ⟨h1, ?_⟩
  rcases h2 with h2 | ⟨g, cap, cur, hv, hg, hh, r⟩
  · exact .inl h2
  · exact .inr ⟨g, cap, cur, hv, hg, hf.heap hh (hS g (by rw [hv]; rfl)), r⟩
theorem own_base {w : World} {base base' : Nat} {e : TypeId} {size : Nat} {v : Value} {n : Nat} {xs : List Value} (h : w.ownsRow base e size v n xs) (hb : base' ≤ base) : w.ownsRow base' e size v n xs := by
  obtain ⟨h1, h2⟩ := h
  refine ⟨h1, ?_⟩
  rcases h2 with h2 | ⟨g, cap, cur, hv, hg, r⟩
  · exact .inl h2
  · exact .inr ⟨g, cap, cur, hv, Nat.le_trans hb hg, r⟩

/-- A frame over an append to a slice of the call's own. -/
theorem frm_app {S : Nat → Prop} {w wr w1 : World} {base : Nat} {e : TypeId} {size : Nat} {v : Value} {n : Nat} {xs : List Value} {o : Obj} (hf : Frm S w wr) (h : wr.ownsRow base e size v n xs)
    (hg : (wr.alloc o).grownBy w1 v.ownBlock) (hS : ∀ b, b < w.heap.size → base ≤ b → S b) : Frm S w w1 :=
  (hf.alloc o).trans (T := fun b => v.ownBlock = some b) (Frm.grown hg fun _ _ hb => hb) fun b hb hv => hS b hb (own_ge h hv)
theorem frm_app' {S : Nat → Prop} {w wr w1 : World} {base : Nat} {e : TypeId} {size : Nat} {v : Value} {n : Nat} {xs : List Value} (hf : Frm S w wr) (h : wr.ownsRow base e size v n xs)
    (hg : wr.grownBy w1 v.ownBlock) (hS : ∀ b, b < w.heap.size → base ≤ b → S b) : Frm S w w1 :=
  hf.trans (T := fun b => v.ownBlock = some b) (Frm.grown hg fun _ _ hb => hb) fun b hb hv => hS b hb (own_ge h hv)
theorem one_cell_at {w : World} {v : Value} {t : TypeId} (j : Nat) (u : Value) (h : [v][j]? = some u) : (w.alloc (.cells #[v] t (0, 0))).cell? (({ block := w.heap.size, off := 0, spot := none } : Addr).add j) = some u := by
  match j, h with
  | 0, h => simp at h; subst h; simp [Addr.add]
theorem one_cell_u (x : Nat) (u : Value) (h : u ∈ [Value.int .u32 (x : Int)]) : u.oneCell' = true := by simp at h; subst h; rfl
theorem one_cell_i (x : Int) (u : Value) (h : u ∈ [Value.int .i64 x]) : u.oneCell' = true := by simp at h; subst h; rfl
theorem SlU.snoc {w : World} {base : Nat} {v : Value} {xs : List Nat} {x : Nat} (h : w.ownsRow base 34 1 v (xs.length + 1) (us xs ++ [.int .u32 (x : Int)])) : SlU w base v (xs ++ [x]) := by
  unfold SlU
  rw [us_append, List.length_append]
  exact h
theorem SlI.snoc {w : World} {base : Nat} {v : Value} {xs : List Int} {x : Int} (h : w.ownsRow base 3 1 v (xs.length + 1) (is xs ++ [.int .i64 x])) : SlI w base v (xs ++ [x]) := by
  unfold SlI
  rw [is_append, List.length_append]
  exact h
theorem us_one (xs : List Nat) (u : Value) (h : u ∈ us xs) : u.oneCell' = true := by
  obtain ⟨x, _, rfl⟩ := List.mem_map.1 h
  rfl
theorem add_zero_off (b j : Nat) : (({ block := b, off := 0, spot := none } : Addr).add j) = ⟨b, j, none⟩ := by
  unfold Addr.add
  split
  · rename_i h; rw [h]
  · simp
theorem us_cells {w : World} {b : Nat} {xs : List Nat} (h : ∀ j (hj : j < xs.length), w.cell? ⟨b, j, none⟩ = some (.int .u32 (xs[j] : Int))) (j : Nat) (u : Value) (hu : (us xs)[j]? = some u) :
    w.cell? (({ block := b, off := 0, spot := none } : Addr).add j) = some u := by
  rw [add_zero_off]
  have hj : j < xs.length := by
    rcases Nat.lt_or_ge j xs.length with h' | h'
    · exact h'
    · rw [List.getElem?_eq_none (by rw [us_length]; exact h')] at hu; cases hu
  rw [h j hj]
  simpa [us, hj] using hu
end Go.Proofs.Ytogidmjilbpacaa
