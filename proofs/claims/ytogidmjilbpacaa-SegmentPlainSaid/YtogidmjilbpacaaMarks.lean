/- The way out of a function with ranges over a function inside a loop, whose result lies in a cell. -/
import Derived.Test.YtogidmjilbpacaaRange
import Derived.Deep.LoopGhost
namespace Go.Cub
open Go Go.RowKit

theorem leaves_marks' {P : Program} {fn : Func} {tmps : Array Value} {R : Ending → World → Prop} {B : Nat} {v : Value} : ∀ (Ds : List Nat) (w : World), Ds.Nodup → (∀ D ∈ Ds, B ≤ D ∧ w.heap[D]? = some (.deferred (some []))) →
    (∀ W', Bk B w W' → (results fn tmps).run P W' = .ok v W') → (∀ W', Bk B w W' → R (.returned v) W') → LeavesInM Fence.wide 0 P fn tmps R (Ds.map mark) .returning w
  | [], w, _, _, hr, hR => by
    show LeavesIn Fence.wide 0 P fn tmps R [] .returning w
    exact ⟨v, hr w (Bk.refl _ _), hR w (Bk.refl _ _)⟩
  | D :: Ds, w, hn, hd, hr, hR => by
    have h1 := hd D (by simp)
    have hn' := List.nodup_cons.1 hn
    refine ⟨by simp, .inl ⟨D, _, rfl, run_takeDeferred h1.2, ?_⟩⟩
    refine leaves_marks' Ds _ hn'.2 (fun D' hD' => ?_) (fun W' hW' => hr W' ((Bk.putObj _ h1.1 h1.2 rfl).trans hW')) (fun W' hW' => hR W' ((Bk.putObj _ h1.1 h1.2 rfl).trans hW'))
    have h2 := hd D' (by simp [hD'])
    exact ⟨h2.1, (World.putObj_heap_other (fun e => hn'.1 (by rw [← e]; exact hD'))).trans h2.2⟩
theorem bodyPostM_ret' {P : Program} {fn : Func} {R : Ending → World → Prop} {a : Act} {w : World} {B : Nat} {v : Value} (Ds : List Nat) (hd : a.defers = Ds.map mark) (hn : Ds.Nodup)
    (h : ∀ D ∈ Ds, B ≤ D ∧ w.heap[D]? = some (.deferred (some []))) (hr : ∀ W', Bk B w W' → (results fn a.tmps).run P W' = .ok v W') (hR : ∀ W', Bk B w W' → R (.returned v) W') : bodyPostM Fence.wide 0 P fn R .ret a w := by
  show LeavesInM Fence.wide 0 P fn a.tmps R a.defers .returning w
  rw [hd]
  exact leaves_marks' Ds w hn h hr hR

/-- Two families of blocks of the call's own, and others beside them. -/
structure Two (w wr : World) (fp fq : List Nat) (O : Nat → Prop) : Prop where
  ge1 : ∀ b ∈ fp, w.heap.size ≤ b ∧ b < wr.heap.size
  ge2 : ∀ b ∈ fq, w.heap.size ≤ b ∧ b < wr.heap.size
  dis : ∀ b ∈ fp, b ∉ fq
  oth : ∀ b, O b → w.heap.size ≤ b ∧ b < wr.heap.size ∧ b ∉ fp ∧ b ∉ fq
  frm : Frm (fun _ => False) w wr
section
variable {w wr w1 : World} {fp fq fp' fq' : List Nat} {O : Nat → Prop}
theorem Two.same (h : Two w wr fp fq O) (hf : Frm (fun _ => False) wr w1) : Two w w1 fp fq O := by
  have hs := hf.size
  exact ⟨fun b hb => by have := h.ge1 b hb; omega, fun b hb => by have := h.ge2 b hb; omega, h.dis, fun b hb => by have := h.oth b hb; exact ⟨this.1, by omega, this.2.2⟩, h.frm.trans hf (fun _ _ h => h)⟩
theorem Two.step1 (h : Two w wr fp fq O) (hs : ∀ b ∈ fp', b ∈ fp ∨ wr.heap.size ≤ b) (hl : ∀ b ∈ fp', b < w1.heap.size) (hf : Frm (fun b => b ∈ fp) wr w1) : Two w w1 fp' fq O := by
  have hz := hf.size
  have hw := h.frm.size
  refine ⟨fun b hb => ⟨?_, hl b hb⟩, fun b hb => by have := h.ge2 b hb; omega, fun b hb hq => ?_, fun b hb => ?_, h.frm.trans hf (fun b hb hm => by have := h.ge1 b hm; omega)⟩
  · rcases hs b hb with h1 | h1
    · exact (h.ge1 b h1).1
    · omega
  · rcases hs b hb with h1 | h1
    · exact h.dis b h1 hq
    · have := h.ge2 b hq; omega
  · obtain ⟨h1, h2, h3, h4⟩ := h.oth b hb
    refine ⟨h1, by omega, fun hm => ?_, h4⟩
    rcases hs b hm with h5 | h5
    · exact h3 h5
    · omega
theorem Two.step2 (h : Two w wr fp fq O) (hs : ∀ b ∈ fq', b ∈ fq ∨ wr.heap.size ≤ b) (hl : ∀ b ∈ fq', b < w1.heap.size) (hf : Frm (fun b => b ∈ fq) wr w1) : Two w w1 fp fq' O := by
  have hz := hf.size
  have hw := h.frm.size
  refine ⟨fun b hb => by have := h.ge1 b hb; omega, fun b hb => ⟨?_, hl b hb⟩, fun b hb hq => ?_, fun b hb => ?_, h.frm.trans hf (fun b hb hm => by have := h.ge2 b hm; omega)⟩
  · rcases hs b hb with h1 | h1
    · exact (h.ge2 b h1).1
    · omega
  · rcases hs b hq with h1 | h1
    · exact h.dis b hb h1
    · have := h.ge1 b hb; omega
  · obtain ⟨h1, h2, h3, h4⟩ := h.oth b hb
    refine ⟨h1, by omega, h3, fun hm => ?_⟩
    rcases hs b hm with h5 | h5
    · exact h4 h5
    · omega
end
end Go.Cub
