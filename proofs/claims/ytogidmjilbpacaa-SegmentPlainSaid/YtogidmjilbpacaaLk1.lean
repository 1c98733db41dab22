/- Layer 14, the field of nodes: what it is in memory; its functions that make and loop over nothing. -/
import Derived.Test.YtogidmjilbpacaaProg
import Derived.Test.YtogidmjilbpacaaPlan
import Derived.Test.YtogidmjilbpacaaBase
import Derived.Test.YtogidmjilbpacaaFacts
import Derived.WalkLawsBesides
import Derived.Handy
namespace Go.Proofs.Ytogidmjilbpacaa
open Go.RowKit Go.Cub

/-- A field of nd nodes and hd lists at p: the nodes' cells c in block bF, the lengths l in block bL. -/
structure LkAt (w : World) (p bF bL nd hd : Nat) (c : Nat → Nat) (l : Nat → Int) : Prop where
  head : ∃ cF cL, w.heap[p]? = some (.cells #[.slice (some ⟨bF, 0, none⟩) (nd + hd) cF, .int .i64 nd, .slice (some ⟨bL, 0, none⟩) hd cL] 112 (0, 0))
  field : RowN w bF .u32 c (3 * (nd + hd))
  lens : Row w bL .i64 l hd
  n1 : p ≠ bF
  n2 : p ≠ bL
  n3 : bF ≠ bL
  ndLe : nd ≤ 4194304
  hdLe : hd ≤ 4096

section
variable {w w1 : World} {p bF bL nd hd : Nat} {c : Nat → Nat} {l : Nat → Int}
theorem LkAt.frm {S : Nat → Prop} (h : LkAt w p bF bL nd hd c l) (hf : Frm S w w1) (h1 : ¬ S p) (h2 : ¬ S bF) (h3 : ¬ S bL) : LkAt w1 p bF bL nd hd c l := by
  obtain ⟨⟨cF, cL, h0⟩, hF, hL, n1, n2, n3, b1, b2⟩ := h
  exact ⟨⟨cF, cL, hf.heap h0 h1⟩, hF.frm hf h2, hL.frm hf h3, n1, n2, n3, b1, b2⟩
theorem LkAt.setF (h : LkAt w p bF bL nd hd c l) (o v : Nat) : LkAt (w.setCell ⟨bF, o, none⟩ (.int .u32 (v : Int))) p bF bL nd hd (upd c o v) l := by
  obtain ⟨⟨cF, cL, h0⟩, hF, hL, n1, n2, n3, b1, b2⟩ := h
  exact ⟨⟨cF, cL, set_other h0 n1 _⟩, hF.set o v, hL.other (fun e => n3 e.symm) _, n1, n2, n3, b1, b2⟩
theorem LkAt.setL (h : LkAt w p bF bL nd hd c l) (o : Nat) (v : Int) : LkAt (w.setCell ⟨bL, o, none⟩ (.int .i64 v)) p bF bL nd hd c (upd l o v) := by
  obtain ⟨⟨cF, cL, h0⟩, hF, hL, n1, n2, n3, b1, b2⟩ := h
  exact ⟨⟨cF, cL, set_other h0 n2 _⟩, hF.other n3 _, hL.set o v, n1, n2, n3, b1, b2⟩
theorem LkAt.drew (h : LkAt w p bF bL nd hd c l) : LkAt w.drew p bF bL nd hd c l := ⟨h.head, h.field, h.lens, h.n1, h.n2, h.n3, h.ndLe, h.hdLe⟩
theorem LkAt.alloc (h : LkAt w p bF bL nd hd c l) (o : Obj) : LkAt (w.alloc o) p bF bL nd hd c l :=
  h.frm ((Frm.refl (fun _ => False) w).alloc o) id id id
theorem LkAt.congr {c' : Nat → Nat} {l' : Nat → Int} (h : LkAt w p bF bL nd hd c l) (hc : ∀ o, o < 3 * (nd + hd) → c o = c' o) (hl : ∀ o, o < hd → l o = l' o) : LkAt w p bF bL nd hd c' l' :=
  ⟨h.head, h.field.congr hc, h.lens.congr hl, h.n1, h.n2, h.n3, h.ndLe, h.hdLe⟩
theorem LkAt.of_heap (h : LkAt w p bF bL nd hd c l) (he : w1.heap = w.heap) : LkAt w1 p bF bL nd hd c l := by
  obtain ⟨⟨cF, cL, h0⟩, hF, hL, n1, n2, n3, b1, b2⟩ := h
  exact ⟨⟨cF, cL, by rw [he]; exact h0⟩, hF.of_heap (by rw [he]), hL.of_heap (by rw [he]), n1, n2, n3, b1, b2⟩
end

set_option maxHeartbeats 400000 in
theorem ring_calls {w : World} {p bF bL nd hd : Nat} {c : Nat → Nat} {l : Nat → Int} (H : LkAt w p bF bL nd hd c l) (h : Nat) (hh : h < hd) (o : Nat) (ho : o = nd + h) :
    Calls Try.prog 64 #[.int .i64 h, .pointer (some ⟨p, 0, none⟩)] w fun e w' => e = .returned (.int .u32 o) ∧ w = w' := by
  have Ho := Lib.hid ho
  clear ho
  obtain ⟨⟨cF, cL, h0⟩, hF, hL, n1, n2, n3, b1, b2⟩ := H
  have hc1 := cell_at h0 (o := 1) rfl
  clear h0 hF hL
  go_enter Try.func64, Try.ntmps64
  go_wp2
  go_ret
  exact ⟨by rw [Ho.out]; simp, rfl⟩

set_option maxHeartbeats 400000 in
theorem none_calls {w : World} {p bF bL nd hd : Nat} {c : Nat → Nat} {l : Nat → Int} (H : LkAt w p bF bL nd hd c l) :
    Calls Try.prog 83 #[.pointer (some ⟨p, 0, none⟩)] w fun e w' => e = .returned (.bool false) ∧ w = w' := by
  obtain ⟨⟨cF, cL, h0⟩, hF, hL, n1, n2, n3, b1, b2⟩ := H
  have hc1 := cell_at h0 (o := 0) rfl
  clear h0 hF hL
  go_enter Try.func83, Try.ntmps83
  go_wp2
  go_ret
  exact ⟨rfl, rfl⟩

set_option maxHeartbeats 400000 in
theorem list_calls {w : World} {p bF bL nd hd : Nat} {c : Nat → Nat} {l : Nat → Int} (H : LkAt w p bF bL nd hd c l) (h : Nat) (hh : h < hd) :
    Calls Try.prog 78 #[.pointer (some ⟨p, 0, none⟩), .int .i64 h] w fun e w' => e = .returned (.int .i64 0) ∧ w = w' := by
  have H' := H
  obtain ⟨⟨cF, cL, h0⟩, hF, hL, n1, n2, n3, b1, b2⟩ := H
  have hc1 := cell_at h0 (o := 2) rfl
  clear h0 hF hL
  go_enter Try.func78, Try.ntmps78
  go_wp2_with (go_at_call 83; refine (none_calls H').mono ?_; rintro e w' ⟨rfl, rfl⟩)
  go_ret
  exact ⟨rfl, rfl⟩

set_option maxHeartbeats 400000 in
theorem node_ok {w : World} {p bF bL nd hd : Nat} {c : Nat → Nat} {l : Nat → Int} (H : LkAt w p bF bL nd hd c l) (n : Nat) (hn : n < nd) :
    Calls Try.prog 81 #[.pointer (some ⟨p, 0, none⟩), .int .u32 n] w fun e w' => e = .returned (.int .i64 0) ∧ w = w' := by
  have H' := H
  obtain ⟨⟨cF, cL, h0⟩, hF, hL, n1, n2, n3, b1, b2⟩ := H
  have hc1 := cell_at h0 (o := 1) rfl
  clear h0 hF hL
  go_enter Try.func81, Try.ntmps81
  go_wp2_with (go_at_call 83; refine (none_calls H').mono ?_; rintro e w' ⟨rfl, rfl⟩)
  go_ret
  exact ⟨rfl, rfl⟩

set_option maxHeartbeats 400000 in
theorem node_arg {w : World} {p bF bL nd hd : Nat} {c : Nat → Nat} {l : Nat → Int} (H : LkAt w p bF bL nd hd c l) (n : Nat) (hn : nd ≤ n) (hn2 : n < 4294967296) :
    Calls Try.prog 81 #[.pointer (some ⟨p, 0, none⟩), .int .u32 n] w fun e w' => e = .returned (.int .i64 2) ∧ w = w' := by
  have H' := H
  obtain ⟨⟨cF, cL, h0⟩, hF, hL, n1, n2, n3, b1, b2⟩ := H
  have hc1 := cell_at h0 (o := 1) rfl
  clear h0 hF hL
  go_enter Try.func81, Try.ntmps81
  go_wp2_with (go_at_call 83; refine (none_calls H').mono ?_; rintro e w' ⟨rfl, rfl⟩)
  go_ret
  exact ⟨rfl, rfl⟩

set_option maxHeartbeats 400000 in
theorem in_ok {w : World} {p bF bL nd hd : Nat} {c : Nat → Nat} {l : Nat → Int} (H : LkAt w p bF bL nd hd c l) (n : Nat) (hn : n < nd) (hc : c (n * 3 + 2) ≠ 0) :
    Calls Try.prog 65 #[.pointer (some ⟨p, 0, none⟩), .int .u32 n] w fun e w' => e = .returned (.int .i64 0) ∧ w = w' := by
  have H' := H
  obtain ⟨⟨cF, cL, h0⟩, hF, hL, n1, n2, n3, b1, b2⟩ := H
  have hc1 := cell_at h0 (o := 0) rfl
  have hc2 := hF.cell (o := n * 3 + 2) (by omega)
  have hb : ((c (n * 3 + 2) : Int) == 0) = false := by simpa using hc
  clear h0 hF hL hc
  go_enter Try.func65, Try.ntmps65
  go_wp2_with (go_at_call 81; refine (node_ok H' n hn).mono ?_; rintro e w' ⟨rfl, rfl⟩)
  go_ret
  exact ⟨rfl, rfl⟩

set_option maxHeartbeats 400000 in
theorem in_none {w : World} {p bF bL nd hd : Nat} {c : Nat → Nat} {l : Nat → Int} (H : LkAt w p bF bL nd hd c l) (n : Nat) (hn : n < nd) (hc : c (n * 3 + 2) = 0) :
    Calls Try.prog 65 #[.pointer (some ⟨p, 0, none⟩), .int .u32 n] w fun e w' => e = .returned (.int .i64 9) ∧ w = w' := by
  have H' := H
  obtain ⟨⟨cF, cL, h0⟩, hF, hL, n1, n2, n3, b1, b2⟩ := H
  have hc1 := cell_at h0 (o := 0) rfl
  have hc2 := hF.cell (o := n * 3 + 2) (by omega)
  rw [hc] at hc2
  clear h0 hF hL hc
  go_enter Try.func65, Try.ntmps65
  go_wp2_with (go_at_call 81; refine (node_ok H' n hn).mono ?_; rintro e w' ⟨rfl, rfl⟩)
  go_ret
  exact ⟨rfl, rfl⟩

set_option maxHeartbeats 400000 in
theorem in_arg {w : World} {p bF bL nd hd : Nat} {c : Nat → Nat} {l : Nat → Int} (H : LkAt w p bF bL nd hd c l) (n : Nat) (hn : nd ≤ n) (hn2 : n < 4294967296) :
    Calls Try.prog 65 #[.pointer (some ⟨p, 0, none⟩), .int .u32 n] w fun e w' => e = .returned (.int .i64 2) ∧ w = w' := by
  go_enter Try.func65, Try.ntmps65
  go_wp2_with (go_at_call 81; refine (node_arg H n hn hn2).mono ?_; rintro e w' ⟨rfl, rfl⟩)
  go_ret
  exact ⟨rfl, rfl⟩

set_option maxHeartbeats 400000 in
theorem real_ok {w : World} {p bF bL nd hd : Nat} {c : Nat → Nat} {l : Nat → Int} (H : LkAt w p bF bL nd hd c l) (n : Nat) (hn : n < nd) :
    Calls Try.prog 85 #[.pointer (some ⟨p, 0, none⟩), .int .u32 n] w fun e w' => e = .returned (.tuple #[.int .u32 n, .int .i64 0]) ∧ w = w' := by
  obtain ⟨⟨cF, cL, h0⟩, hF, hL, n1, n2, n3, b1, b2⟩ := H
  have hc1 := cell_at h0 (o := 1) rfl
  clear h0 hF hL
  go_enter Try.func85, Try.ntmps85
  go_wp2
  go_ret2
  exact ⟨rfl, rfl⟩

set_option maxHeartbeats 400000 in
theorem real_none {w : World} {p bF bL nd hd : Nat} {c : Nat → Nat} {l : Nat → Int} (H : LkAt w p bF bL nd hd c l) (n : Nat) (hn : nd ≤ n) (hn2 : n < 4294967296) :
    Calls Try.prog 85 #[.pointer (some ⟨p, 0, none⟩), .int .u32 n] w fun e w' => e = .returned (.tuple #[.int .u32 0, .int .i64 9]) ∧ w = w' := by
  obtain ⟨⟨cF, cL, h0⟩, hF, hL, n1, n2, n3, b1, b2⟩ := H
  have hc1 := cell_at h0 (o := 1) rfl
  clear h0 hF hL
  go_enter Try.func85, Try.ntmps85
  go_wp2
  go_ret2
  exact ⟨rfl, rfl⟩

set_option maxHeartbeats 400000 in
theorem nodes_calls {w : World} {p bF bL nd hd : Nat} {c : Nat → Nat} {l : Nat → Int} (H : LkAt w p bF bL nd hd c l) :
    Calls Try.prog 68 #[.pointer (some ⟨p, 0, none⟩)] w fun e w' => e = .returned (.int .i64 nd) ∧ w = w' := by
  have H' := H
  obtain ⟨⟨cF, cL, h0⟩, hF, hL, n1, n2, n3, b1, b2⟩ := H
  have hc1 := cell_at h0 (o := 1) rfl
  clear h0 hF hL
  go_enter Try.func68, Try.ntmps68
  go_wp2_with (go_at_call 83; refine (none_calls H').mono ?_; rintro e w' ⟨rfl, rfl⟩)
  go_ret
  exact ⟨rfl, rfl⟩

set_option maxHeartbeats 400000 in
theorem lkLen_calls {w : World} {p bF bL nd hd : Nat} {c : Nat → Nat} {l : Nat → Int} (H : LkAt w p bF bL nd hd c l) (h : Nat) (hh : h < hd) :
    Calls Try.prog 60 #[.pointer (some ⟨p, 0, none⟩), .int .i64 h] w fun e w' => e = .returned (.int .i64 (l h)) ∧ w = w' := by
  have H' := H
  obtain ⟨⟨cF, cL, h0⟩, hF, hL, n1, n2, n3, b1, b2⟩ := H
  have hc1 := cell_at h0 (o := 2) rfl
  have hc2 := hL.cell hh
  clear h0 hF hL
  go_enter Try.func60, Try.ntmps60
  go_wp2_with (go_at_call 78; refine (list_calls H' h hh).mono ?_; rintro e w' ⟨rfl, rfl⟩)
  go_ret
  exact ⟨rfl, rfl⟩

set_option maxHeartbeats 400000 in
theorem of_ok {w : World} {p bF bL nd hd : Nat} {c : Nat → Nat} {l : Nat → Int} (H : LkAt w p bF bL nd hd c l) (n : Nat) (hn : n < nd) (hc : 1 ≤ c (n * 3 + 2)) (hc' : c (n * 3 + 2) ≤ hd) :
    Calls Try.prog 45 #[.pointer (some ⟨p, 0, none⟩), .int .u32 n] w fun e w' => e = .returned (.tuple #[.int .i64 ((c (n * 3 + 2) : Int) - 1), .int .i64 0]) ∧ w = w' := by
  have H' := H
  obtain ⟨⟨cF, cL, h0⟩, hF, hL, n1, n2, n3, b1, b2⟩ := H
  have hc1 := cell_at h0 (o := 0) rfl
  have hc2 := hF.cell (o := n * 3 + 2) (by omega)
  clear h0 hF hL
  go_enter Try.func45, Try.ntmps45
  go_wp2_with (go_at_call 65; refine (in_ok H' n hn (by omega)).mono ?_; rintro e w' ⟨rfl, rfl⟩)
  go_ret2
  exact ⟨rfl, rfl⟩

set_option maxHeartbeats 400000 in
theorem of_none {w : World} {p bF bL nd hd : Nat} {c : Nat → Nat} {l : Nat → Int} (H : LkAt w p bF bL nd hd c l) (n : Nat) (hn : n < nd) (hc : c (n * 3 + 2) = 0) :
    Calls Try.prog 45 #[.pointer (some ⟨p, 0, none⟩), .int .u32 n] w fun e w' => e = .returned (.tuple #[.int .i64 0, .int .i64 9]) ∧ w = w' := by
  have Hc := Lib.hid hc
  clear hc
  go_enter Try.func45, Try.ntmps45
  go_wp2_with (go_at_call 65; refine (in_none H n hn Hc.out).mono ?_; rintro e w' ⟨rfl, rfl⟩)
  go_ret2
  exact ⟨rfl, rfl⟩

set_option maxHeartbeats 400000 in
theorem of_arg {w : World} {p bF bL nd hd : Nat} {c : Nat → Nat} {l : Nat → Int} (H : LkAt w p bF bL nd hd c l) (n : Nat) (hn : nd ≤ n) (hn2 : n < 4294967296) :
    Calls Try.prog 45 #[.pointer (some ⟨p, 0, none⟩), .int .u32 n] w fun e w' => e = .returned (.tuple #[.int .i64 0, .int .i64 2]) ∧ w = w' := by
  go_enter Try.func45, Try.ntmps45
  go_wp2_with (go_at_call 65; refine (in_arg H n hn hn2).mono ?_; rintro e w' ⟨rfl, rfl⟩)
  go_ret2
  exact ⟨rfl, rfl⟩
end Go.Proofs.Ytogidmjilbpacaa
