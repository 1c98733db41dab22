/- Layer 14: the functions, said of lists. -/
import Derived.Test.YtogidmjilbpacaaLk2
import Derived.Test.YtogidmjilbpacaaLk3
namespace Go.Proofs.Ytogidmjilbpacaa
open Go.RowKit Go.Cub

/-- A field of nd nodes and hd lists at p (blocks p, bF, bL): the lists. -/
def Lk (w : World) (p bF bL nd hd : Nat) (L : Nat → List Nat) : Prop := ∃ c l, LkAt w p bF bL nd hd c l ∧ Rng nd hd c l L

section
variable {w w1 : World} {p bF bL nd hd : Nat} {L : Nat → List Nat}
theorem Lk.frm {S : Nat → Prop} (h : Lk w p bF bL nd hd L) (hf : Frm S w w1) (h1 : ¬ S p) (h2 : ¬ S bF) (h3 : ¬ S bL) : Lk w1 p bF bL nd hd L := by
  obtain ⟨c, l, H, R⟩ := h
  exact ⟨c, l, H.frm hf h1 h2 h3, R⟩
theorem Lk.lt (h : Lk w p bF bL nd hd L) : p < w.heap.size ∧ bF < w.heap.size ∧ bL < w.heap.size ∧ p ≠ bF ∧ p ≠ bL ∧ bF ≠ bL ∧ nd ≤ 4194304 ∧ hd ≤ 4096 := by
  obtain ⟨c, l, ⟨⟨_, _, h0⟩, hF, hL, n1, n2, n3, b1, b2⟩, R⟩ := h
  exact ⟨lt_of_some h0, hF.lt, hL.lt, n1, n2, n3, b1, b2⟩
theorem Lk.mem (h : Lk w p bF bL nd hd L) {i : Nat} (hi : i < hd) : (∀ x ∈ L i, x < nd) ∧ (L i).Nodup ∧ (L i).length ≤ nd := by
  obtain ⟨c, l, _, R⟩ := h
  exact ⟨R.lt i hi, R.nodup i hi, R.len_le hi⟩
theorem Lk.apart (h : Lk w p bF bL nd hd L) {i j : Nat} (hi : i < hd) (hj : j < hd) {x : Nat} (h1 : x ∈ L i) (h2 : x ∈ L j) : i = j := by
  obtain ⟨c, l, _, R⟩ := h
  exact R.apart i j hi hj x h1 h2
theorem Lk.congr {L' : Nat → List Nat} (h : Lk w p bF bL nd hd L) (he : ∀ i, i < hd → L i = L' i) : Lk w p bF bL nd hd L' := by
  obtain ⟨c, l, H, R⟩ := h
  refine ⟨c, l, H, fun i hi => ?_, fun i hi => ?_, fun i j hi hj x h1 h2 => ?_, fun i hi => ?_, fun i hi => ?_, fun x hx hf => ?_, R.ring, fun i hi => ?_⟩
  · rw [← he i hi]; exact R.lt i hi
  · rw [← he i hi]; exact R.nodup i hi
  · rw [← he i hi] at h1; rw [← he j hj] at h2; exact R.apart i j hi hj x h1 h2
  · rw [← he i hi]; exact R.len i hi
  · rw [← he i hi]; exact R.own i hi
  · exact R.free x hx fun i hi => by rw [he i hi]; exact hf i hi
  · rw [← he i hi]; exact R.chain i hi
end

set_option maxHeartbeats 1000000 in
theorem add_back {w : World} {p bF bL nd hd : Nat} {L : Nat → List Nat} (H : Lk w p bF bL nd hd L) (h n : Nat) (hh : h < hd) (hn : n < nd) (hf : ∀ i, i < hd → n ∉ L i) :
    Calls Try.prog 67 #[.pointer (some ⟨p, 0, none⟩), .int .i64 h, .int .u32 n, .bool false] w
      fun e w' => e = .returned (.int .i64 0) ∧ Lk w' p bF bL nd hd (upd L h (L h ++ [n])) ∧ Frm (fun b => b = bF ∨ b = bL) w w' := by
  obtain ⟨c, l, H, R⟩ := H
  have H' := H
  obtain ⟨⟨cF, cL, h0⟩, hF, hL, n1, n2, n3, b1, b2⟩ := H
  have hc0 := cell_at h0 (o := 0) rfl
  have g2 := hF.cell (o := n * 3 + 2) (by omega)
  rw [R.free n hn hf] at g2
  obtain ⟨o, ho⟩ : ∃ o, o = nd + h := ⟨_, rfl⟩
  have p1 : c (o * 3) < nd + hd := by
    rw [ho, R.prev_ring hh]; exact getLastD_lt (fun x hx => by have := R.lt h hh x hx; omega) (by omega)
  have p2 : c (o * 3 + 2) = h + 1 := by rw [ho]; exact R.ring h hh
  have p3 := R.len h hh
  have p4 := R.len_le hh
  have Hput := fun w0 (hw : LkAt w0 p bF bL nd hd c l) => put_calls hw n o hn (by omega) p1 (by omega) (by omega) (by rw [p2, Nat.add_sub_cancel, p3]; omega) (by rw [p2, Nat.add_sub_cancel, p3]; omega)
  have Rb := R.back hh hn hf
  rw [← ho] at Rb
  have Ho := Lib.hid ho
  clear h0 hF hL ho p1 p2 p3 p4 R
  go_enter Try.func67, Try.ntmps67
  go_wp2_with (first
    | (go_at_call 78; refine (list_calls H' h hh).mono ?_; rintro e w' ⟨rfl, rfl⟩)
    | (go_at_call 81; refine (node_ok H' n hn).mono ?_; rintro e w' ⟨rfl, rfl⟩)
    | (go_at_call 64; refine (ring_calls H' h hh o Ho.out).mono ?_; rintro e w' ⟨rfl, rfl⟩)
    | (go_at_call 82; refine (Hput _ H').mono ?_; rintro e w' ⟨rfl, H2, R2⟩))
  go_ret
  exact ⟨rfl, ⟨_, _, H2, Rb⟩, R2⟩

set_option maxHeartbeats 1000000 in
theorem add_front {w : World} {p bF bL nd hd : Nat} {L : Nat → List Nat} (H : Lk w p bF bL nd hd L) (h n : Nat) (hh : h < hd) (hn : n < nd) (hf : ∀ i, i < hd → n ∉ L i) :
    Calls Try.prog 67 #[.pointer (some ⟨p, 0, none⟩), .int .i64 h, .int .u32 n, .bool true] w
      fun e w' => e = .returned (.int .i64 0) ∧ Lk w' p bF bL nd hd (upd L h (n :: L h)) ∧ Frm (fun b => b = bF ∨ b = bL) w w' := by
  obtain ⟨c, l, H, R⟩ := H
  have H' := H
  obtain ⟨⟨cF, cL, h0⟩, hF, hL, n1, n2, n3, b1, b2⟩ := H
  have hc0 := cell_at h0 (o := 0) rfl
  have g2 := hF.cell (o := n * 3 + 2) (by omega)
  rw [R.free n hn hf] at g2
  obtain ⟨r, hr⟩ : ∃ r, r = nd + h := ⟨_, rfl⟩
  have g3 := hF.cell (o := r * 3 + 1) (by omega)
  have Rb := R.front hh hn hf
  obtain ⟨o, ho⟩ : ∃ o, o = c (r * 3 + 1) := ⟨_, rfl⟩
  rw [← hr, ← ho] at Rb
  rw [← ho] at g3
  have q0 : o < nd + hd := by rw [ho, hr, R.next_ring hh]; exact headD_lt (fun x hx => by have := R.lt h hh x hx; omega) (by omega)
  have q1 : r < nd + hd := by omega
  have p12 : c (o * 3) < nd + hd ∧ c (o * 3 + 2) = h + 1 := by
    rw [ho, hr, R.next_ring hh]
    cases hL : L h with
    | nil =>
      refine ⟨?_, R.ring h hh⟩
      show c ((nd + h) * 3) < _
      rw [R.prev_ring hh]; exact getLastD_lt (fun x hx => by have := R.lt h hh x hx; omega) (by omega)
    | cons y ys =>
      have hat := R.at hh (ys := []) (x := y) (zs := ys) hL
      exact ⟨by show c (y * 3) < _; rw [hat.1]; simp; omega, hat.2.2⟩
  obtain ⟨p1, p2⟩ := p12
  have p3 := R.len h hh
  have p4 := R.len_le hh
  have Hput := fun w0 (hw : LkAt w0 p bF bL nd hd c l) => put_calls hw n o hn (by omega) p1 (by omega) (by omega) (by rw [p2, Nat.add_sub_cancel, p3]; omega) (by rw [p2, Nat.add_sub_cancel, p3]; omega)
  have Ho := Lib.hid hr
  clear h0 hF hL ho hr p1 p2 p3 p4 R
  go_enter Try.func67, Try.ntmps67
  go_wp2_with (first
    | (go_at_call 78; refine (list_calls H' h hh).mono ?_; rintro e w' ⟨rfl, rfl⟩)
    | (go_at_call 81; refine (node_ok H' n hn).mono ?_; rintro e w' ⟨rfl, rfl⟩)
    | (go_at_call 64; refine (ring_calls H' h hh r Ho.out).mono ?_; rintro e w' ⟨rfl, rfl⟩)
    | (go_at_call 82; refine (Hput _ H').mono ?_; rintro e w' ⟨rfl, H2, R2⟩))
  go_ret
  exact ⟨rfl, ⟨_, _, H2, Rb⟩, R2⟩

set_option maxHeartbeats 1000000 in
theorem add_busy {w : World} {p bF bL nd hd : Nat} {L : Nat → List Nat} (H : Lk w p bF bL nd hd L) (h n i : Nat) (f : Bool) (hh : h < hd) (hn : n < nd) (hi : i < hd) (hf : n ∈ L i) :
    Calls Try.prog 67 #[.pointer (some ⟨p, 0, none⟩), .int .i64 h, .int .u32 n, .bool f] w fun e w' => e = .returned (.int .i64 11) ∧ w = w' := by
  obtain ⟨c, l, H, R⟩ := H
  have H' := H
  obtain ⟨⟨cF, cL, h0⟩, hF, hL, n1, n2, n3, b1, b2⟩ := H
  have hc0 := cell_at h0 (o := 0) rfl
  have g2 := hF.cell (o := n * 3 + 2) (by omega)
  have hne : ((c (n * 3 + 2) : Int) == 0) = false := by rw [R.own i hi n hf]; simp; omega
  have hne' : ((c (n * 3 + 2) : Int) != 0) = true := by simp [bne, hne]
  clear h0 hF hL R
  go_enter Try.func67, Try.ntmps67
  go_wp2_with (first
    | (go_at_call 78; refine (list_calls H' h hh).mono ?_; rintro e w' ⟨rfl, rfl⟩)
    | (go_at_call 81; refine (node_ok H' n hn).mono ?_; rintro e w' ⟨rfl, rfl⟩))
  go_ret
  exact ⟨rfl, rfl⟩

set_option maxHeartbeats 400000 in
theorem back_calls {w : World} {p bF bL nd hd : Nat} {L : Nat → List Nat} (H : Lk w p bF bL nd hd L) (h n : Nat) (hh : h < hd) (hn : n < nd) (hf : ∀ i, i < hd → n ∉ L i) :
    Calls Try.prog 47 #[.pointer (some ⟨p, 0, none⟩), .int .i64 h, .int .u32 n] w
      fun e w' => e = .returned (.int .i64 0) ∧ Lk w' p bF bL nd hd (upd L h (L h ++ [n])) ∧ Frm (fun b => b = bF ∨ b = bL) w w' := by
  have Hf := Lib.hid hf
  clear hf
  go_enter Try.func47, Try.ntmps47
  go_wp2_with (go_at_call 67; refine (add_back H h n hh hn Hf.out).mono ?_; rintro e w' ⟨rfl, H2, R2⟩)
  go_ret
  exact ⟨rfl, H2, R2⟩

set_option maxHeartbeats 400000 in
theorem back_busy {w : World} {p bF bL nd hd : Nat} {L : Nat → List Nat} (H : Lk w p bF bL nd hd L) (h n i : Nat) (hh : h < hd) (hn : n < nd) (hi : i < hd) (hf : n ∈ L i) :
    Calls Try.prog 47 #[.pointer (some ⟨p, 0, none⟩), .int .i64 h, .int .u32 n] w fun e w' => e = .returned (.int .i64 11) ∧ w = w' := by
  go_enter Try.func47, Try.ntmps47
  go_wp2_with (go_at_call 67; refine (add_busy H h n i false hh hn hi hf).mono ?_; rintro e w' ⟨rfl, rfl⟩)
  go_ret
  exact ⟨rfl, rfl⟩

theorem lkRemove_calls {w : World} {p bF bL nd hd : Nat} {L : Nat → List Nat} (H : Lk w p bF bL nd hd L) (h n : Nat) (hh : h < hd) (hm : n ∈ L h) :
    Calls Try.prog 66 #[.pointer (some ⟨p, 0, none⟩), .int .u32 n] w
      fun e w' => e = .returned (.int .i64 0) ∧ Lk w' p bF bL nd hd (upd L h ((L h).erase n)) ∧ Frm (fun b => b = bF ∨ b = bL) w w' := by
  obtain ⟨c, l, H, R⟩ := H
  obtain ⟨ys, zs, e⟩ := List.append_of_mem hm
  have hat := R.at hh e
  have hlt := R.lt h hh
  have hlen := R.len h hh
  have hle := R.len_le hh
  have hpos : 0 < (L h).length := List.length_pos_of_mem hm
  have hsub : ∀ x, x ∈ ys ∨ x ∈ zs → x < nd := fun x hx => hlt x (by rw [e]; rcases hx with hx | hx <;> simp [hx])
  refine (remove_calls H n (hlt n hm) ?_ ?_ (by omega) (by omega) (by rw [hat.2.2, Nat.add_sub_cancel, hlen]; omega) (by rw [hat.2.2, Nat.add_sub_cancel, hlen]; have := H.ndLe; omega)).mono ?_
  · rw [hat.1]; exact getLastD_lt (fun x hx => by have := hsub x (.inl hx); omega) (by omega)
  · rw [hat.2.1]; exact headD_lt (fun x hx => by have := hsub x (.inr hx); omega) (by omega)
  · rintro e w' ⟨he, H2, R2⟩
    exact ⟨he, ⟨_, _, H2, R.remove hh hm⟩, R2⟩

theorem lkLen {w : World} {p bF bL nd hd : Nat} {L : Nat → List Nat} (H : Lk w p bF bL nd hd L) (h : Nat) (hh : h < hd) :
    Calls Try.prog 60 #[.pointer (some ⟨p, 0, none⟩), .int .i64 h] w fun e w' => e = .returned (.int .i64 ((L h).length : Int)) ∧ w = w' := by
  obtain ⟨c, l, H, R⟩ := H
  have := lkLen_calls H h hh
  rw [R.len h hh] at this
  exact this

theorem lkNodes {w : World} {p bF bL nd hd : Nat} {L : Nat → List Nat} (H : Lk w p bF bL nd hd L) :
    Calls Try.prog 68 #[.pointer (some ⟨p, 0, none⟩)] w fun e w' => e = .returned (.int .i64 nd) ∧ w = w' := by
  obtain ⟨c, l, H, R⟩ := H
  exact nodes_calls H

theorem lkOf_in {w : World} {p bF bL nd hd : Nat} {L : Nat → List Nat} (H : Lk w p bF bL nd hd L) (h n : Nat) (hh : h < hd) (hm : n ∈ L h) :
    Calls Try.prog 45 #[.pointer (some ⟨p, 0, none⟩), .int .u32 n] w fun e w' => e = .returned (.tuple #[.int .i64 h, .int .i64 0]) ∧ w = w' := by
  obtain ⟨c, l, H, R⟩ := H
  have ho := R.own h hh n hm
  have := of_ok H n (R.lt h hh n hm) (by omega) (by omega)
  rw [ho] at this
  simpa using this

theorem lkOf_not {w : World} {p bF bL nd hd : Nat} {L : Nat → List Nat} (H : Lk w p bF bL nd hd L) (n : Nat) (hn : n < nd) (hf : ∀ i, i < hd → n ∉ L i) :
    Calls Try.prog 45 #[.pointer (some ⟨p, 0, none⟩), .int .u32 n] w fun e w' => e = .returned (.tuple #[.int .i64 0, .int .i64 9]) ∧ w = w' := by
  obtain ⟨c, l, H, R⟩ := H
  exact of_none H n hn (R.free n hn hf)

theorem lkOf_arg {w : World} {p bF bL nd hd : Nat} {L : Nat → List Nat} (H : Lk w p bF bL nd hd L) (n : Nat) (hn : nd ≤ n) (hn2 : n < 4294967296) :
    Calls Try.prog 45 #[.pointer (some ⟨p, 0, none⟩), .int .u32 n] w fun e w' => e = .returned (.tuple #[.int .i64 0, .int .i64 2]) ∧ w = w' := by
  obtain ⟨c, l, H, R⟩ := H
  exact of_arg H n hn hn2
end Go.Proofs.Ytogidmjilbpacaa
