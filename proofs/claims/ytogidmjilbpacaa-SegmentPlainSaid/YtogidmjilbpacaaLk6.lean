/- Layer 14: all. -/
import Derived.Test.YtogidmjilbpacaaLk5
import Derived.Deep.LoopGhost
namespace Go.Proofs.Ytogidmjilbpacaa
open Go.RowKit Go.Cub

set_option maxHeartbeats 1000000 in
theorem all_calls {w : World} {p bF bL nd hd : Nat} {L : Nat → List Nat} (H : Lk w p bF bL nd hd L) (h : Nat) (hh : h < hd) :
    Calls Try.prog 71 #[.pointer (some ⟨p, 0, none⟩), .int .i64 h] w (GivesU w (L h)) := by
  obtain ⟨c, l, H, R⟩ := H
  have H' := H
  obtain ⟨⟨cF, cL, h0⟩, hF, hL, n1, n2, n3, b1, b2⟩ := H
  have hc0 := cell_at h0 (o := 0) rfl
  obtain ⟨o, ho⟩ : ∃ o, o = nd + h := ⟨_, rfl⟩
  have g3 := hF.cell (o := o * 3 + 1) (by omega)
  have hx : c (o * 3 + 1) = nth (L h) 0 o := by rw [ho]; exact R.first hh
  have ho2 : o < nd + hd := by omega
  have Ho := Lib.hid ho
  have Hx := Lib.hid hx
  have hle := R.len_le hh
  obtain ⟨i0, hi, hz0, hz1, hz2⟩ := info_parts info_u32
  clear h0 hF hL ho hx
  go_enter Try.func71, Try.ntmps71
  go_wp2_with (first
    | (go_at_call 78; refine (list_calls H' h hh).mono ?_; rintro e w' ⟨rfl, rfl⟩)
    | (go_at_call 64; refine (ring_calls H' h hh o Ho.out).mono ?_; rintro e w' ⟨rfl, rfl⟩))
  go_loopg [6, 7] (L h).length (fun m v n wr => ∃ k, k + m = (L h).length ∧ n = .int .u32 (nth (L h) k o : Nat) ∧ SlU wr w.heap.size v ((L h).take k) ∧ Frm (fun _ => False) w wr)
  case atStart => exact ⟨0, by omega, by rw [Hx.out], World.ownsRow_nil _ _ _ _, Frm.refl _ _⟩
  case round =>
    obtain ⟨k, hk, rfl, hown, hfr⟩ := hrel
    have Hr : LkAt wr p bF bL nd hd c l := H'.frm hfr id id id
    obtain ⟨⟨cF1, cL1, h0⟩, hF, hL, -, -, -, -, -⟩ := id Hr
    have hc0 := cell_at h0 (o := 0) rfl
    have hsz := hfr.size
    obtain ⟨x, hx⟩ : ∃ x, x = nth (L h) k o := ⟨_, rfl⟩
    rw [← hx]
    rcases Nat.lt_or_ge k (L h).length with hlt | hge
    · have hn := R.nextAt hh hlt
      rw [← Ho.out, ← hx] at hn
      have hxe : x = (L h)[k] := by rw [hx, nth_lt _ hlt]
      have hxn : x < nd := by rw [hxe]; exact R.lt h hh _ (List.getElem_mem hlt)
      have g1 := hF.cell (o := x * 3 + 1) (by omega)
      have ne : ((x : Int) != (o : Int)) = true := by have := Ho.out; rw [bne_iff_ne]; omega
      have ht : (L h).take (k + 1) = (L h).take k ++ [x] := by rw [hxe, List.take_succ_eq_append_getElem hlt]
      have hlen : ((L h).take k).length = k := by simp; omega
      generalize (L h).take k = tk at hown ht hlen
      have Hn := Lib.hid hn
      have Ht := Lib.hid ht
      have Hl := Lib.hid hlen
      clear hx hn ht hxe h0 hF hL hlen
      go_wp2_with (at_builtin; refine wpList_append_own _ rfl _ _ 38 rfl w.heap.size 34 i0 (.int .u32 0) 1 4 Try.underlying38 hi hz0 hz1 hz2 rfl (by decide) _ _ _ rfl (hown.alloc _) ⟨wr.heap.size, 0, none⟩ 1 1 [.int .u32 x] rfl rfl (one_cell_at) (one_cell_u x) (by rw [Hl.out]; unfold maxLen; omega) (by rw [Hl.out]; omega) (by simp; omega) ?_)
      intro v' w1 hown' hgrow _
      have F1 : Frm (fun _ => False) w w1 := frm_app hfr hown hgrow (fun b h1 h2 => absurd h1 (by omega))
      have O1 := SlU.snoc hown'
      clear hown' hgrow hown hfr hc0 g1 Hr
      have Hr : LkAt w1 p bF bL nd hd c l := H'.frm F1 id id id
      obtain ⟨⟨cF1, cL1, h0⟩, hF, hL, -, -, -, -, -⟩ := id Hr
      have hc0 := cell_at h0 (o := 0) rfl
      have g1 := hF.cell (o := x * 3 + 1) (by omega)
      rw [Hn.out] at g1
      clear h0 hF hL
      go_wp2
      go_roundg ((L h).length - (k + 1))
      case measure => omega
      case rel => exact ⟨k + 1, by omega, rfl, by rw [Ht.out]; exact O1, F1⟩
    · have he : x = o := by rw [hx, nth_ge _ hge]
      have ne : ((x : Int) != (o : Int)) = false := by rw [he]; simp
      have ht : (L h).take k = L h := List.take_of_length_le hge
      rw [ht] at hown
      clear hx h0 hF hL he ht
      go_wp2
      go_ret
      exact ⟨_, rfl, hown, hfr⟩
end Go.Proofs.Ytogidmjilbpacaa
