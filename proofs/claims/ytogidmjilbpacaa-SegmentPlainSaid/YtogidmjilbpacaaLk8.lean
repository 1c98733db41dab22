/- Layer 14: All hands back an iterator over a copy of the list. -/
import Derived.Test.YtogidmjilbpacaaLk7
namespace Go.Proofs.Ytogidmjilbpacaa
open Go.RowKit Go.Cub

/-- It returns an iterator over these numbers; nothing that was there has turned. -/
def GivesIt (w : World) (xs : List Nat) (e : Ending) (w' : World) : Prop :=
  ∃ X v, e = .returned (.func (.func 72) #[] #[.pointer (some ⟨X, 0, none⟩)]) ∧ ItAt w' w.heap.size X v xs ∧ Frm (fun _ => False) w w'

set_option maxHeartbeats 1000000 in
theorem All_calls {w : World} {p bF bL nd hd : Nat} {L : Nat → List Nat} (H : Lk w p bF bL nd hd L) (h : Nat) (hh : h < hd) :
    Calls Try.prog 51 #[.pointer (some ⟨p, 0, none⟩), .int .i64 h] w (GivesIt w (L h)) := by
  have hle := (H.mem hh).2.2
  have hnd := H.lt.2.2.2.2.2.2.1
  obtain ⟨i0, hi, hz0, hz1, hz2⟩ := info_parts info_u32
  go_enter Try.func51, Try.ntmps51
  go_wp2_with (go_at_call 71; refine (all_calls H h hh).mono ?_)
  rintro e w1 ⟨v0, rfl, hs0, hf0⟩
  have hsz := hf0.size
  generalize hxs : L h = xs at hs0 hle
  have Hx := Lib.hid hxs
  clear hxs
  rcases SlU.cases hs0 with ⟨hv, hx⟩ | ⟨b, cap, cur, hv, hb, hh', hcap, hsz', hcs⟩
  · subst hv; subst hx
    go_wp2
    go_ret
    rw [Hx.out]
    refine ⟨_, _, rfl, ⟨alloc_new _ _, World.ownsRow_nil _ _ _ _, hsz, fun b hb => by cases hb⟩, hf0.alloc _⟩
  · subst hv
    go_wp2_with (at_builtin; refine wpList_append_own _ rfl _ _ 38 rfl w.heap.size 34 i0 (.int .u32 0) 1 4 Try.underlying38 hi hz0 hz1 hz2 rfl (by decide) _ 0 [] rfl (World.ownsRow_nil _ _ _ _) ⟨b, 0, none⟩ xs.length cap (us xs) rfl (by rw [us_length]; omega) (us_cells hcs) (us_one xs) (by unfold maxLen; omega) (by omega) (by omega) ?_)
    intro v' w2 hown' hgrow _
    have hf2 : Frm (fun _ => False) w w2 := hf0.trans (T := fun _ => False) (Frm.grown hgrow (fun _ _ e => by cases e)) (fun _ _ e => e)
    have hsz2 := hf2.size
    have hs2 : SlU w2 w.heap.size v' xs := hown'
    clear hown' hgrow hs0 hf0 hh' hcs
    rcases SlU.cases hs2 with ⟨hv, hx⟩ | ⟨b2, cap2, cur2, hv, hb2, hh2, -, -, -⟩
    · subst hv
      go_wp2
      go_ret
      rw [Hx.out]
      exact ⟨_, _, rfl, ⟨alloc_new _ _, World.ownsRow.alloc hs2 _, hsz2, fun b hb => by cases hb⟩, hf2.alloc _⟩
    · subst hv
      have hlt := lt_of_some hh2
      go_wp2
      go_ret
      rw [Hx.out]
      exact ⟨_, _, rfl, ⟨alloc_new _ _, World.ownsRow.alloc hs2 _, hsz2, fun b hb => by cases hb; show b2 ≠ _; omega⟩, hf2.alloc _⟩
end Go.Proofs.Ytogidmjilbpacaa
