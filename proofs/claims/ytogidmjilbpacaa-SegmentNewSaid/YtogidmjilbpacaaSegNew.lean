/- SegmentNew: a new order, or the error. -/
import Derived.Test.YtogidmjilbpacaaSegIs
import Derived.Test.YtogidmjilbpacaaSegKnown
namespace Go.Proofs.Ytogidmjilbpacaa
open Go.RowKit Go.Cub

set_option maxRecDepth 100000 in
set_option maxHeartbeats 4000000 in
theorem segmentNew_calls {w : World} (lim : Int) : Calls Try.prog 3 #[.int .i64 lim] w (TrueSame w) := by
  by_cases h : -1 ≤ lim ∧ lim ≤ 1099511627776
  · have HR : ∀ W, Calls Try.prog 9 #[.int .i64 lim] W (RNewPost W lim true) := fun W => by have := refNew_calls (w := W) lim; rwa [decide_eq_true h] at this
    have HR := Lib.hid HR
    have Hl := Lib.hid h
    clear h
    go_enter Try.func3, Try.ntmps3
    go_wp2_with (go_at_call 8; refine (segNew_calls lim Hl.out).mono ?_)
    rintro e w1 ⟨p, fp, rfl, hF, hge, hf1⟩
    have HF := Lib.hid hF
    have Hf1 := Lib.hid hf1
    clear hF hge hf1
    go_wp2_with (go_at_call 9; refine (HR.out _).mono ?_)
    rintro e w2 ⟨o, rfl, hO, hf2⟩
    have HO' := Lib.hid hO
    obtain ⟨v0, v1, rfl, H0, H1⟩ := hO
    have HF2 := Lib.hid (HF.out.frm hf2 (fun _ _ h => h))
    have Hf2 := Lib.hid (Hf1.out.trans hf2 (fun _ _ h => h))
    obtain ⟨a0, c0, rfl, -⟩ := H0
    obtain ⟨a1, c1, rfl, -⟩ := H1
    clear hf2
    go_wp2_with (go_at_call 11; refine (is_calls (HF2.out.frm ((Frm.refl (fun _ => False) w2).alloc _) (fun _ _ h => h)) (HO'.out.frm ((Frm.refl (fun _ => False) w2).alloc _) (fun _ _ h => h)) 0).mono ?_)
    rintro e w3 ⟨rfl, hf3⟩
    have Hf3 := Lib.hid ((Hf2.out.alloc _).trans hf3 (fun _ _ h => h))
    clear hf3
    go_wp2_with (go_at_call 10; refine known_calls.mono ?_)
    rintro e w4 ⟨rfl, hf4⟩
    go_wp2
    go_ret
    exact ⟨rfl, Hf3.out.trans hf4 (fun _ _ h => h)⟩
  · have HR : ∀ W, Calls Try.prog 9 #[.int .i64 lim] W (RNewPost W lim false) := fun W => by have := refNew_calls (w := W) lim; rwa [decide_eq_false h] at this
    have HR := Lib.hid HR
    have Hl := Lib.hid (show lim < -1 ∨ 1099511627776 < lim by omega)
    clear h
    go_enter Try.func3, Try.ntmps3
    go_wp2_with (first | (go_at_call 8; refine (segNew_arg lim Hl.out).mono ?_; rintro e w' ⟨rfl, rfl⟩) | (go_at_call 9; refine (HR.out _).mono ?_))
    rintro e w2 ⟨o, rfl, hO, hf2⟩
    obtain ⟨v0, v1, rfl, H0, H1⟩ := hO
    obtain ⟨a0, c0, rfl, -⟩ := H0
    obtain ⟨a1, c1, rfl, -⟩ := H1
    have Hf2 := Lib.hid hf2
    clear hf2
    go_wp2_with (go_at_call 10; refine known_calls.mono ?_)
    rintro e w4 ⟨rfl, hf4⟩
    go_wp2
    go_ret
    exact ⟨rfl, (Hf2.out.alloc _).trans hf4 (fun _ _ h => h)⟩
end Go.Proofs.Ytogidmjilbpacaa
