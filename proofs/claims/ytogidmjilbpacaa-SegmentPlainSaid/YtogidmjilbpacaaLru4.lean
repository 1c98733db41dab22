/- Layer 15: Oldest of a plain list. -/
import Derived.Test.YtogidmjilbpacaaLru3
import Derived.Test.YtogidmjilbpacaaLk5
namespace Go.Proofs.Ytogidmjilbpacaa
open Go.RowKit Go.Cub
section
variable {w : World} {q : Nat} {fp xs : List Nat}

theorem lruEnd_first {p bF bL nd : Nat} (H : LruB w q p bF bL nd xs) : Calls Try.prog 79 #[.pointer (some ⟨q, 0, none⟩), .func (.func 80) #[] #[]] w (fun e w' => e = .returned (.tuple #[.int .u32 (xs.headD 0 : Nat), .int .i64 (if xs = [] then 9 else 0)]) ∧ Frm (fun _ => False) w w') := by
  have hc := cell_at H.box (o := 0) rfl
  have F := first_calls H.lk 0 (by decide)
  generalize (List.headD xs 0) = a at F ⊢
  generalize (if xs = [] then (9 : Int) else 0) = b at F ⊢
  go_enter Try.func79, Try.ntmps79
  go_wp2_with (first | (go_at_call 44; refine (lruCheck_ok H.box 0 (by decide)).mono ?_; rintro e w' ⟨rfl, rfl⟩) | (go_at_call 80; refine F.mono ?_))
  rintro e w1 ⟨rfl, hf⟩
  go_wp2
  first | go_ret | go_ret2
  exact ⟨rfl, hf⟩

theorem lruOldest_calls (H : LruF w fp q xs) : Calls Try.prog 63 #[.pointer (some ⟨q, 0, none⟩)] w (fun e w' => e = .returned (.tuple #[.int .u32 (xs.headD 0 : Nat), .int .i64 (if xs = [] then 9 else 0)]) ∧ Frm (fun _ => False) w w') := by
  obtain ⟨p, bF, bL, nd, rfl, H⟩ := H
  have F := lruEnd_first H
  generalize (List.headD xs 0) = a at F ⊢
  generalize (if xs = [] then (9 : Int) else 0) = b at F ⊢
  go_enter Try.func63, Try.ntmps63
  go_wp2_with (go_at_call 79; refine F.mono ?_)
  rintro e w1 ⟨rfl, hf⟩
  go_wp2
  first | go_ret | go_ret2
  exact ⟨rfl, hf⟩
end
end Go.Proofs.Ytogidmjilbpacaa
