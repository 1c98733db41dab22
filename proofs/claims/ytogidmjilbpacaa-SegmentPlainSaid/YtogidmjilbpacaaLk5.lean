/- Layer 14: First, Last, all, All. -/
import Derived.Test.YtogidmjilbpacaaLk4
namespace Go.Proofs.Ytogidmjilbpacaa
open Go.RowKit Go.Cub

set_option maxHeartbeats 1000000 in
theorem first_calls {w : World} {p bF bL nd hd : Nat} {L : Nat → List Nat} (H : Lk w p bF bL nd hd L) (h : Nat) (hh : h < hd) :
    Calls Try.prog 80 #[.pointer (some ⟨p, 0, none⟩), .int .i64 h] w
      fun e w' => e = .returned (.tuple #[.int .u32 ((L h).headD 0 : Nat), .int .i64 (if L h = [] then 9 else 0)]) ∧ Frm (fun _ => False) w w' := by
  obtain ⟨c, l, H, R⟩ := H
  have H' := H
  obtain ⟨⟨cF, cL, h0⟩, hF, hL, n1, n2, n3, b1, b2⟩ := H
  have hc0 := cell_at h0 (o := 0) rfl
  obtain ⟨o, ho⟩ : ∃ o, o = nd + h := ⟨_, rfl⟩
  have g3 := hF.cell (o := o * 3 + 1) (by omega)
  obtain ⟨x, hx⟩ : ∃ x, x = c (o * 3 + 1) := ⟨_, rfl⟩
  rw [← hx] at g3
  rw [ho, R.next_ring hh] at hx
  have ho2 : o < nd + hd := by omega
  have Ho := Lib.hid ho
  clear h0 hF hL ho
  cases e : L h with
  | nil =>
    rw [e] at hx
    have hx1 : nd ≤ x := by rw [hx]; simp
    have hx2 : x < 4294967296 := by rw [hx]; simp; omega
    clear hx
    go_enter Try.func80, Try.ntmps80
    go_wp2_with (go_at_call 78; refine (list_calls H' h hh).mono ?_; rintro e w' ⟨rfl, rfl⟩)
    refine wp_region_plan 16 (fun W ↦ W.cell? ⟨p, 0, none⟩ = some (.slice (some ⟨bF, 0, none⟩) (nd + hd) cF)) [7, 11] (.block 0 (.block 2 (.block 4 (.block 6 (.block 8 (.block 10 (.block 12 (.loop (.seq (.block 7 (.block 16 (.block 18 (.block 21 (.loop (.seq (.block 11 (.block 24 (.block 26 (.block 28 (.block 30 (.skip)))))) (.skip))))))) (.skip)))))))))) rfl rfl (by kernel_rfl) ?_ ?_
    · exact hc0
    repeat (first | (refine plan_free rfl rfl (fun K hK => ?_); (go_simp; (try go_bits); (try (go_ite <;> go_prune <;> (try go_simp)))); refine hK _ (fun W hW => ?_) ?_ <;> clear hK K; (· ((go_simp; (try go_bits); (try (go_ite <;> go_prune <;> (try go_simp)))); (first | done | rfl | (simp (disch := omega) only [IntWalk.u32_in]; done) | (simp (disch := omega) only [IntWalk.i64_in]; done) | (simp (disch := omega) only [IntWalk.wrap64_in]; done))))) | (refine plan_tight rfl rfl (fun K hK => ?_); (go_simp; (try go_bits); (try (go_ite <;> go_prune <;> (try go_simp)))); refine hK _ ?_; clear hK K))
    refine plan_one rfl ?_
    go_wp2_with (go_at_call 64; refine (ring_calls H'.drew h hh o Ho.out).mono ?_; rintro e w' ⟨rfl, rfl⟩)
    repeat (first | (refine plan_free rfl rfl (fun K hK => ?_); (go_simp; (try go_bits); (try (go_ite <;> go_prune <;> (try go_simp)))); refine hK _ (fun W hW => ?_) ?_ <;> clear hK K; (· ((go_simp; (try go_bits); (try (go_ite <;> go_prune <;> (try go_simp)))); (first | done | rfl | (simp (disch := omega) only [IntWalk.u32_in]; done) | (simp (disch := omega) only [IntWalk.i64_in]; done) | (simp (disch := omega) only [IntWalk.wrap64_in]; done))))) | (refine plan_tight rfl rfl (fun K hK => ?_); (go_simp; (try go_bits); (try (go_ite <;> go_prune <;> (try go_simp)))); refine hK _ ?_; clear hK K))
    refine plan_one rfl ?_
    go_wp2_with (go_at_call 85; refine (real_none H'.drew x hx1 hx2).mono ?_; rintro e w' ⟨rfl, rfl⟩)
    repeat (first | (refine plan_free rfl rfl (fun K hK => ?_); (go_simp; (try go_bits); (try (go_ite <;> go_prune <;> (try go_simp)))); refine hK _ (fun W hW => ?_) ?_ <;> clear hK K; (· ((go_simp; (try go_bits); (try (go_ite <;> go_prune <;> (try go_simp)))); (first | done | rfl | (simp (disch := omega) only [IntWalk.u32_in]; done) | (simp (disch := omega) only [IntWalk.i64_in]; done) | (simp (disch := omega) only [IntWalk.wrap64_in]; done))))) | (refine plan_tight rfl rfl (fun K hK => ?_); (go_simp; (try go_bits); (try (go_ite <;> go_prune <;> (try go_simp)))); refine hK _ ?_; clear hK K))
    refine plan_done ?_
    go_wp2
    go_ret2
    exact ⟨rfl, (Frm.refl _ w).drew⟩
  | cons y ys =>
    rw [e] at hx
    have hx1 : x < nd := by rw [hx]; exact R.lt h hh y (by rw [e]; simp)
    obtain rfl : x = y := hx
    go_enter Try.func80, Try.ntmps80
    go_wp2_with (go_at_call 78; refine (list_calls H' h hh).mono ?_; rintro e w' ⟨rfl, rfl⟩)
    refine wp_region_plan 16 (fun W ↦ W.cell? ⟨p, 0, none⟩ = some (.slice (some ⟨bF, 0, none⟩) (nd + hd) cF)) [7, 11] (.block 0 (.block 2 (.block 4 (.block 6 (.block 8 (.block 10 (.block 12 (.loop (.seq (.block 7 (.block 16 (.block 18 (.block 21 (.loop (.seq (.block 11 (.block 24 (.block 26 (.block 28 (.block 30 (.skip)))))) (.skip))))))) (.skip)))))))))) rfl rfl (by kernel_rfl) ?_ ?_
    · exact hc0
    repeat (first | (refine plan_free rfl rfl (fun K hK => ?_); (go_simp; (try go_bits); (try (go_ite <;> go_prune <;> (try go_simp)))); refine hK _ (fun W hW => ?_) ?_ <;> clear hK K; (· ((go_simp; (try go_bits); (try (go_ite <;> go_prune <;> (try go_simp)))); (first | done | rfl | (simp (disch := omega) only [IntWalk.u32_in]; done) | (simp (disch := omega) only [IntWalk.i64_in]; done) | (simp (disch := omega) only [IntWalk.wrap64_in]; done))))) | (refine plan_tight rfl rfl (fun K hK => ?_); (go_simp; (try go_bits); (try (go_ite <;> go_prune <;> (try go_simp)))); refine hK _ ?_; clear hK K))
    refine plan_one rfl ?_
    go_wp2_with (go_at_call 64; refine (ring_calls H'.drew h hh o Ho.out).mono ?_; rintro e w' ⟨rfl, rfl⟩)
    repeat (first | (refine plan_free rfl rfl (fun K hK => ?_); (go_simp; (try go_bits); (try (go_ite <;> go_prune <;> (try go_simp)))); refine hK _ (fun W hW => ?_) ?_ <;> clear hK K; (· ((go_simp; (try go_bits); (try (go_ite <;> go_prune <;> (try go_simp)))); (first | done | rfl | (simp (disch := omega) only [IntWalk.u32_in]; done) | (simp (disch := omega) only [IntWalk.i64_in]; done) | (simp (disch := omega) only [IntWalk.wrap64_in]; done))))) | (refine plan_tight rfl rfl (fun K hK => ?_); (go_simp; (try go_bits); (try (go_ite <;> go_prune <;> (try go_simp)))); refine hK _ ?_; clear hK K))
    refine plan_one rfl ?_
    go_wp2_with (go_at_call 85; refine (real_ok H'.drew x hx1).mono ?_; rintro e w' ⟨rfl, rfl⟩)
    repeat (first | (refine plan_free rfl rfl (fun K hK => ?_); (go_simp; (try go_bits); (try (go_ite <;> go_prune <;> (try go_simp)))); refine hK _ (fun W hW => ?_) ?_ <;> clear hK K; (· ((go_simp; (try go_bits); (try (go_ite <;> go_prune <;> (try go_simp)))); (first | done | rfl | (simp (disch := omega) only [IntWalk.u32_in]; done) | (simp (disch := omega) only [IntWalk.i64_in]; done) | (simp (disch := omega) only [IntWalk.wrap64_in]; done))))) | (refine plan_tight rfl rfl (fun K hK => ?_); (go_simp; (try go_bits); (try (go_ite <;> go_prune <;> (try go_simp)))); refine hK _ ?_; clear hK K))
    refine plan_done ?_
    go_wp2
    go_ret2
    exact ⟨by simp, (Frm.refl _ w).drew⟩
end Go.Proofs.Ytogidmjilbpacaa
