/- Layer 14: put. -/
import Derived.Test.YtogidmjilbpacaaLk1
import Derived.Test.YtogidmjilbpacaaRing
namespace Go.Proofs.Ytogidmjilbpacaa
open Go.RowKit Go.Cub

set_option maxHeartbeats 1000000 in
theorem put_calls {w : World} {p bF bL nd hd : Nat} {c : Nat → Nat} {l : Nat → Int} (H : LkAt w p bF bL nd hd c l) (n other : Nat) (hn : n < nd) (hO : other < nd + hd)
    (hB : c (other * 3) < nd + hd) (hof : 1 ≤ c (other * 3 + 2)) (hof2 : c (other * 3 + 2) ≤ hd) (hl0 : 0 ≤ l (c (other * 3 + 2) - 1)) (hl1 : l (c (other * 3 + 2) - 1) ≤ 4194304) :
    Calls Try.prog 82 #[.pointer (some ⟨p, 0, none⟩), .int .u32 n, .int .u32 other] w
      fun e w' => e = .returned (.tuple #[]) ∧ LkAt w' p bF bL nd hd (putC c n other) (putL c l other) ∧ Frm (fun b => b = bF ∨ b = bL) w w' := by
  have H' := H
  obtain ⟨⟨cF, cL, h0⟩, hF, hL, n1, n2, n3, b1, b2⟩ := H
  have hc0 := cell_at h0 (o := 0) rfl
  have hc1 := cell_at h0 (o := 1) rfl
  have hc2 := cell_at h0 (o := 2) rfl
  have f0 := hF.cell (o := other * 3) (by omega)
  have f1 := hF.cell (o := other * 3 + 2) (by omega)
  have g0 := hF.cell (o := n * 3) (by omega)
  have g1 := hF.cell (o := n * 3 + 1) (by omega)
  have g2 := hF.cell (o := n * 3 + 2) (by omega)
  have g3 := hF.cell (o := c (other * 3) * 3 + 1) (by omega)
  have q := hL.cell (o := c (other * 3 + 2) - 1) (by omega)
  have r0 := hF.free
  have r1 := hL.free
  have m1 : ¬ bF = p := fun e => n1 e.symm
  have m2 : ¬ bL = p := fun e => n2 e.symm
  have m3 : ¬ bL = bF := fun e => n3 e.symm
  clear h0 hF hL
  go_enter Try.func82, Try.ntmps82
  go_wp2
  refine wp_region_plan 18 (fun _ => True) [17] (.block 0 (.block 2 (.block 4 (.block 7 (.block 8 (.block 10 (.block 12 (.block 14 (.block 16 (.block 18 (.block 21 (.block 22 (.block 24 (.block 26 (.block 29 (.block 30 (.block 32 (.loop (.seq (.block 17 (.skip)) (.skip)))))))))))))))))))) rfl rfl (by kernel_rfl) trivial ?_
  repeat (first | (refine plan_free rfl rfl (fun K hK => ?_); (go_simp; (try go_bits); (try (go_ite <;> go_prune <;> (try go_simp)))); refine hK _ (fun W hW => ?_) ?_ <;> clear hK K; (· ((go_simp; (try go_bits); (try (go_ite <;> go_prune <;> (try go_simp)))); (first | done | rfl | (simp (disch := omega) only [IntWalk.u32_in]; done) | (simp (disch := omega) only [IntWalk.i64_in]; done) | (simp (disch := omega) only [IntWalk.wrap64_in]; done))))) | (refine plan_tight rfl rfl (fun K hK => ?_); (go_simp; (try go_bits); (try (go_ite <;> go_prune <;> (try go_simp)))); refine hK _ ?_; clear hK K))
  refine plan_one rfl ?_
  go_wp2
  refine plan_done ?_
  generalize hw1 : World.drew _ = w1
  have H1 : LkAt w1 p bF bL nd hd (upd (upd (upd c (n * 3) (c (other * 3))) (n * 3 + 1) other) (n * 3 + 2) (c (other * 3 + 2))) l := by
    rw [← hw1]; exact (((H'.setF _ _).setF _ _).setF _ _).drew
  have R1 : Frm (fun b => b = bF ∨ b = bL) w w1 := by
    rw [← hw1]; exact ((((Frm.refl _ w).setCell (fun _ => .inl rfl) _).setCell (fun _ => .inl rfl) _).setCell (fun _ => .inl rfl) _).drew
  clear hw1 hc0 hc1 hc2 f0 f1 g0 g1 g2 g3 q r0 r1
  obtain ⟨⟨cF1, cL1, h0⟩, hF, hL, -, -, -, -, -⟩ := id H1
  have hc0 := cell_at h0 (o := 0) rfl
  have g3 := hF.cell (o := c (other * 3) * 3 + 1) (by omega)
  have g4 := hF.cell (o := other * 3) (by omega)
  have r0 := hF.free
  clear h0 hF hL
  have e1 : ¬ c (other * 3) * 3 + 1 = other * 3 := by omega
  go_wp2
  refine wp_region_plan 18 (fun _ => True) [14, 17] (.block 0 (.block 2 (.block 4 (.block 7 (.block 8 (.block 10 (.block 12 (.block 14 (.block 17 (.block 18 (.block 20 (.block 22 (.block 24 (.block 26 (.loop (.seq (.block 14 (.block 30 (.block 32 (.loop (.seq (.block 17 (.skip)) (.skip)))))) (.skip))))))))))))))))) rfl rfl (by kernel_rfl) trivial ?_
  repeat (first | (refine plan_free rfl rfl (fun K hK => ?_); (go_simp; (try go_bits); (try (go_ite <;> go_prune <;> (try go_simp)))); refine hK _ (fun W hW => ?_) ?_ <;> clear hK K; (· ((go_simp; (try go_bits); (try (go_ite <;> go_prune <;> (try go_simp)))); (first | done | rfl | (simp (disch := omega) only [IntWalk.u32_in]; done) | (simp (disch := omega) only [IntWalk.i64_in]; done) | (simp (disch := omega) only [IntWalk.wrap64_in]; done))))) | (refine plan_tight rfl rfl (fun K hK => ?_); (go_simp; (try go_bits); (try (go_ite <;> go_prune <;> (try go_simp)))); refine hK _ ?_; clear hK K))
  refine plan_one rfl ?_
  go_wp2
  repeat (first | (refine plan_free rfl rfl (fun K hK => ?_); (go_simp; (try go_bits); (try (go_ite <;> go_prune <;> (try go_simp)))); refine hK _ (fun W hW => ?_) ?_ <;> clear hK K; (· ((go_simp; (try go_bits); (try (go_ite <;> go_prune <;> (try go_simp)))); (first | done | rfl | (simp (disch := omega) only [IntWalk.u32_in]; done) | (simp (disch := omega) only [IntWalk.i64_in]; done) | (simp (disch := omega) only [IntWalk.wrap64_in]; done))))) | (refine plan_tight rfl rfl (fun K hK => ?_); (go_simp; (try go_bits); (try (go_ite <;> go_prune <;> (try go_simp)))); refine hK _ ?_; clear hK K))
  refine plan_one rfl ?_
  go_wp2
  refine plan_done ?_
  generalize hw2 : World.drew _ = w2
  have H2 : LkAt w2 p bF bL nd hd (putC c n other) l := by
    rw [← hw2]; exact ((H1.setF _ _).setF _ _).drew
  have R2 : Frm (fun b => b = bF ∨ b = bL) w1 w2 := by
    rw [← hw2]; exact (((Frm.refl _ w1).setCell (fun _ => .inl rfl) _).setCell (fun _ => .inl rfl) _).drew
  clear hw2 hc0 g3 g4 r0 H1
  have hof3 : putC c n other (n * 3 + 2) = c (other * 3 + 2) := by
    unfold putC
    rw [upd_ne _ _ (by omega), upd_ne _ _ (by omega), upd_same]
  obtain ⟨⟨cF1, cL1, h0⟩, hF, hL, -, -, -, -, -⟩ := id H2
  have hc0 := cell_at h0 (o := 0) rfl
  have hc2 := cell_at h0 (o := 2) rfl
  have g3 := hF.cell (o := n * 3 + 2) (by omega)
  rw [hof3] at g3
  have q := hL.cell (o := c (other * 3 + 2) - 1) (by omega)
  have r1 := hL.free
  clear h0 hF hL hof3
  have e2 : (1 : Int) ≤ c (other * 3 + 2) := by omega
  have e3 : (c (other * 3 + 2) : Int) ≤ hd := by omega
  have e4 : (c (other * 3 + 2) : Int) - 1 < hd := by omega
  have e5 : (0 : Int) ≤ (c (other * 3 + 2) : Int) - 1 := by omega
  go_wp2
  refine wp_region_plan 18 (fun _ => True) [17] (.block 0 (.block 2 (.block 4 (.block 7 (.block 8 (.block 10 (.block 12 (.block 15 (.block 16 (.block 18 (.block 20 (.block 23 (.block 24 (.block 26 (.block 29 (.block 30 (.block 32 (.loop (.seq (.block 17 (.skip)) (.skip)))))))))))))))))))) rfl rfl (by kernel_rfl) trivial ?_
  repeat (first | (refine plan_free rfl rfl (fun K hK => ?_); (go_simp; (try go_bits); (try (go_ite <;> go_prune <;> (try go_simp)))); refine hK _ (fun W hW => ?_) ?_ <;> clear hK K; (· ((go_simp; (try go_bits); (try (go_ite <;> go_prune <;> (try go_simp)))); (first | done | rfl | (simp (disch := omega) only [IntWalk.u32_in]; done) | (simp (disch := omega) only [IntWalk.i64_in]; done) | (simp (disch := omega) only [IntWalk.wrap64_in]; done))))) | (refine plan_tight rfl rfl (fun K hK => ?_); (go_simp; (try go_bits); (try (go_ite <;> go_prune <;> (try go_simp)))); refine hK _ ?_; clear hK K))
  refine plan_one rfl ?_
  go_wp2
  refine plan_done ?_
  generalize hw3 : World.drew _ = w3
  have H3 : LkAt w3 p bF bL nd hd (putC c n other) (putL c l other) := by
    rw [← hw3]; exact (H2.setL _ _).drew
  have R3 : Frm (fun b => b = bF ∨ b = bL) w2 w3 := by
    rw [← hw3]; exact ((Frm.refl _ w2).setCell (fun _ => .inr rfl) _).drew
  clear hw3 H2
  go_wp2
  go_end0
  exact ⟨rfl, H3, (R1.trans R2 (fun _ _ => id)).trans R3 (fun _ _ => id)⟩
end Go.Proofs.Ytogidmjilbpacaa
