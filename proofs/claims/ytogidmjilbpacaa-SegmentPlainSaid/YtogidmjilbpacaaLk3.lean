/- Layer 14: Remove. -/
import Derived.Test.YtogidmjilbpacaaLk1
import Derived.Test.YtogidmjilbpacaaRing
namespace Go.Proofs.Ytogidmjilbpacaa
open Go.RowKit Go.Cub

set_option maxHeartbeats 1000000 in
theorem remove_calls {w : World} {p bF bL nd hd : Nat} {c : Nat → Nat} {l : Nat → Int} (H : LkAt w p bF bL nd hd c l) (n : Nat) (hn : n < nd)
    (hA : c (n * 3) < nd + hd) (hB : c (n * 3 + 1) < nd + hd) (hof : 1 ≤ c (n * 3 + 2)) (hof2 : c (n * 3 + 2) ≤ hd) (hl0 : 1 ≤ l (c (n * 3 + 2) - 1)) (hl1 : l (c (n * 3 + 2) - 1) ≤ 4194304) :
    Calls Try.prog 66 #[.pointer (some ⟨p, 0, none⟩), .int .u32 n] w
      fun e w' => e = .returned (.int .i64 0) ∧ LkAt w' p bF bL nd hd (remC c n) (remL c l n) ∧ Frm (fun b => b = bF ∨ b = bL) w w' := by
  have H' := H
  obtain ⟨⟨cF, cL, h0⟩, hF, hL, n1, n2, n3, b1, b2⟩ := H
  have hc0 := cell_at h0 (o := 0) rfl
  have g0 := hF.cell (o := n * 3) (by omega)
  have g1 := hF.cell (o := n * 3 + 1) (by omega)
  have g2 := hF.cell (o := n * 3 + 2) (by omega)
  have x1 : ¬ p = w.heap.size := by have := lt_of_some h0; omega
  have x2 : ¬ bF = w.heap.size := by have := hF.lt; omega
  clear h0 hF hL
  go_enter Try.func66, Try.ntmps66
  go_wp2_with (go_at_call 65; refine (in_ok H' n hn (by omega)).mono ?_; rintro e w' ⟨rfl, rfl⟩)
  obtain ⟨X, hX⟩ : ∃ X, X = w.heap.size := ⟨_, rfl⟩
  rw [← hX] at x1 x2 ⊢
  generalize hw1 : World.alloc _ _ = w1
  have H1 : LkAt w1 p bF bL nd hd c l := by rw [← hw1]; exact H'.alloc _
  have R1 : Frm (fun b => b = bF ∨ b = bL) w w1 := by rw [← hw1]; exact (Frm.refl _ w).alloc _
  have hx := alloc_new w (.cells #[.int .u32 (c (n * 3)), .int .u32 (c (n * 3 + 1)), .int .u32 (c (n * 3 + 2))] 116 (0, 0))
  rw [hw1, ← hX] at hx
  have x3 : ¬ bL = X := by have := H'.lens.lt; omega
  have x4 : X < w1.heap.size := lt_of_some hx
  clear hw1 hc0 g0 g1 g2 hX
  obtain ⟨⟨cF1, cL1, h0⟩, hF, hL, -, -, -, -, -⟩ := id H1
  have hc0 := cell_at h0 (o := 0) rfl
  have x0 := cell_at hx (o := 0) rfl
  have x1' := cell_at hx (o := 1) rfl
  have g3 := hF.cell (o := c (n * 3) * 3 + 1) (by omega)
  have g4 := hF.cell (o := c (n * 3 + 1) * 3) (by omega)
  have r0 := hF.free
  have e1 : ¬ c (n * 3) * 3 + 1 = c (n * 3 + 1) * 3 := by omega
  have m1 : ¬ X = bF := fun e => x2 e.symm
  clear h0 hF hL
  go_wp2
  refine wp_region_plan 22 (fun W ↦ W.cell? ⟨X, 0, none⟩ = some (.int .u32 (c (n * 3))) ∧ W.cell? ⟨X, 1, none⟩ = some (.int .u32 (c (n * 3 + 1)))) [18, 21] (.block 0 (.block 2 (.block 4 (.block 7 (.block 8 (.block 11 (.block 12 (.block 14 (.block 16 (.block 19 (.block 20 (.block 22 (.block 24 (.block 27 (.block 28 (.block 30 (.block 32 (.block 34 (.loop (.seq (.block 18 (.block 38 (.block 40 (.loop (.seq (.block 21 (.skip)) (.skip)))))) (.skip))))))))))))))))))))) rfl rfl (by kernel_rfl) ?_ ?_
  · exact ⟨x0, x1'⟩
  repeat (first | (refine plan_free rfl rfl (fun K hK => ?_); (go_simp; (try go_bits); (try (go_ite <;> go_prune <;> (try go_simp)))); refine hK _ (fun W hW => ?_) ?_ <;> clear hK K; (· ((go_simp; (try go_bits); (try (go_ite <;> go_prune <;> (try go_simp)))); (first | done | rfl | (simp (disch := omega) only [IntWalk.u32_in]; done) | (simp (disch := omega) only [IntWalk.i64_in]; done) | (simp (disch := omega) only [IntWalk.wrap64_in]; done))))) | (refine plan_tight rfl rfl (fun K hK => ?_); (go_simp; (try go_bits); (try (go_ite <;> go_prune <;> (try go_simp)))); refine hK _ ?_; clear hK K))
  refine plan_one rfl ?_
  go_wp2
  repeat (first | (refine plan_free rfl rfl (fun K hK => ?_); (go_simp; (try go_bits); (try (go_ite <;> go_prune <;> (try go_simp)))); refine hK _ (fun W hW => ?_) ?_ <;> clear hK K; (· ((go_simp; (try go_bits); (try (go_ite <;> go_prune <;> (try go_simp)))); (first | done | rfl | (simp (disch := omega) only [IntWalk.u32_in]; done) | (simp (disch := omega) only [IntWalk.i64_in]; done) | (simp (disch := omega) only [IntWalk.wrap64_in]; done))))) | (refine plan_tight rfl rfl (fun K hK => ?_); (go_simp; (try go_bits); (try (go_ite <;> go_prune <;> (try go_simp)))); refine hK _ ?_; clear hK K))
  refine plan_one rfl ?_
  go_wp2
  refine plan_done ?_
  generalize hw2 : World.drew _ = w2
  have H2 : LkAt w2 p bF bL nd hd (upd (upd c (c (n * 3) * 3 + 1) (c (n * 3 + 1))) (c (n * 3 + 1) * 3) (c (n * 3))) l := by
    rw [← hw2]; exact ((H1.setF _ _).setF _ _).drew
  have R2 : Frm (fun b => b = bF) w1 w2 := by
    rw [← hw2]; exact (((Frm.refl (fun b => b = bF) w1).setCell (fun _ => rfl) _).setCell (fun _ => rfl) _).drew
  have hx2 := R2.heap hx m1
  clear hw2 hc0 x0 x1' g3 g4 r0 H1 hx
  obtain ⟨⟨cF2, cL2, h0⟩, hF, hL, -, -, -, -, -⟩ := id H2
  have hc0 := cell_at h0 (o := 0) rfl
  have hc2 := cell_at h0 (o := 2) rfl
  have x2' := cell_at hx2 (o := 2) rfl
  have q := hL.cell (o := c (n * 3 + 2) - 1) (by omega)
  have r1 := hL.free
  have r0 := hF.free
  have g0 := hF.cell (o := n * 3) (by omega)
  have g1 := hF.cell (o := n * 3 + 1) (by omega)
  have g2 := hF.cell (o := n * 3 + 2) (by omega)
  have m2 : ¬ bL = bF := fun e => n3 e.symm
  have m3 : ¬ bL = p := fun e => n2 e.symm
  have m4 : ¬ bF = p := fun e => n1 e.symm
  have e2 : (1 : Int) ≤ c (n * 3 + 2) := by omega
  have e3 : (c (n * 3 + 2) : Int) ≤ hd := by omega
  have e4 : (c (n * 3 + 2) : Int) - 1 < hd := by omega
  have e5 : (0 : Int) ≤ (c (n * 3 + 2) : Int) - 1 := by omega
  clear h0 hF hL
  go_wp2
  refine wp_region_plan 12 (fun _ => True) [11] (.block 0 (.block 2 (.block 4 (.block 7 (.block 8 (.block 11 (.block 12 (.block 14 (.block 17 (.block 18 (.block 20 (.loop (.seq (.block 11 (.skip)) (.skip)))))))))))))) rfl rfl (by kernel_rfl) trivial ?_
  repeat (first | (refine plan_free rfl rfl (fun K hK => ?_); (go_simp; (try go_bits); (try (go_ite <;> go_prune <;> (try go_simp)))); refine hK _ (fun W hW => ?_) ?_ <;> clear hK K; (· ((go_simp; (try go_bits); (try (go_ite <;> go_prune <;> (try go_simp)))); (first | done | rfl | (simp (disch := omega) only [IntWalk.u32_in]; done) | (simp (disch := omega) only [IntWalk.i64_in]; done) | (simp (disch := omega) only [IntWalk.wrap64_in]; done))))) | (refine plan_tight rfl rfl (fun K hK => ?_); (go_simp; (try go_bits); (try (go_ite <;> go_prune <;> (try go_simp)))); refine hK _ ?_; clear hK K))
  refine plan_one rfl ?_
  go_wp2
  refine plan_done ?_
  go_wp2
  refine bodyPost_ret (results_tmp rfl _ _ _) rfl ⟨rfl, ?_, ?_⟩
  · exact ((((H2.setL _ _).setF (n * 3) 0).setF (n * 3 + 1) 0).setF (n * 3 + 2) 0).drew.congr (fun _ _ => rfl) (fun _ _ => rfl)
  · refine (R1.trans (T := fun b => b = bF) R2 (fun _ _ => .inl)).trans (T := fun b => b = bF ∨ b = bL) ?_ (fun _ _ => id)
    exact (((((Frm.refl _ w2).setCell (fun _ => .inr rfl) _).setCell (fun _ => .inl rfl) _).setCell (fun _ => .inl rfl) _).setCell (fun _ => .inl rfl) _).drew
end Go.Proofs.Ytogidmjilbpacaa
