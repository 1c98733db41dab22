/- Layer 16: demote. -/
import Derived.Test.YtogidmjilbpacaaSeg3
namespace Go.Proofs.Ytogidmjilbpacaa
open Go.RowKit Go.Cub

theorem LruF.drew {w : World} {fp xs : List Nat} {q : Nat} (h : LruF w fp q xs) : LruF w.drew fp q xs := h.frm (S := fun _ => False) (Frm.refl _ w).drew (fun _ _ h => h)

/-- does a protected slot have to go? -/
def need (lim : Int) (g : Nat → Option Int) (Q : List Nat) : Bool := decide (0 < Q.length) && (decide (lim = -1) || decide (lim < sumC g Q))

section
variable {w : World} {p q0 q1 bM n : Nat} {fp fp0 fp1 P Q : List Nat} {g : Nat → Option Int} {lim : Int}

set_option maxRecDepth 100000 in
set_option maxHeartbeats 2000000 in
theorem needed_calls (H : SegB w p q0 q1 bM n fp0 fp1 P Q g lim) {X : Nat} (hX : w.cell? ⟨X, 0, none⟩ = some (.pointer (some ⟨p, 0, none⟩))) :
    Calls Try.prog 62 #[.pointer (some ⟨X, 0, none⟩)] w (fun e w' => e = .returned (.bool (need lim g Q)) ∧ Frm (fun _ => False) w w') := by
  have g1 := cell_at H.box (o := 1) rfl
  have g3 := cell_at H.box (o := 3) rfl
  have g5 := cell_at H.box (o := 5) rfl
  have HL := Lib.hid H.l1
  unfold need
  clear H
  generalize hn : Q.length = k at *
  have Hn := Lib.hid hn
  clear hn
  generalize sumC g Q = c at *
  by_cases h1 : 0 < k
  · have d1 : decide ((0 : Int) < k) = true := by rw [decide_eq_true_iff]; omega
    rw [decide_eq_true h1, Bool.true_and]
    by_cases h2 : lim = -1
    · rw [decide_eq_true h2, Bool.true_or]
      have d2 : ((-1 : Int) == -1) = true := rfl
      subst h2
      go_enter Try.func62, Try.ntmps62
      go_wp2
      refine wp_region_plan 27 (fun W ↦ W.cell? ⟨X, 0, none⟩ = some (.pointer (some ⟨p, 0, none⟩))) [5] (.block 0 (.block 2 (.block 4 (.block 6 (.block 9 (.loop (.seq (.block 5 (.block 12 (.block 14 (.block 17 (.block 18 (.block 20 (.block 23 (.block 24 (.block 26 (.block 29 (.block 30 (.block 32 (.block 34 (.block 37 (.block 39 (.block 40 (.block 42 (.block 45 (.block 46 (.block 48 (.block 50 (.block 52 (.skip))))))))))))))))))))))) (.skip)))))))) rfl rfl (by kernel_rfl) ?_ ?_
      · exact hX
      repeat (first | (refine plan_free rfl rfl (fun K hK => ?_); (go_simp; (try go_bits); (try (go_ite <;> go_prune <;> (try go_simp)))); refine hK _ (fun W hW => ?_) ?_ <;> clear hK K; (· ((go_simp; (try go_bits); (try (go_ite <;> go_prune <;> (try go_simp)))); (first | done | rfl | (simp (disch := omega) only [IntWalk.u32_in]; done) | (simp (disch := omega) only [IntWalk.i64_in]; done) | (simp (disch := omega) only [IntWalk.wrap64_in]; done))))) | (refine plan_tight rfl rfl (fun K hK => ?_); (go_simp; (try go_bits); (try (go_ite <;> go_prune <;> (try go_simp)))); refine hK _ ?_; clear hK K))
      refine plan_one rfl ?_
      go_wp2_with (go_at_call 38; refine (lruLen_calls HL.out.drew).mono ?_; rw [Hn.out]; rintro e w' ⟨rfl, rfl⟩)
      repeat (first | (refine plan_free rfl rfl (fun K hK => ?_); (go_simp; (try go_bits); (try (go_ite <;> go_prune <;> (try go_simp)))); refine hK _ (fun W hW => ?_) ?_ <;> clear hK K; (· ((go_simp; (try go_bits); (try (go_ite <;> go_prune <;> (try go_simp)))); (first | done | rfl | (simp (disch := omega) only [IntWalk.u32_in]; done) | (simp (disch := omega) only [IntWalk.i64_in]; done) | (simp (disch := omega) only [IntWalk.wrap64_in]; done))))) | (refine plan_tight rfl rfl (fun K hK => ?_); (go_simp; (try go_bits); (try (go_ite <;> go_prune <;> (try go_simp)))); refine hK _ ?_; clear hK K))
      refine plan_done ?_
      go_wp2
      go_ret
      exact ⟨rfl, (Frm.refl _ _).drew⟩
    · have d2 : (lim == -1) = false := by simpa using h2
      rw [decide_eq_false h2, Bool.false_or]
      clear h2
      by_cases h3 : lim < c
      · have d3 := decide_eq_true h3
        rw [d3]
        go_enter Try.func62, Try.ntmps62
        go_wp2
        refine wp_region_plan 27 (fun W ↦ W.cell? ⟨X, 0, none⟩ = some (.pointer (some ⟨p, 0, none⟩))) [5] (.block 0 (.block 2 (.block 4 (.block 6 (.block 9 (.loop (.seq (.block 5 (.block 12 (.block 14 (.block 17 (.block 18 (.block 20 (.block 23 (.block 24 (.block 26 (.block 29 (.block 30 (.block 32 (.block 34 (.block 37 (.block 39 (.block 40 (.block 42 (.block 45 (.block 46 (.block 48 (.block 50 (.block 52 (.skip))))))))))))))))))))))) (.skip)))))))) rfl rfl (by kernel_rfl) ?_ ?_
        · exact hX
        repeat (first | (refine plan_free rfl rfl (fun K hK => ?_); (go_simp; (try go_bits); (try (go_ite <;> go_prune <;> (try go_simp)))); refine hK _ (fun W hW => ?_) ?_ <;> clear hK K; (· ((go_simp; (try go_bits); (try (go_ite <;> go_prune <;> (try go_simp)))); (first | done | rfl | (simp (disch := omega) only [IntWalk.u32_in]; done) | (simp (disch := omega) only [IntWalk.i64_in]; done) | (simp (disch := omega) only [IntWalk.wrap64_in]; done))))) | (refine plan_tight rfl rfl (fun K hK => ?_); (go_simp; (try go_bits); (try (go_ite <;> go_prune <;> (try go_simp)))); refine hK _ ?_; clear hK K))
        refine plan_one rfl ?_
        go_wp2_with (go_at_call 38; refine (lruLen_calls HL.out.drew).mono ?_; rw [Hn.out]; rintro e w' ⟨rfl, rfl⟩)
        repeat (first | (refine plan_free rfl rfl (fun K hK => ?_); (go_simp; (try go_bits); (try (go_ite <;> go_prune <;> (try go_simp)))); refine hK _ (fun W hW => ?_) ?_ <;> clear hK K; (· ((go_simp; (try go_bits); (try (go_ite <;> go_prune <;> (try go_simp)))); (first | done | rfl | (simp (disch := omega) only [IntWalk.u32_in]; done) | (simp (disch := omega) only [IntWalk.i64_in]; done) | (simp (disch := omega) only [IntWalk.wrap64_in]; done))))) | (refine plan_tight rfl rfl (fun K hK => ?_); (go_simp; (try go_bits); (try (go_ite <;> go_prune <;> (try go_simp)))); refine hK _ ?_; clear hK K))
        refine plan_done ?_
        go_wp2
        go_ret
        exact ⟨rfl, (Frm.refl _ _).drew⟩
      · have d3 := decide_eq_false h3
        rw [d3]
        go_enter Try.func62, Try.ntmps62
        go_wp2
        refine wp_region_plan 27 (fun W ↦ W.cell? ⟨X, 0, none⟩ = some (.pointer (some ⟨p, 0, none⟩))) [5] (.block 0 (.block 2 (.block 4 (.block 6 (.block 9 (.loop (.seq (.block 5 (.block 12 (.block 14 (.block 17 (.block 18 (.block 20 (.block 23 (.block 24 (.block 26 (.block 29 (.block 30 (.block 32 (.block 34 (.block 37 (.block 39 (.block 40 (.block 42 (.block 45 (.block 46 (.block 48 (.block 50 (.block 52 (.skip))))))))))))))))))))))) (.skip)))))))) rfl rfl (by kernel_rfl) ?_ ?_
        · exact hX
        repeat (first | (refine plan_free rfl rfl (fun K hK => ?_); (go_simp; (try go_bits); (try (go_ite <;> go_prune <;> (try go_simp)))); refine hK _ (fun W hW => ?_) ?_ <;> clear hK K; (· ((go_simp; (try go_bits); (try (go_ite <;> go_prune <;> (try go_simp)))); (first | done | rfl | (simp (disch := omega) only [IntWalk.u32_in]; done) | (simp (disch := omega) only [IntWalk.i64_in]; done) | (simp (disch := omega) only [IntWalk.wrap64_in]; done))))) | (refine plan_tight rfl rfl (fun K hK => ?_); (go_simp; (try go_bits); (try (go_ite <;> go_prune <;> (try go_simp)))); refine hK _ ?_; clear hK K))
        refine plan_one rfl ?_
        go_wp2_with (go_at_call 38; refine (lruLen_calls HL.out.drew).mono ?_; rw [Hn.out]; rintro e w' ⟨rfl, rfl⟩)
        repeat (first | (refine plan_free rfl rfl (fun K hK => ?_); (go_simp; (try go_bits); (try (go_ite <;> go_prune <;> (try go_simp)))); refine hK _ (fun W hW => ?_) ?_ <;> clear hK K; (· ((go_simp; (try go_bits); (try (go_ite <;> go_prune <;> (try go_simp)))); (first | done | rfl | (simp (disch := omega) only [IntWalk.u32_in]; done) | (simp (disch := omega) only [IntWalk.i64_in]; done) | (simp (disch := omega) only [IntWalk.wrap64_in]; done))))) | (refine plan_tight rfl rfl (fun K hK => ?_); (go_simp; (try go_bits); (try (go_ite <;> go_prune <;> (try go_simp)))); refine hK _ ?_; clear hK K))
        refine plan_done ?_
        go_wp2
        go_ret
        exact ⟨rfl, (Frm.refl _ _).drew⟩
  · have d1 : decide ((0 : Int) < k) = false := by rw [decide_eq_false_iff_not]; omega
    rw [decide_eq_false h1, Bool.false_and]
    go_enter Try.func62, Try.ntmps62
    go_wp2
    refine wp_region_plan 27 (fun W ↦ W.cell? ⟨X, 0, none⟩ = some (.pointer (some ⟨p, 0, none⟩))) [5] (.block 0 (.block 2 (.block 4 (.block 6 (.block 9 (.loop (.seq (.block 5 (.block 12 (.block 14 (.block 17 (.block 18 (.block 20 (.block 23 (.block 24 (.block 26 (.block 29 (.block 30 (.block 32 (.block 34 (.block 37 (.block 39 (.block 40 (.block 42 (.block 45 (.block 46 (.block 48 (.block 50 (.block 52 (.skip))))))))))))))))))))))) (.skip)))))))) rfl rfl (by kernel_rfl) ?_ ?_
    · exact hX
    repeat (first | (refine plan_free rfl rfl (fun K hK => ?_); (go_simp; (try go_bits); (try (go_ite <;> go_prune <;> (try go_simp)))); refine hK _ (fun W hW => ?_) ?_ <;> clear hK K; (· ((go_simp; (try go_bits); (try (go_ite <;> go_prune <;> (try go_simp)))); (first | done | rfl | (simp (disch := omega) only [IntWalk.u32_in]; done) | (simp (disch := omega) only [IntWalk.i64_in]; done) | (simp (disch := omega) only [IntWalk.wrap64_in]; done))))) | (refine plan_tight rfl rfl (fun K hK => ?_); (go_simp; (try go_bits); (try (go_ite <;> go_prune <;> (try go_simp)))); refine hK _ ?_; clear hK K))
    refine plan_one rfl ?_
    go_wp2_with (go_at_call 38; refine (lruLen_calls HL.out.drew).mono ?_; rw [Hn.out]; rintro e w' ⟨rfl, rfl⟩)
    repeat (first | (refine plan_free rfl rfl (fun K hK => ?_); (go_simp; (try go_bits); (try (go_ite <;> go_prune <;> (try go_simp)))); refine hK _ (fun W hW => ?_) ?_ <;> clear hK K; (· ((go_simp; (try go_bits); (try (go_ite <;> go_prune <;> (try go_simp)))); (first | done | rfl | (simp (disch := omega) only [IntWalk.u32_in]; done) | (simp (disch := omega) only [IntWalk.i64_in]; done) | (simp (disch := omega) only [IntWalk.wrap64_in]; done))))) | (refine plan_tight rfl rfl (fun K hK => ?_); (go_simp; (try go_bits); (try (go_ite <;> go_prune <;> (try go_simp)))); refine hK _ ?_; clear hK K))
    refine plan_done ?_
    go_wp2
    go_ret
    exact ⟨rfl, (Frm.refl _ _).drew⟩
end
end Go.Proofs.Ytogidmjilbpacaa
