/- Layer 15: check, room. -/
import Derived.Test.YtogidmjilbpacaaLru1
namespace Go.Proofs.Ytogidmjilbpacaa
open Go.RowKit Go.Cub

set_option maxHeartbeats 400000 in
theorem lruCheck_ok {w : World} {q p : Nat} (h0 : w.heap[q]? = some (.cells #[.pointer (some ⟨p, 0, none⟩)] 91 (0, 0))) (s : Nat) (hs : s < 4194304) :
    Calls Try.prog 44 #[.pointer (some ⟨q, 0, none⟩), .int .u32 s] w fun e w' => e = .returned (.int .i64 0) ∧ w = w' := by
  have hc := cell_at h0 (o := 0) rfl
  have hs' : decide ((4194304 : Int) ≤ (s : Int)) = false := by rw [decide_eq_false_iff_not]; omega
  clear h0 hs
  go_enter Try.func44, Try.ntmps44
  go_wp2
  go_ret
  exact ⟨rfl, rfl⟩

set_option maxHeartbeats 400000 in
theorem lruCheck_arg {w : World} {q p : Nat} (h0 : w.heap[q]? = some (.cells #[.pointer (some ⟨p, 0, none⟩)] 91 (0, 0))) (s : Nat) (hs : 4194304 ≤ s) :
    Calls Try.prog 44 #[.pointer (some ⟨q, 0, none⟩), .int .u32 s] w fun e w' => e = .returned (.int .i64 2) ∧ w = w' := by
  have hc := cell_at h0 (o := 0) rfl
  have hs' : (4194304 : Int) ≤ (s : Int) := by omega
  clear h0 hs
  go_enter Try.func44, Try.ntmps44
  go_wp2
  go_ret
  exact ⟨rfl, rfl⟩

theorem max_ints (ats : Array TypeId) (ty : TypeId) (k j : IntKind) (x y : Int) : Builtin.max_ ats ty #[.int k x, .int j y] = pure (.int k (max x y)) := by
  simp only [Builtin.max_, List.foldlM, Builtin.max2]
  have : (if y > x then y else x) = max x y := by split <;> omega
  rw [this]; rfl
theorem min_ints (ats : Array TypeId) (ty : TypeId) (k j : IntKind) (x y : Int) : Builtin.min_ ats ty #[.int k x, .int j y] = pure (.int k (min x y)) := by
  simp only [Builtin.min_, List.foldlM, Builtin.min2]
  have : (if y < x then y else x) = min x y := by split <;> omega
  rw [this]; rfl

def RoomPost (w : World) (q p bF bL s : Nat) (xs : List Nat) (e : Ending) (w' : World) : Prop :=
  e = .returned (.tuple #[]) ∧ ∃ bF' bL' nd', LruB w' q p bF' bL' nd' xs ∧ s < nd' ∧ (bF' = bF ∨ w.heap.size ≤ bF') ∧ (bL' = bL ∨ w.heap.size ≤ bL') ∧ Frm (fun b => b = p) w w'

attribute [local go_sem] max_ints min_ints in
set_option maxHeartbeats 1000000 in
theorem room_calls {w : World} {q p bF bL nd : Nat} {xs : List Nat} (H : LruB w q p bF bL nd xs) (s : Nat) (hs : s < 4194304) :
    Calls Try.prog 49 #[.pointer (some ⟨q, 0, none⟩), .int .u32 s] w (RoomPost w q p bF bL s xs) := by
  have hc := cell_at H.box (o := 0) rfl
  have hl := H.lk.lt
  have hge := H.ge
  have hnd := hl.2.2.2.2.2.2.1
  have hs' : (s : Int) ≤ 4194303 := by omega
  have hnd' : (nd : Int) ≤ 4194304 := by omega
  have Hs := Lib.hid hs
  have Hnd := Lib.hid hnd
  have Hl := Lib.hid hl
  clear hs hnd hl
  rcases Nat.lt_or_ge s nd with hlt | hle
  · go_enter Try.func49, Try.ntmps49
    go_wp2_with (go_at_call 68; refine (lkNodes H.lk).mono ?_; rintro e w' ⟨rfl, rfl⟩)
    go_end0
    exact ⟨rfl, bF, bL, nd, H, hlt, .inl rfl, .inl rfl, Frm.refl _ _⟩
  · go_enter Try.func49, Try.ntmps49
    go_wp2_with (go_at_call 68; refine (lkNodes H.lk).mono ?_; rintro e w' ⟨rfl, rfl⟩)
    refine wp_region_plan 14 (fun W ↦ W.cell? ⟨q, 0, none⟩ = some (.pointer (some ⟨p, 0, none⟩))) [5, 13] (.block 0 (.block 2 (.block 4 (.block 6 (.block 8 (.block 12 (.block 14 (.block 16 (.block 18 (.block 20 (.block 22 (.block 24 (.loop (.seq (.block 5 (.loop (.seq (.block 13 (.skip)) (.skip)))) (.skip))))))))))))))) rfl rfl (by kernel_rfl) ?_ ?_
    · exact hc
    repeat (first | (refine plan_free rfl rfl (fun K hK => ?_); (go_simp; (try go_bits); (try (go_ite <;> go_prune <;> (try go_simp)))); refine hK _ (fun W hW => ?_) ?_ <;> clear hK K; (· ((go_simp; (try go_bits); (try (go_ite <;> go_prune <;> (try go_simp)))); (first | done | rfl | (simp (disch := omega) only [IntWalk.u32_in]; done) | (simp (disch := omega) only [IntWalk.i64_in]; done) | (simp (disch := omega) only [IntWalk.wrap64_in]; done))))) | (refine plan_tight rfl rfl (fun K hK => ?_); (go_simp; (try go_bits); (try (go_ite <;> go_prune <;> (try go_simp)))); refine hK _ ?_; clear hK K))
    refine plan_one rfl ?_
    go_wp2_with (go_at_call 70; refine (same_calls nd Hnd.out).mono ?_; rintro e w' ⟨b, rfl, hR, hb, hfr⟩)
    have hf0 : Frm (fun _ => False) w w' := ((Frm.refl _ w).drew).trans hfr (fun _ _ h => h)
    have H' := H.frm hf0 (fun h => h) (fun h => h) (fun h => h) (fun h => h)
    obtain ⟨nd', hnd2⟩ : ∃ n : Nat, (min 4194304 (max (2 * (nd : Int)) ((s : Int) + 1))) = (n : Int) := ⟨(min 4194304 (max (2 * (nd : Int)) ((s : Int) + 1))).toNat, by omega⟩
    rw [hnd2]
    have h1 : nd ≤ nd' := by omega
    have h2 : nd' ≤ 4194304 := by omega
    have h3 : s < nd' := by omega
    clear hnd2 hs' hnd' hle
    refine ⟨cell_at H'.box (o := 0) rfl, plan_one rfl ?_⟩
    have hge' := Lib.hid hge
    have H1 := Lib.hid h1
    have H2 := Lib.hid h2
    clear h1 h2 hge hc
    go_wp2_with (go_at_call 69; refine (renumber_calls H'.lk b nd nd' hR hge'.out H1.out H2.out (Nat.le_refl _)).mono ?_; rintro e w2 ⟨rfl, bF', bL', HL, gF, gL, hf2⟩)
    have hf1 : Frm (fun b => b = p) w w2 := (hf0.mono (T := fun b => b = p) (fun _ _ h => h.elim)).trans hf2 (fun _ _ h => h)
    have hw := hf0.size
    have hq := lt_of_some H'.box
    have hq' := lt_of_some H.box
    have hB := hf2.heap H'.box H.m1
    refine ⟨cell_at hB (o := 0) rfl, plan_done ?_⟩
    go_end0
    exact ⟨rfl, bF', bL', nd', ⟨hB, HL, H.m1, by omega, by omega, by have := hge'.out; have := H1.out; omega⟩, h3, .inr (by omega), .inr (by omega), hf1⟩
end Go.Proofs.Ytogidmjilbpacaa
