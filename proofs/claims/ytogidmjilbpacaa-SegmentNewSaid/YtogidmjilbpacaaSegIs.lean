/- Law 16's 'is': an order looks like the document's. -/
import Derived.Test.YtogidmjilbpacaaSegRef
import Derived.Test.YtogidmjilbpacaaSegLaw2
namespace Go.Proofs.Ytogidmjilbpacaa
open Go.RowKit Go.Cub

theorem fairs_wl {w : World} {p n : Nat} {fp P Q : List Nat} {g : Nat → Option Int} {lim : Int} (H : SegF w fp p n P Q g lim) (X : List Nat) : Fairs (wl g X) := by
  intro x hx
  obtain ⟨y, hy, rfl⟩ := List.mem_map.1 hx
  show 0 ≤ (g y).getD 0 ∧ (g y).getD 0 ≤ _
  cases h : g y with
  | none => simp
  | some c => exact H.ok.cost y c h
theorem wl_mem {g : Nat → Option Int} {X : List Nat} {s : Nat} : (∀ x ∈ wl g X, x.1 ≠ s) ↔ s ∉ X := by
  constructor
  · intro h hs
    exact h (s, _) (List.mem_map.2 ⟨s, hs, rfl⟩) rfl
  · intro h x hx e
    obtain ⟨y, hy, rfl⟩ := List.mem_map.1 hx
    subst e
    exact h hy

set_option maxRecDepth 100000 in
set_option maxHeartbeats 4000000 in
theorem is_calls {w : World} {p n : Nat} {fp P Q : List Nat} {g : Nat → Option Int} {lim : Int} (H : SegF w fp p n P Q g lim) {o : Value} (HO : RO w o (wl g P) (wl g Q) lim) (s : Nat) :
    Calls Try.prog 11 #[.pointer (some ⟨p, 0, none⟩), o, .int .u32 s] w (TrueSame w) := by
  have HH := Lib.hid H
  have HO' := Lib.hid HO
  obtain ⟨v0, v1, rfl, H0, H1⟩ := HO
  have H0' := Lib.hid H0
  have H1' := Lib.hid H1
  have hlP := wl_length g P
  have hlQ := wl_length g Q
  have hPl : P.length ≤ 1000 := by have := H.ok.len; omega
  have hQl : Q.length ≤ 1000 := by have := H.ok.len; omega
  obtain ⟨a0, c0, rfl, -⟩ := H0
  obtain ⟨a1, c1, rfl, -⟩ := H1
  rw [hlP] at HO' H0' ⊢
  rw [hlQ] at HO' H1' ⊢
  obtain ⟨X, hX⟩ : ∃ X, X = w.heap.size := ⟨_, rfl⟩
  have HX := Lib.hid hX
  have HPl := Lib.hid hPl
  have HQl := Lib.hid hQl
  have HlP := Lib.hid hlP
  have HlQ := Lib.hid hlQ
  clear H hlP hlQ hPl hQl
  go_enter Try.func11, Try.ntmps11
  go_wp2
  rw [← hX]
  clear hX
  go_loopw [7] (fun i wr => ∃ k : Nat, k ≤ 2 ∧ i = .int .i64 k ∧ wr.heap[X]? = some (.cells #[.slice a0 P.length c0, .slice a1 Q.length c1, .int .i64 lim] 29 (0, 0)) ∧ Frm (fun _ => False) w wr) (fun i _ => 2 - (intOf i).toNat)
  case atStart => exact ⟨0, by omega, rfl, by rw [HX.out]; exact alloc_new _ _, (Frm.refl _ w).alloc _⟩
  case round =>
    obtain ⟨k, hk, rfl, hb, hf⟩ := hrel
    have hk3 : k = 0 ∨ k = 1 ∨ k = 2 := by omega
    have Hb := Lib.hid hb
    have Hf := Lib.hid hf
    rcases hk3 with rfl | rfl | rfl
    · have hc0 := cell_at hb (o := 0) rfl
      have hc1 := cell_at hb (o := 1) rfl
      have hc2 := cell_at hb (o := 2) rfl
      clear hf hb
      go_wp2
      refine wp_region_plan 29 (fun W ↦ W.cell? ⟨X, 0, none⟩ = some (.slice a0 P.length c0) ∧ W.cell? ⟨X, 1, none⟩ = some (.slice a1 Q.length c1) ∧ W.cell? ⟨X, 2, none⟩ = some (.int .i64 lim)) [2, 7, 12, 15, 21] (.block 0 (.block 2 (.block 6 (.block 8 (.block 10 (.block 12 (.loop (.seq (.block 2 (.loop (.seq (.block 7 (.block 16 (.block 18 (.block 20 (.block 22 (.block 26 (.block 28 (.loop (.seq (.block 12 (.loop (.seq (.block 15 (.block 32 (.block 34 (.block 36 (.block 38 (.block 40 (.block 44 (.block 46 (.block 48 (.block 50 (.block 52 (.loop (.seq (.block 21 (.block 54 (.block 56 (.skip)))) (.skip)))))))))))))) (.skip)))) (.skip)))))))))) (.skip)))) (.skip))))))))) rfl rfl (by kernel_rfl) ?_ ?_
      · exact ⟨hc0, hc1, hc2⟩
      repeat (first | (refine plan_free rfl rfl (fun K hK => ?_); (go_simp; (try go_bits); (try (go_ite <;> go_prune <;> (try go_simp)))); refine hK _ (fun W hW => ?_) ?_ <;> clear hK K; (· ((go_simp; (try go_bits); (try (go_ite <;> go_prune <;> (try go_simp)))); (first | done | rfl | (simp (disch := omega) only [IntWalk.u32_in]; done) | (simp (disch := omega) only [IntWalk.i64_in]; done) | (simp (disch := omega) only [IntWalk.wrap64_in]; done))))) | (refine plan_tight rfl rfl (fun K hK => ?_); (go_simp; (try go_bits); (try (go_ite <;> go_prune <;> (try go_simp)))); refine hK _ ?_; clear hK K))
      refine plan_one rfl ?_
      clear hc0 hc1 hc2
      have HS1 := Lib.hid (HH.out.frm Hf.out.drew (fun _ _ h => h))
      go_wp2_with (go_at_call 18; refine (segList0 HS1.out).mono ?_; rintro e w1 ⟨v, rfl, hS, hf1⟩)
      have HW := Lib.hid (RW.own hS)
      have hd : Frm (fun _ => False) wr w1 := (Frm.refl _ wr).drew.trans hf1 (fun _ _ h => h)
      have Hb1 := Lib.hid (hd.heap Hb.out (fun h => h))
      have Hf1 := Lib.hid (Hf.out.trans hd (fun _ _ h => h))
      clear hf1 hd hS Hb Hf HS1
      refine ⟨⟨cell_at Hb1.out (o := 0) rfl, cell_at Hb1.out (o := 1) rfl, cell_at Hb1.out (o := 2) rfl⟩, ?_⟩
      have hc0 := cell_at Hb1.out (o := 0) rfl
      repeat (first | (refine plan_free rfl rfl (fun K hK => ?_); (go_simp; (try go_bits); (try (go_ite <;> go_prune <;> (try go_simp)))); refine hK _ (fun W hW => ?_) ?_ <;> clear hK K; (· ((go_simp; (try go_bits); (try (go_ite <;> go_prune <;> (try go_simp)))); (first | done | rfl | (simp (disch := omega) only [IntWalk.u32_in]; done) | (simp (disch := omega) only [IntWalk.i64_in]; done) | (simp (disch := omega) only [IntWalk.wrap64_in]; done))))) | (refine plan_tight rfl rfl (fun K hK => ?_); (go_simp; (try go_bits); (try (go_ite <;> go_prune <;> (try go_simp)))); refine hK _ ?_; clear hK K))
      refine plan_one rfl ?_
      go_wp2_with (go_at_call 33; refine (same16_calls HW.out (H0'.out.frm Hf1.out (fun _ _ h => h)) (by have := HPl.out; have := HlP.out; omega)).mono ?_; rintro e w2 ⟨rfl, hf2⟩)
      have Hb2 := Lib.hid (hf2.heap Hb1.out (fun h => h))
      have Hf2 := Lib.hid (Hf1.out.trans hf2 (fun _ _ h => h))
      clear hf2 Hb1 Hf1 hc0
      have hc0 := cell_at Hb2.out (o := 0) rfl
      have hc1 := cell_at Hb2.out (o := 1) rfl
      have hc2 := cell_at Hb2.out (o := 2) rfl
      refine ⟨⟨hc0, hc1, hc2⟩, ?_⟩
      repeat (first | (refine plan_free rfl rfl (fun K hK => ?_); (go_simp; (try go_bits); (try (go_ite <;> go_prune <;> (try go_simp)))); refine hK _ (fun W hW => ?_) ?_ <;> clear hK K; (· ((go_simp; (try go_bits); (try (go_ite <;> go_prune <;> (try go_simp)))); (first | done | rfl | (simp (disch := omega) only [IntWalk.u32_in]; done) | (simp (disch := omega) only [IntWalk.i64_in]; done) | (simp (disch := omega) only [IntWalk.wrap64_in]; done))))) | (refine plan_tight rfl rfl (fun K hK => ?_); (go_simp; (try go_bits); (try (go_ite <;> go_prune <;> (try go_simp)))); refine hK _ ?_; clear hK K))
      refine plan_one rfl ?_
      have HC := Lib.hid (segCost0 (HH.out.frm Hf2.out (fun _ _ h => h)))
      rw [← sumW_wl] at HC
      have HR := Lib.hid (refCost0_calls (HO'.out.frm Hf2.out (fun _ _ h => h)) (fairs_wl HH.out P) (by have := HPl.out; have := HlP.out; omega))
      have HN := Lib.hid (segLen0 (HH.out.frm Hf2.out (fun _ _ h => h)))
      generalize sumW (wl g P) = sm at HC HR
      go_wp2_with (go_at_call 19; refine HC.out.mono ?_; rintro e w' ⟨rfl, rfl⟩)
      repeat (first | (refine plan_free rfl rfl (fun K hK => ?_); (go_simp; (try go_bits); (try (go_ite <;> go_prune <;> (try go_simp)))); refine hK _ (fun W hW => ?_) ?_ <;> clear hK K; (· ((go_simp; (try go_bits); (try (go_ite <;> go_prune <;> (try go_simp)))); (first | done | rfl | (simp (disch := omega) only [IntWalk.u32_in]; done) | (simp (disch := omega) only [IntWalk.i64_in]; done) | (simp (disch := omega) only [IntWalk.wrap64_in]; done))))) | (refine plan_tight rfl rfl (fun K hK => ?_); (go_simp; (try go_bits); (try (go_ite <;> go_prune <;> (try go_simp)))); refine hK _ ?_; clear hK K))
      refine plan_one rfl ?_
      go_wp2_with (go_at_call 34; refine HR.out.mono ?_; rintro e w3 ⟨rfl, hf3⟩)
      have Hb3 := Lib.hid (hf3.heap Hb2.out (fun h => h))
      have Hf3 := Lib.hid (Hf2.out.trans hf3 (fun _ _ h => h))
      clear hf3 Hb2 Hf2 hc0 hc1 hc2 HC HR HN
      have hc0 := cell_at Hb3.out (o := 0) rfl
      have hc1 := cell_at Hb3.out (o := 1) rfl
      have hc2 := cell_at Hb3.out (o := 2) rfl
      have HN := Lib.hid (segLen0 (HH.out.frm Hf3.out (fun _ _ h => h)))
      refine ⟨⟨hc0, hc1, hc2⟩, ?_⟩
      repeat (first | (refine plan_free rfl rfl (fun K hK => ?_); (go_simp; (try go_bits); (try (go_ite <;> go_prune <;> (try go_simp)))); refine hK _ (fun W hW => ?_) ?_ <;> clear hK K; (· ((go_simp; (try go_bits); (try (go_ite <;> go_prune <;> (try go_simp)))); (first | done | rfl | (simp (disch := omega) only [IntWalk.u32_in]; done) | (simp (disch := omega) only [IntWalk.i64_in]; done) | (simp (disch := omega) only [IntWalk.wrap64_in]; done))))) | (refine plan_tight rfl rfl (fun K hK => ?_); (go_simp; (try go_bits); (try (go_ite <;> go_prune <;> (try go_simp)))); refine hK _ ?_; clear hK K))
      refine plan_one rfl ?_
      go_wp2_with (go_at_call 13; refine HN.out.mono ?_; rintro e w' ⟨rfl, rfl⟩)
      repeat (first | (refine plan_free rfl rfl (fun K hK => ?_); (go_simp; (try go_bits); (try (go_ite <;> go_prune <;> (try go_simp)))); refine hK _ (fun W hW => ?_) ?_ <;> clear hK K; (· ((go_simp; (try go_bits); (try (go_ite <;> go_prune <;> (try go_simp)))); (first | done | rfl | (simp (disch := omega) only [IntWalk.u32_in]; done) | (simp (disch := omega) only [IntWalk.i64_in]; done) | (simp (disch := omega) only [IntWalk.wrap64_in]; done))))) | (refine plan_tight rfl rfl (fun K hK => ?_); (go_simp; (try go_bits); (try (go_ite <;> go_prune <;> (try go_simp)))); refine hK _ ?_; clear hK K))
      refine plan_done ?_
      go_wp2
      go_roundw
      case rel => exact ⟨1, by omega, rfl, Hb3.out, Hf3.out⟩
      case measure => simp only [intOf]; omega
    · have hc0 := cell_at hb (o := 0) rfl
      have hc1 := cell_at hb (o := 1) rfl
      have hc2 := cell_at hb (o := 2) rfl
      clear hf hb
      go_wp2
      refine wp_region_plan 29 (fun W ↦ W.cell? ⟨X, 0, none⟩ = some (.slice a0 P.length c0) ∧ W.cell? ⟨X, 1, none⟩ = some (.slice a1 Q.length c1) ∧ W.cell? ⟨X, 2, none⟩ = some (.int .i64 lim)) [2, 7, 12, 15, 21] (.block 0 (.block 2 (.block 6 (.block 8 (.block 10 (.block 12 (.loop (.seq (.block 2 (.loop (.seq (.block 7 (.block 16 (.block 18 (.block 20 (.block 22 (.block 26 (.block 28 (.loop (.seq (.block 12 (.loop (.seq (.block 15 (.block 32 (.block 34 (.block 36 (.block 38 (.block 40 (.block 44 (.block 46 (.block 48 (.block 50 (.block 52 (.loop (.seq (.block 21 (.block 54 (.block 56 (.skip)))) (.skip)))))))))))))) (.skip)))) (.skip)))))))))) (.skip)))) (.skip))))))))) rfl rfl (by kernel_rfl) ?_ ?_
      · exact ⟨hc0, hc1, hc2⟩
      repeat (first | (refine plan_free rfl rfl (fun K hK => ?_); (go_simp; (try go_bits); (try (go_ite <;> go_prune <;> (try go_simp)))); refine hK _ (fun W hW => ?_) ?_ <;> clear hK K; (· ((go_simp; (try go_bits); (try (go_ite <;> go_prune <;> (try go_simp)))); (first | done | rfl | (simp (disch := omega) only [IntWalk.u32_in]; done) | (simp (disch := omega) only [IntWalk.i64_in]; done) | (simp (disch := omega) only [IntWalk.wrap64_in]; done))))) | (refine plan_tight rfl rfl (fun K hK => ?_); (go_simp; (try go_bits); (try (go_ite <;> go_prune <;> (try go_simp)))); refine hK _ ?_; clear hK K))
      refine plan_one rfl ?_
      clear hc0 hc1 hc2
      have HS1 := Lib.hid (HH.out.frm Hf.out.drew (fun _ _ h => h))
      go_wp2_with (go_at_call 18; refine (segList1 HS1.out).mono ?_; rintro e w1 ⟨v, rfl, hS, hf1⟩)
      have HW := Lib.hid (RW.own hS)
      have hd : Frm (fun _ => False) wr w1 := (Frm.refl _ wr).drew.trans hf1 (fun _ _ h => h)
      have Hb1 := Lib.hid (hd.heap Hb.out (fun h => h))
      have Hf1 := Lib.hid (Hf.out.trans hd (fun _ _ h => h))
      clear hf1 hd hS Hb Hf HS1
      refine ⟨⟨cell_at Hb1.out (o := 0) rfl, cell_at Hb1.out (o := 1) rfl, cell_at Hb1.out (o := 2) rfl⟩, ?_⟩
      have hc0 := cell_at Hb1.out (o := 0) rfl
      repeat (first | (refine plan_free rfl rfl (fun K hK => ?_); (go_simp; (try go_bits); (try (go_ite <;> go_prune <;> (try go_simp)))); refine hK _ (fun W hW => ?_) ?_ <;> clear hK K; (· ((go_simp; (try go_bits); (try (go_ite <;> go_prune <;> (try go_simp)))); (first | done | rfl | (simp (disch := omega) only [IntWalk.u32_in]; done) | (simp (disch := omega) only [IntWalk.i64_in]; done) | (simp (disch := omega) only [IntWalk.wrap64_in]; done))))) | (refine plan_tight rfl rfl (fun K hK => ?_); (go_simp; (try go_bits); (try (go_ite <;> go_prune <;> (try go_simp)))); refine hK _ ?_; clear hK K))
      refine plan_one rfl ?_
      go_wp2_with (go_at_call 33; refine (same16_calls HW.out (H1'.out.frm Hf1.out (fun _ _ h => h)) (by have := HQl.out; have := HlQ.out; omega)).mono ?_; rintro e w2 ⟨rfl, hf2⟩)
      have Hb2 := Lib.hid (hf2.heap Hb1.out (fun h => h))
      have Hf2 := Lib.hid (Hf1.out.trans hf2 (fun _ _ h => h))
      clear hf2 Hb1 Hf1 hc0
      have hc0 := cell_at Hb2.out (o := 0) rfl
      have hc1 := cell_at Hb2.out (o := 1) rfl
      have hc2 := cell_at Hb2.out (o := 2) rfl
      refine ⟨⟨hc0, hc1, hc2⟩, ?_⟩
      repeat (first | (refine plan_free rfl rfl (fun K hK => ?_); (go_simp; (try go_bits); (try (go_ite <;> go_prune <;> (try go_simp)))); refine hK _ (fun W hW => ?_) ?_ <;> clear hK K; (· ((go_simp; (try go_bits); (try (go_ite <;> go_prune <;> (try go_simp)))); (first | done | rfl | (simp (disch := omega) only [IntWalk.u32_in]; done) | (simp (disch := omega) only [IntWalk.i64_in]; done) | (simp (disch := omega) only [IntWalk.wrap64_in]; done))))) | (refine plan_tight rfl rfl (fun K hK => ?_); (go_simp; (try go_bits); (try (go_ite <;> go_prune <;> (try go_simp)))); refine hK _ ?_; clear hK K))
      refine plan_one rfl ?_
      have HC := Lib.hid (segCost1 (HH.out.frm Hf2.out (fun _ _ h => h)))
      rw [← sumW_wl] at HC
      have HR := Lib.hid (refCost1_calls (HO'.out.frm Hf2.out (fun _ _ h => h)) (fairs_wl HH.out Q) (by have := HQl.out; have := HlQ.out; omega))
      have HN := Lib.hid (segLen1 (HH.out.frm Hf2.out (fun _ _ h => h)))
      generalize sumW (wl g Q) = sm at HC HR
      go_wp2_with (go_at_call 19; refine HC.out.mono ?_; rintro e w' ⟨rfl, rfl⟩)
      repeat (first | (refine plan_free rfl rfl (fun K hK => ?_); (go_simp; (try go_bits); (try (go_ite <;> go_prune <;> (try go_simp)))); refine hK _ (fun W hW => ?_) ?_ <;> clear hK K; (· ((go_simp; (try go_bits); (try (go_ite <;> go_prune <;> (try go_simp)))); (first | done | rfl | (simp (disch := omega) only [IntWalk.u32_in]; done) | (simp (disch := omega) only [IntWalk.i64_in]; done) | (simp (disch := omega) only [IntWalk.wrap64_in]; done))))) | (refine plan_tight rfl rfl (fun K hK => ?_); (go_simp; (try go_bits); (try (go_ite <;> go_prune <;> (try go_simp)))); refine hK _ ?_; clear hK K))
      refine plan_one rfl ?_
      go_wp2_with (go_at_call 34; refine HR.out.mono ?_; rintro e w3 ⟨rfl, hf3⟩)
      have Hb3 := Lib.hid (hf3.heap Hb2.out (fun h => h))
      have Hf3 := Lib.hid (Hf2.out.trans hf3 (fun _ _ h => h))
      clear hf3 Hb2 Hf2 hc0 hc1 hc2 HC HR HN
      have hc0 := cell_at Hb3.out (o := 0) rfl
      have hc1 := cell_at Hb3.out (o := 1) rfl
      have hc2 := cell_at Hb3.out (o := 2) rfl
      have HN := Lib.hid (segLen1 (HH.out.frm Hf3.out (fun _ _ h => h)))
      refine ⟨⟨hc0, hc1, hc2⟩, ?_⟩
      repeat (first | (refine plan_free rfl rfl (fun K hK => ?_); (go_simp; (try go_bits); (try (go_ite <;> go_prune <;> (try go_simp)))); refine hK _ (fun W hW => ?_) ?_ <;> clear hK K; (· ((go_simp; (try go_bits); (try (go_ite <;> go_prune <;> (try go_simp)))); (first | done | rfl | (simp (disch := omega) only [IntWalk.u32_in]; done) | (simp (disch := omega) only [IntWalk.i64_in]; done) | (simp (disch := omega) only [IntWalk.wrap64_in]; done))))) | (refine plan_tight rfl rfl (fun K hK => ?_); (go_simp; (try go_bits); (try (go_ite <;> go_prune <;> (try go_simp)))); refine hK _ ?_; clear hK K))
      refine plan_one rfl ?_
      go_wp2_with (go_at_call 13; refine HN.out.mono ?_; rintro e w' ⟨rfl, rfl⟩)
      repeat (first | (refine plan_free rfl rfl (fun K hK => ?_); (go_simp; (try go_bits); (try (go_ite <;> go_prune <;> (try go_simp)))); refine hK _ (fun W hW => ?_) ?_ <;> clear hK K; (· ((go_simp; (try go_bits); (try (go_ite <;> go_prune <;> (try go_simp)))); (first | done | rfl | (simp (disch := omega) only [IntWalk.u32_in]; done) | (simp (disch := omega) only [IntWalk.i64_in]; done) | (simp (disch := omega) only [IntWalk.wrap64_in]; done))))) | (refine plan_tight rfl rfl (fun K hK => ?_); (go_simp; (try go_bits); (try (go_ite <;> go_prune <;> (try go_simp)))); refine hK _ ?_; clear hK K))
      refine plan_done ?_
      go_wp2
      go_roundw
      case rel => exact ⟨2, by omega, rfl, Hb3.out, Hf3.out⟩
      case measure => simp only [intOf]; omega
    · clear hb hf
      have HN := Lib.hid (segLen_no (HH.out.frm Hf.out (fun _ _ h => h)) (-1) (by decide))
      go_wp2_with (go_at_call 18; refine (segList_no (HH.out.frm Hf.out (fun _ _ h => h)) 2 (by decide)).mono ?_)
      rintro e w1 ⟨rfl, hf1⟩
      have Hb1 := Lib.hid (hf1.heap Hb.out (fun h => h))
      have Hf1 := Lib.hid (Hf.out.trans hf1 (fun _ _ h => h))
      clear hf1 HN Hb Hf
      have hc0 := cell_at Hb1.out (o := 0) rfl
      have hc1 := cell_at Hb1.out (o := 1) rfl
      have hc2 := cell_at Hb1.out (o := 2) rfl
      have HF1 := Lib.hid (HH.out.frm Hf1.out (fun _ _ h => h))
      go_wp2_with (first | (go_at_call 13; refine (segLen_no HF1.out (-1) (by decide)).mono ?_; rintro e w' ⟨rfl, rfl⟩) | (go_at_call 19; refine (segCost_no HF1.out 2 (by decide)).mono ?_; rintro e w' ⟨rfl, rfl⟩) | (go_at_call 35; refine (refFind_calls (HO'.out.frm Hf1.out (fun _ _ h => h)) s (by have := HPl.out; have := HlP.out; omega) (by have := HQl.out; have := HlQ.out; omega)).mono ?_))
      rintro e w2 ⟨a, b, rfl, hfd, hf2⟩
      have Hb2 := Lib.hid (hf2.heap Hb1.out (fun h => h))
      have Hf2 := Lib.hid (Hf1.out.trans hf2 (fun _ _ h => h))
      have HF2 := Lib.hid (HH.out.frm Hf2.out (fun _ _ h => h))
      clear hf2 Hb1 Hf1 hc0 hc1 hc2 HF1
      have hc0 := cell_at Hb2.out (o := 0) rfl
      have hc1 := cell_at Hb2.out (o := 1) rfl
      have Hfd := Lib.hid hfd
      clear hfd
      by_cases hs : s < 4194304
      · have Hs := Lib.hid hs
        clear hs
        rcases Hfd.out with ⟨k, hk, rfl, rfl, hks⟩ | ⟨k, hk, rfl, rfl, hks, hno⟩ | ⟨rfl, rfl, hn0, hn1⟩
        · have hk' : k < P.length := by rw [← HlP.out]; exact hk
          have hPk : P[k] = s := by rw [← hks]; simp [wl]
          have hsP : s ∈ P := by rw [← hPk]; exact List.getElem_mem hk'
          obtain ⟨c, hc⟩ : ∃ c, g s = some c := by
            have := (HH.out.ok.dom s).2 (.inl hsP)
            cases h : g s with
            | none => rw [h] at this; cases this
            | some c => exact ⟨c, rfl⟩
          have hwc : (wl g P)[k].2 = c := by simp only [wl, List.getElem_map, hPk, hc]; rfl
          obtain ⟨_, _, q1, h1⟩ := H0'.out.frm Hf2.out (fun _ _ h => h)
          injection q1 with q1 q1n q1c
          subst q1; subst q1c
          clear q1n
          obtain ⟨b1, o1, e1, -, g1⟩ := h1 k hk
          subst e1
          rw [hwc] at g1
          have hst := Lib.hid (stands_any s 0 c 0 (by have := segOf_ok HF2.out s c hc; rw [if_neg (HH.out.ok.dis s hsP)] at this; exact this))
          clear h1 hk hks hPk hsP hc hwc
          go_wp2_with (first | (go_at_call 36; refine (fair_ok s 0 Hs.out (by decide)).mono ?_; rintro e w' ⟨rfl, rfl⟩) | (go_at_call 29; refine hst.out.mono ?_; rintro e w' ⟨rfl, rfl⟩))
          go_ret
          exact ⟨rfl, Hf2.out⟩
        · have hk' : k < Q.length := by rw [← HlQ.out]; exact hk
          have hPk : Q[k] = s := by rw [← hks]; simp [wl]
          have hsP : s ∈ Q := by rw [← hPk]; exact List.getElem_mem hk'
          obtain ⟨c, hc⟩ : ∃ c, g s = some c := by
            have := (HH.out.ok.dom s).2 (.inr hsP)
            cases h : g s with
            | none => rw [h] at this; cases this
            | some c => exact ⟨c, rfl⟩
          have hwc : (wl g Q)[k].2 = c := by simp only [wl, List.getElem_map, hPk, hc]; rfl
          obtain ⟨_, _, q1, h1⟩ := H1'.out.frm Hf2.out (fun _ _ h => h)
          injection q1 with q1 q1n q1c
          subst q1; subst q1c
          clear q1n
          obtain ⟨b1, o1, e1, -, g1⟩ := h1 k hk
          subst e1
          rw [hwc] at g1
          have hst := Lib.hid (stands_any s 1 c 0 (by have := segOf_ok HF2.out s c hc; rw [if_pos hsP] at this; exact this))
          clear h1 hk hks hPk hsP hc hwc hno
          go_wp2_with (first | (go_at_call 36; refine (fair_ok s 0 Hs.out (by decide)).mono ?_; rintro e w' ⟨rfl, rfl⟩) | (go_at_call 29; refine hst.out.mono ?_; rintro e w' ⟨rfl, rfl⟩))
          go_ret
          exact ⟨rfl, Hf2.out⟩
        · have hgn : g s = none := by
            cases h : g s with
            | none => rfl
            | some c => rcases (HH.out.ok.dom s).1 (by rw [h]; rfl) with h | h; exact absurd h (wl_mem.1 hn0); exact absurd h (wl_mem.1 hn1)
          have hst := Lib.hid (stands_any s 0 0 9 (segOf_none HF2.out s Hs.out hgn))
          clear hgn hn0 hn1
          go_wp2_with (first | (go_at_call 36; refine (fair_ok s 0 Hs.out (by decide)).mono ?_; rintro e w' ⟨rfl, rfl⟩) | (go_at_call 29; refine hst.out.mono ?_; rintro e w' ⟨rfl, rfl⟩))
          go_ret
          exact ⟨rfl, Hf2.out⟩
      · have Hs := Lib.hid (Nat.le_of_not_lt hs)
        clear hs
        have hst := Lib.hid (stands_any s 0 0 2 (segOf_arg HF2.out s Hs.out))
        go_wp2_with (first | (go_at_call 36; refine (fair_no s 0 (.inl Hs.out)).mono ?_; rintro e w' ⟨rfl, rfl⟩) | (go_at_call 29; refine hst.out.mono ?_; rintro e w' ⟨rfl, rfl⟩))
        go_ret
        exact ⟨rfl, Hf2.out⟩
end Go.Proofs.Ytogidmjilbpacaa
