/- Layer 16: take. -/
import Derived.Test.YtogidmjilbpacaaSeg2
namespace Go.Proofs.Ytogidmjilbpacaa
open Go.RowKit Go.Cub

theorem sumC_erase (g : Nat → Option Int) {s : Nat} : ∀ {xs : List Nat}, s ∈ xs → sumC g (xs.erase s) = sumC g xs - (g s).getD 0
  | [], h => by cases h
  | x :: xs, h => by
    by_cases e : x = s
    · subst e; rw [List.erase_cons_head, sumC]; omega
    · rw [List.erase_cons_tail (by simpa using e), sumC, sumC, sumC_erase g (by
        rcases List.mem_cons.1 h with h | h
        · exact absurd h.symm e
        · exact h)]
      omega

section
variable {w : World} {p q0 q1 bM n : Nat} {fp fp0 fp1 P Q : List Nat} {g : Nat → Option Int} {lim : Int}

theorem SegB.wfs (H : SegB w p q0 q1 bM n fp0 fp1 P Q g lim) {s : Nat} {c : Int} (h : g s = some c) : s < 4194304 := by
  rcases (H.dom s).1 (by simp [h]) with h | h
  · exact H.l0.facts.2.1 s h
  · exact H.l1.facts.2.1 s h

theorem SegB.take0 (H : SegB w p q0 q1 bM n fp0 fp1 P Q g lim) {w' : World} {s : Nat} {c : Int} (hg : g s = some c) (hP : s ∈ P)
    (hL : LruF w' fp0 q0 (P.erase s))
    (hbox : w'.heap[p]? = some (.cells #[.pointer (some ⟨q0, 0, none⟩), .pointer (some ⟨q1, 0, none⟩), .int .i64 (sumC g P - c), .int .i64 (sumC g Q), .map (some bM), .int .i64 lim] 68 (0, 0)))
    (hmap : GMap Try.prog 34 3 .u32 .i64 w' bM n (upd g s none)) (hf : Frm (fun b => b = p ∨ b = bM ∨ b ∈ fp0) w w') :
    SegB w' p q0 q1 bM n fp0 fp1 (P.erase s) (Q.erase s) (upd g s none) lim := by
  have hQ := H.dis s hP
  have hN := H.l0.facts.1
  have hne : s ∉ P.erase s := fun h => ((List.Nodup.mem_erase_iff hN).1 h).1 rfl
  rw [List.erase_of_not_mem hQ]
  refine ⟨?_, hL, H.l1.frm hf ?_, hmap, ?_, ?_, ?_, H.a0, H.a1, H.a2, H.a3, H.a4, H.a5, ?_, H.cnt, H.lim1⟩
  · rw [hbox, sumC_upd g _ hne, sumC_upd g _ hQ, sumC_erase g hP, hg]; rfl
  · rintro b hb (rfl | rfl | h)
    · exact H.a1 hb
    · exact H.a4 hb
    · exact H.a5 b h hb
  · intro x
    by_cases e : x = s
    · subst e; simp [hne, hQ]
    · rw [upd_ne _ _ e, H.dom x, List.mem_erase_of_ne e]
  · exact fun x hx => H.dis x (List.mem_of_mem_erase hx)
  · intro x c' hx
    by_cases e : x = s
    · subst e; rw [upd_same] at hx; cases hx
    · rw [upd_ne _ _ e] at hx; exact H.cost x c' hx
  · have := List.length_erase_le (a := s) (l := P); have := H.len; omega

theorem SegB.take1 (H : SegB w p q0 q1 bM n fp0 fp1 P Q g lim) {w' : World} {s : Nat} {c : Int} (hg : g s = some c) (hQ : s ∈ Q)
    (hL : LruF w' fp1 q1 (Q.erase s))
    (hbox : w'.heap[p]? = some (.cells #[.pointer (some ⟨q0, 0, none⟩), .pointer (some ⟨q1, 0, none⟩), .int .i64 (sumC g P), .int .i64 (sumC g Q - c), .map (some bM), .int .i64 lim] 68 (0, 0)))
    (hmap : GMap Try.prog 34 3 .u32 .i64 w' bM n (upd g s none)) (hf : Frm (fun b => b = p ∨ b = bM ∨ b ∈ fp1) w w') :
    SegB w' p q0 q1 bM n fp0 fp1 (P.erase s) (Q.erase s) (upd g s none) lim := by
  have hP : s ∉ P := fun h => H.dis s h hQ
  have hN := H.l1.facts.1
  have hne : s ∉ Q.erase s := fun h => ((List.Nodup.mem_erase_iff hN).1 h).1 rfl
  rw [List.erase_of_not_mem hP]
  refine ⟨?_, H.l0.frm hf ?_, hL, hmap, ?_, ?_, ?_, H.a0, H.a1, H.a2, H.a3, H.a4, H.a5, ?_, H.cnt, H.lim1⟩
  · rw [hbox, sumC_upd g _ hne, sumC_upd g _ hP, sumC_erase g hQ, hg]; rfl
  · rintro b hb (rfl | rfl | h)
    · exact H.a0 hb
    · exact H.a3 hb
    · exact H.a5 b hb h
  · intro x
    by_cases e : x = s
    · subst e; simp [hne, hP]
    · rw [upd_ne _ _ e, H.dom x, List.mem_erase_of_ne e]
  · exact fun x hx hx2 => H.dis x hx (List.mem_of_mem_erase hx2)
  · intro x c' hx
    by_cases e : x = s
    · subst e; rw [upd_same] at hx; cases hx
    · rw [upd_ne _ _ e] at hx; exact H.cost x c' hx
  · have := List.length_erase_le (a := s) (l := Q); have := H.len; omega

theorem wf_u32 {s : Nat} (h : s < 4194304) : (Lit.int .u32 s).wf = true := by simp [Lit.wf, IntKind.min, IntKind.max, IntKind.signed, IntKind.bits]; omega
theorem wf_cost {c : Int} (h : 0 ≤ c ∧ c ≤ 1099511627776) : (Lit.int .i64 c).wf = true := by simp [Lit.wf, IntKind.min, IntKind.max, IntKind.signed, IntKind.bits]; omega

set_option maxRecDepth 100000 in
theorem segTake_none (H : SegB w p q0 q1 bM n fp0 fp1 P Q g lim) (s : Nat) (hs : s < 4194304) (hg : g s = none) :
    Calls Try.prog 41 #[.pointer (some ⟨p, 0, none⟩), .int .u32 s] w (fun e w' => e = .returned (.bool false) ∧ w = w') := by
  have hc4 := cell_at H.box (o := 4) rfl
  have hwf := wf_u32 hs
  have HM := Lib.hid H.map
  have hc1 : (g s).getD 0 = 0 := by rw [hg]; rfl
  have hc2 : (g s).isSome = false := by rw [hg]; rfl
  clear H hs hg
  go_enter Try.func41, Try.ntmps41
  go_wp2_with (at_lookup; refine wpList_gmap_look _ rfl _ _ 66 rfl 34 3 .u32 .i64 Try.underlying34 Try.underlying66 Try.underlying3 (zero_int _) bM _ _ rfl HM.out s rfl hwf 0 false hc1 hc2 ?_)
  go_ret
  exact ⟨rfl, rfl⟩

set_option maxRecDepth 100000 in
set_option maxHeartbeats 2000000 in
theorem segTake0 (H : SegB w p q0 q1 bM n fp0 fp1 P Q g lim) (s : Nat) (c : Int) (hg : g s = some c) (hP : s ∈ P) :
    Calls Try.prog 41 #[.pointer (some ⟨p, 0, none⟩), .int .u32 s] w (fun e w' => e = .returned (.bool true) ∧ SegB w' p q0 q1 bM n fp0 fp1 (P.erase s) (Q.erase s) (upd g s none) lim ∧ Frm (fun b => b = p ∨ b = bM ∨ b ∈ fp0) w w') := by
  have g0 := cell_at H.box (o := 0) rfl
  have g4 := cell_at H.box (o := 4) rfl
  have hs := H.wfs hg
  have hwf := wf_u32 hs
  have HH := Lib.hid H
  have hc1 : (g s).getD 0 = c := by rw [hg]; rfl
  have hc2 : (g s).isSome = true := by rw [hg]; rfl
  have hQ := H.dis s hP
  have hof : (if s ∈ Q then (1 : Int) else 0) = 0 := if_neg hQ
  have hsb := sumC_bound H.cost P
  have hcb := H.cost s c hg
  have hce : c ≤ sumC g P := by
    have h1 := sumC_erase g hP
    rw [hg] at h1
    simp only [Option.getD_some] at h1
    have := sumC_bound H.cost (P.erase s)
    omega
  have hlP : (P.length : Int) * 1099511627776 ≤ 1000 * 1099511627776 := by have := H.len; omega
  have Hs := Lib.hid hs
  have HP := Lib.hid hP
  have Hg := Lib.hid hg
  have Hof := Lib.hid hof
  clear H hs hP hg hQ hof
  go_enter Try.func41, Try.ntmps41
  go_wp2_with (first | (at_lookup; refine wpList_gmap_look _ rfl _ _ 66 rfl 34 3 .u32 .i64 Try.underlying34 Try.underlying66 Try.underlying3 (zero_int _) bM _ _ rfl HH.out.map s rfl hwf c true hc1 hc2 ?_) | (go_at_call 61; refine (segOf_calls HH.out s Hs.out).mono ?_; rw [Hof.out]; rintro e w' ⟨rfl, rfl⟩) | (go_at_call 46; refine (lruRemove_calls HH.out.l0 s HP.out).mono ?_))
  rintro e w1 ⟨rfl, hL1, hf1⟩
  have hb1 := hf1.heap HH.out.box HH.out.a0
  have hm1 := HH.out.map.frm hf1 HH.out.a3
  have gc := cell_at hb1 (o := 2) rfl
  have r2 := free_at hb1 2
  generalize hsc : sumC g P = c0 at gc hsb hce
  have Hsc := Lib.hid hsc
  clear hsc g0 g4
  go_wp2
  refine wp_region_plan 12 (fun _ => True) [11] (.block 0 (.block 2 (.block 4 (.block 6 (.block 8 (.block 11 (.block 12 (.block 14 (.block 16 (.block 18 (.block 20 (.loop (.seq (.block 11 (.skip)) (.skip)))))))))))))) rfl rfl (by kernel_rfl) trivial ?_
  repeat (first | (refine plan_free rfl rfl (fun K hK => ?_); (go_simp; (try go_bits); (try (go_ite <;> go_prune <;> (try go_simp)))); refine hK _ (fun W hW => ?_) ?_ <;> clear hK K; (· ((go_simp; (try go_bits); (try (go_ite <;> go_prune <;> (try go_simp)))); (first | done | rfl | (simp (disch := omega) only [IntWalk.u32_in]; done) | (simp (disch := omega) only [IntWalk.i64_in]; done) | (simp (disch := omega) only [IntWalk.wrap64_in]; done))))) | (refine plan_tight rfl rfl (fun K hK => ?_); (go_simp; (try go_bits); (try (go_ite <;> go_prune <;> (try go_simp)))); refine hK _ ?_; clear hK K))
  refine plan_one rfl ?_
  go_wp2
  refine plan_done ?_
  generalize hw2 : (World.setCell _ _ _).drew = w2
  have hb2 : w2.heap[p]? = some (.cells #[.pointer (some ⟨q0, 0, none⟩), .pointer (some ⟨q1, 0, none⟩), .int .i64 (sumC g P - c), .int .i64 (sumC g Q), .map (some bM), .int .i64 lim] 68 (0, 0)) := by
    rw [← hw2, Hsc.out]
    exact set_same hb1 2 _
  have hf2 : Frm (fun b => b = p) w1 w2 := by
    rw [← hw2]
    exact ((Frm.refl (fun b => b = p) w1).setCell (a := ⟨p, 2, none⟩) (fun _ => rfl) _).drew
  have hM2 := hm1.frm hf2 HH.out.a2.symm
  have hL2 := hL1.frm hf2 (fun b hb h => HH.out.a0 (by rw [← h]; exact hb))
  have hf12 : Frm (fun b => b = p ∨ b = bM ∨ b ∈ fp0) w w2 := (hf1.mono (T := fun b => b = p ∨ b = bM ∨ b ∈ fp0) (fun _ _ h => .inr (.inr h))).trans hf2 (fun _ _ h => .inl h)
  have g4 := cell_at hb2 (o := 4) rfl
  have HB2 := Lib.hid hb2
  have HM2 := Lib.hid hM2
  have HL2 := Lib.hid hL2
  have HF2 := Lib.hid hf12
  clear hw2 hf2 hM2 hb2 hL2 hL1 hf1 hf12 hb1 hm1 gc r2
  go_wp2_with (at_delete; refine wpList_gmap_del _ rfl _ _ 66 34 rfl 3 .u32 .i64 Try.underlying34 Try.underlying66 bM n _ rfl HM2.out s rfl hwf ?_)
  intro w3 hM3 hf3
  go_wp2
  go_ret
  have hf : Frm (fun b => b = p ∨ b = bM ∨ b ∈ fp0) w w3 := HF2.out.trans hf3 (fun b _ h => .inr (.inl h))
  exact ⟨rfl, HH.out.take0 Hg.out HP.out (HL2.out.frm hf3 (fun b hb h => HH.out.a3 (by rw [← h]; exact hb))) (hf3.heap HB2.out HH.out.a2) hM3 hf, hf⟩

set_option maxRecDepth 100000 in
set_option maxHeartbeats 2000000 in
theorem segTake1 (H : SegB w p q0 q1 bM n fp0 fp1 P Q g lim) (s : Nat) (c : Int) (hg : g s = some c) (hQ : s ∈ Q) :
    Calls Try.prog 41 #[.pointer (some ⟨p, 0, none⟩), .int .u32 s] w (fun e w' => e = .returned (.bool true) ∧ SegB w' p q0 q1 bM n fp0 fp1 (P.erase s) (Q.erase s) (upd g s none) lim ∧ Frm (fun b => b = p ∨ b = bM ∨ b ∈ fp1) w w') := by
  have g0 := cell_at H.box (o := 1) rfl
  have g4 := cell_at H.box (o := 4) rfl
  have hs := H.wfs hg
  have hwf := wf_u32 hs
  have HH := Lib.hid H
  have hc1 : (g s).getD 0 = c := by rw [hg]; rfl
  have hc2 : (g s).isSome = true := by rw [hg]; rfl
  have hof : (if s ∈ Q then (1 : Int) else 0) = 1 := if_pos hQ
  have hsb := sumC_bound H.cost Q
  have hcb := H.cost s c hg
  have hce : c ≤ sumC g Q := by
    have h1 := sumC_erase g hQ
    rw [hg] at h1
    simp only [Option.getD_some] at h1
    have := sumC_bound H.cost (Q.erase s)
    omega
  have hlP : (Q.length : Int) * 1099511627776 ≤ 1000 * 1099511627776 := by have := H.len; omega
  have Hs := Lib.hid hs
  have HQ := Lib.hid hQ
  have Hg := Lib.hid hg
  have Hof := Lib.hid hof
  clear H hs hg hQ hof
  go_enter Try.func41, Try.ntmps41
  go_wp2_with (first | (at_lookup; refine wpList_gmap_look _ rfl _ _ 66 rfl 34 3 .u32 .i64 Try.underlying34 Try.underlying66 Try.underlying3 (zero_int _) bM _ _ rfl HH.out.map s rfl hwf c true hc1 hc2 ?_) | (go_at_call 61; refine (segOf_calls HH.out s Hs.out).mono ?_; rw [Hof.out]; rintro e w' ⟨rfl, rfl⟩) | (go_at_call 46; refine (lruRemove_calls HH.out.l1 s HQ.out).mono ?_))
  rintro e w1 ⟨rfl, hL1, hf1⟩
  have hb1 := hf1.heap HH.out.box HH.out.a1
  have hm1 := HH.out.map.frm hf1 HH.out.a4
  have gc := cell_at hb1 (o := 3) rfl
  have r2 := free_at hb1 3
  generalize hsc : sumC g Q = c0 at gc hsb hce
  have Hsc := Lib.hid hsc
  clear hsc g0 g4
  go_wp2
  refine wp_region_plan 12 (fun _ => True) [11] (.block 0 (.block 2 (.block 4 (.block 6 (.block 8 (.block 11 (.block 12 (.block 14 (.block 16 (.block 18 (.block 20 (.loop (.seq (.block 11 (.skip)) (.skip)))))))))))))) rfl rfl (by kernel_rfl) trivial ?_
  repeat (first | (refine plan_free rfl rfl (fun K hK => ?_); (go_simp; (try go_bits); (try (go_ite <;> go_prune <;> (try go_simp)))); refine hK _ (fun W hW => ?_) ?_ <;> clear hK K; (· ((go_simp; (try go_bits); (try (go_ite <;> go_prune <;> (try go_simp)))); (first | done | rfl | (simp (disch := omega) only [IntWalk.u32_in]; done) | (simp (disch := omega) only [IntWalk.i64_in]; done) | (simp (disch := omega) only [IntWalk.wrap64_in]; done))))) | (refine plan_tight rfl rfl (fun K hK => ?_); (go_simp; (try go_bits); (try (go_ite <;> go_prune <;> (try go_simp)))); refine hK _ ?_; clear hK K))
  refine plan_one rfl ?_
  go_wp2
  refine plan_done ?_
  generalize hw2 : (World.setCell _ _ _).drew = w2
  have hb2 : w2.heap[p]? = some (.cells #[.pointer (some ⟨q0, 0, none⟩), .pointer (some ⟨q1, 0, none⟩), .int .i64 (sumC g P), .int .i64 (sumC g Q - c), .map (some bM), .int .i64 lim] 68 (0, 0)) := by
    rw [← hw2, Hsc.out]
    exact set_same hb1 3 _
  have hf2 : Frm (fun b => b = p) w1 w2 := by
    rw [← hw2]
    exact ((Frm.refl (fun b => b = p) w1).setCell (a := ⟨p, 3, none⟩) (fun _ => rfl) _).drew
  have hM2 := hm1.frm hf2 HH.out.a2.symm
  have hL2 := hL1.frm hf2 (fun b hb h => HH.out.a1 (by rw [← h]; exact hb))
  have hf12 : Frm (fun b => b = p ∨ b = bM ∨ b ∈ fp1) w w2 := (hf1.mono (T := fun b => b = p ∨ b = bM ∨ b ∈ fp1) (fun _ _ h => .inr (.inr h))).trans hf2 (fun _ _ h => .inl h)
  have g4 := cell_at hb2 (o := 4) rfl
  have HB2 := Lib.hid hb2
  have HM2 := Lib.hid hM2
  have HL2 := Lib.hid hL2
  have HF2 := Lib.hid hf12
  clear hw2 hf2 hM2 hb2 hL2 hL1 hf1 hf12 hb1 hm1 gc r2
  go_wp2_with (at_delete; refine wpList_gmap_del _ rfl _ _ 66 34 rfl 3 .u32 .i64 Try.underlying34 Try.underlying66 bM n _ rfl HM2.out s rfl hwf ?_)
  intro w3 hM3 hf3
  go_wp2
  go_ret
  have hf : Frm (fun b => b = p ∨ b = bM ∨ b ∈ fp1) w w3 := HF2.out.trans hf3 (fun b _ h => .inr (.inl h))
  exact ⟨rfl, HH.out.take1 Hg.out HQ.out (HL2.out.frm hf3 (fun b hb h => HH.out.a4 (by rw [← h]; exact hb))) (hf3.heap HB2.out HH.out.a2) hM3 hf, hf⟩
end
end Go.Proofs.Ytogidmjilbpacaa
