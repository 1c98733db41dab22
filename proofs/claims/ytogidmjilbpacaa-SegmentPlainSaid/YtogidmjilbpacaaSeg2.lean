/- Layer 16: put. -/
import Derived.Test.YtogidmjilbpacaaSeg1
import Derived.Test.YtogidmjilbpacaaPlan
namespace Go.Proofs.Ytogidmjilbpacaa
open Go.RowKit Go.Cub

theorem sumC_append (g : Nat → Option Int) : ∀ xs ys, sumC g (xs ++ ys) = sumC g xs + sumC g ys
  | [], ys => by simp [sumC]
  | x :: xs, ys => by
    rw [List.cons_append, sumC, sumC, sumC_append g xs ys]; omega
theorem sumC_upd (g : Nat → Option Int) {s : Nat} (v : Option Int) : ∀ {xs : List Nat}, s ∉ xs → sumC (upd g s v) xs = sumC g xs
  | [], _ => rfl
  | x :: xs, h => by
    have hx : x ≠ s := fun e => h (by simp [e])
    rw [sumC, sumC, upd_ne _ _ hx, sumC_upd g v (fun hm => h (List.mem_cons_of_mem _ hm))]
theorem sumC_bound {g : Nat → Option Int} (hg : ∀ x c, g x = some c → 0 ≤ c ∧ c ≤ 1099511627776) : ∀ xs : List Nat, 0 ≤ sumC g xs ∧ sumC g xs ≤ xs.length * 1099511627776
  | [] => by simp [sumC]
  | x :: xs => by
    have ih := sumC_bound hg xs
    rw [sumC, List.length_cons]
    cases hx : g x with
    | none => simp only [Option.getD_none]; omega
    | some c => have := hg x c hx; simp only [Option.getD_some]; omega

section
variable {w : World} {p q0 q1 bM n : Nat} {fp0 fp1 P Q : List Nat} {g : Nat → Option Int} {lim : Int}

/-- .. its blocks are those of fp. -/
def SegF (w : World) (fp : List Nat) (p n : Nat) (P Q : List Nat) (g : Nat → Option Int) (lim : Int) : Prop :=
  ∃ q0 q1 bM fp0 fp1, fp = p :: bM :: (fp0 ++ fp1) ∧ SegB w p q0 q1 bM n fp0 fp1 P Q g lim

def GivesSeg (w : World) (fp : List Nat) (p n : Nat) (P Q : List Nat) (g : Nat → Option Int) (lim : Int) (v : Value) (e : Ending) (w' : World) : Prop :=
  e = .returned v ∧ ∃ fp', SegF w' fp' p n P Q g lim ∧ Sub w fp fp' ∧ Frm (fun b => b ∈ fp) w w'

set_option maxRecDepth 100000 in
theorem zero_int (w : World) : (zeroValue 3).run Try.prog w = .ok (.int .i64 0) w := by kernel_rfl

theorem SegB.put0 (H : SegB w p q0 q1 bM n fp0 fp1 P Q g lim) {w' : World} {fp : List Nat} {s : Nat} {c : Int} (hc : 0 ≤ c ∧ c ≤ 1099511627776) (hP : s ∉ P) (hQ : s ∉ Q) (hlen : P.length + Q.length < 1000) (hn : n < 1000000)
    (hL : LruF w' fp q0 (P ++ [s])) (hsub : Sub w fp0 fp)
    (hbox : w'.heap[p]? = some (.cells #[.pointer (some ⟨q0, 0, none⟩), .pointer (some ⟨q1, 0, none⟩), .int .i64 (sumC g P + c), .int .i64 (sumC g Q), .map (some bM), .int .i64 lim] 68 (0, 0)))
    (hmap : GMap Try.prog 34 3 .u32 .i64 w' bM (n + 1) (upd g s (some c))) (hf : Frm (fun b => b = p ∨ b = bM ∨ b ∈ fp0) w w') :
    SegB w' p q0 q1 bM (n + 1) fp fp1 (P ++ [s]) Q (upd g s (some c)) lim := by
  have hp := lt_of_some H.box
  have hm := H.map.lt
  have h1 := H.l1.lt
  refine ⟨?_, hL, H.l1.frm hf ?_, hmap, ?_, ?_, ?_, ?_, H.a1, H.a2, ?_, H.a4, ?_, ?_, ?_, H.lim1⟩
  · rw [hbox, sumC_append, sumC_upd g _ hP, sumC_upd g _ hQ]
    simp [sumC]
  · rintro b hb (rfl | rfl | h)
    · exact H.a1 hb
    · exact H.a4 hb
    · exact H.a5 b h hb
  · intro x
    by_cases e : x = s
    · subst e; simp
    · rw [upd_ne _ _ e, H.dom x]; simp [e]
  · intro x hx
    rw [List.mem_append] at hx
    rcases hx with hx | hx
    · exact H.dis x hx
    · simp at hx; subst hx; exact hQ
  · intro x c' hx
    by_cases e : x = s
    · subst e; rw [upd_same] at hx; injection hx with hx; subst hx; exact hc
    · rw [upd_ne _ _ e] at hx; exact H.cost x c' hx
  · intro hb
    rcases hsub p hb with h | h
    · exact H.a0 h
    · omega
  · intro hb
    rcases hsub bM hb with h | h
    · exact H.a3 h
    · omega
  · intro b hb hb1
    rcases hsub b hb with h | h
    · exact H.a5 b h hb1
    · have := h1 b hb1; omega
  · rw [List.length_append, List.length_singleton]; omega
  · omega

theorem SegB.put1 (H : SegB w p q0 q1 bM n fp0 fp1 P Q g lim) {w' : World} {fp : List Nat} {s : Nat} {c : Int} (hc : 0 ≤ c ∧ c ≤ 1099511627776) (hP : s ∉ P) (hQ : s ∉ Q) (hlen : P.length + Q.length < 1000) (hn : n < 1000000)
    (hL : LruF w' fp q1 (Q ++ [s])) (hsub : Sub w fp1 fp)
    (hbox : w'.heap[p]? = some (.cells #[.pointer (some ⟨q0, 0, none⟩), .pointer (some ⟨q1, 0, none⟩), .int .i64 (sumC g P), .int .i64 (sumC g Q + c), .map (some bM), .int .i64 lim] 68 (0, 0)))
    (hmap : GMap Try.prog 34 3 .u32 .i64 w' bM (n + 1) (upd g s (some c))) (hf : Frm (fun b => b = p ∨ b = bM ∨ b ∈ fp1) w w') :
    SegB w' p q0 q1 bM (n + 1) fp0 fp P (Q ++ [s]) (upd g s (some c)) lim := by
  have hp := lt_of_some H.box
  have hm := H.map.lt
  have h1 := H.l0.lt
  refine ⟨?_, H.l0.frm hf ?_, hL, hmap, ?_, ?_, ?_, H.a0, ?_, H.a2, H.a3, ?_, ?_, ?_, ?_, H.lim1⟩
  · rw [hbox, sumC_append, sumC_upd g _ hP, sumC_upd g _ hQ]
    simp [sumC]
  · rintro b hb (rfl | rfl | h)
    · exact H.a0 hb
    · exact H.a3 hb
    · exact H.a5 b hb h
  · intro x
    by_cases e : x = s
    · subst e; simp
    · rw [upd_ne _ _ e, H.dom x]; simp [e]
  · intro x hx hx2
    rw [List.mem_append] at hx2
    rcases hx2 with hx2 | hx2
    · exact H.dis x hx hx2
    · simp at hx2; subst hx2; exact hP hx
  · intro x c' hx
    by_cases e : x = s
    · subst e; rw [upd_same] at hx; injection hx with hx; subst hx; exact hc
    · rw [upd_ne _ _ e] at hx; exact H.cost x c' hx
  · intro hb
    rcases hsub p hb with h | h
    · exact H.a1 h
    · omega
  · intro hb
    rcases hsub bM hb with h | h
    · exact H.a4 h
    · omega
  · intro b hb hb1
    rcases hsub b hb1 with h | h
    · exact H.a5 b hb h
    · have := h1 b hb; omega
  · rw [List.length_append, List.length_singleton]; omega
  · omega

set_option maxRecDepth 100000 in
set_option maxHeartbeats 2000000 in
theorem segPut0 (H : SegB w p q0 q1 bM n fp0 fp1 P Q g lim) (s : Nat) (hs : s < 4194304) (c : Int) (hc : 0 ≤ c ∧ c ≤ 1099511627776) (hP : s ∉ P) (hQ : s ∉ Q) (hlen : P.length + Q.length < 1000) (hn : n < 1000000) :
    Calls Try.prog 40 #[.pointer (some ⟨p, 0, none⟩), .int .i64 0, .int .u32 s, .int .i64 c] w (GivesSeg w (p :: bM :: (fp0 ++ fp1)) p (n + 1) (P ++ [s]) Q (upd g s (some c)) lim (.tuple #[])) := by
  have hc0 := cell_at H.box (o := 0) rfl
  have HH := Lib.hid H
  have Hs := Lib.hid hs
  have HP := Lib.hid hP
  have hwf : (Lit.int .u32 s).wf = true := by simp [Lit.wf, IntKind.min, IntKind.max, IntKind.signed, IntKind.bits]; omega
  have hwc : (Lit.int .i64 c).wf = true := by simp [Lit.wf, IntKind.min, IntKind.max, IntKind.signed, IntKind.bits]; omega
  have hnm : n < maxLen := by unfold maxLen; omega
  have Hc := Lib.hid hc
  have HQ := Lib.hid hQ
  have Hlen := Lib.hid hlen
  have Hn := Lib.hid hn
  clear H hs hP hQ hn
  go_enter Try.func40, Try.ntmps40
  go_wp2_with (go_at_call 24; refine (lruAdd_calls HH.out.l0 s Hs.out HP.out).mono ?_)
  rintro e w1 ⟨rfl, fp, hL1, hsub, hf1⟩
  have hb1 := hf1.heap HH.out.box HH.out.a0
  have hm1 := HH.out.map.frm hf1 HH.out.a3
  have hc2 := cell_at hb1 (o := 2) rfl
  have r2 := free_at hb1 2
  have hsb := sumC_bound HH.out.cost P
  have hlP : (P.length : Int) * 1099511627776 ≤ 1000 * 1099511627776 := by omega
  generalize hsc : sumC g P = c0 at hc2 hsb
  have Hsc := Lib.hid hsc
  clear hsc
  go_wp2
  refine wp_region_plan 12 (fun _ => True) [11] (.block 0 (.block 2 (.block 4 (.block 6 (.block 8 (.block 11 (.block 12 (.block 14 (.block 16 (.block 18 (.block 20 (.loop (.seq (.block 11 (.skip)) (.skip)))))))))))))) rfl rfl (by kernel_rfl) trivial ?_
  repeat (first | (refine plan_free rfl rfl (fun K hK => ?_); (go_simp; (try go_bits); (try (go_ite <;> go_prune <;> (try go_simp)))); refine hK _ (fun W hW => ?_) ?_ <;> clear hK K; (· ((go_simp; (try go_bits); (try (go_ite <;> go_prune <;> (try go_simp)))); (first | done | rfl | (simp (disch := omega) only [IntWalk.u32_in]; done) | (simp (disch := omega) only [IntWalk.i64_in]; done) | (simp (disch := omega) only [IntWalk.wrap64_in]; done))))) | (refine plan_tight rfl rfl (fun K hK => ?_); (go_simp; (try go_bits); (try (go_ite <;> go_prune <;> (try go_simp)))); refine hK _ ?_; clear hK K))
  refine plan_one rfl ?_
  go_wp2
  refine plan_done ?_
  generalize hw2 : (World.setCell _ _ _).drew = w2
  have hb2 : w2.heap[p]? = some (.cells #[.pointer (some ⟨q0, 0, none⟩), .pointer (some ⟨q1, 0, none⟩), .int .i64 (sumC g P + c), .int .i64 (sumC g Q), .map (some bM), .int .i64 lim] 68 (0, 0)) := by
    rw [← hw2, Hsc.out]
    exact set_same hb1 2 _
  have hm2 := hm1.setCell (a := ⟨p, 2, none⟩) HH.out.a2.symm (Value.int IntKind.i64 (c0 + c))
  have hf2 : Frm (fun b => b = p ∨ b ∈ fp0) w w2 := by
    rw [← hw2]
    exact ((hf1.mono (T := fun b => b = p ∨ b ∈ fp0) (fun _ _ h => .inr h)).setCell (a := ⟨p, 2, none⟩) (fun _ => .inl rfl) _).drew
  have hM2 : GMap Try.prog 34 3 .u32 .i64 w2 bM n g := by rw [← hw2]; exact hm2
  have hL2 : LruF w2 fp q0 (P ++ [s]) := by
    rw [← hw2]
    exact hL1.frm (S := fun b => b = p) (((Frm.refl (fun b => b = p) w1).setCell (a := ⟨p, 2, none⟩) (fun _ => rfl) _).drew) (fun b hb h => by
      subst h
      rcases hsub b hb with h1 | h1
      · exact HH.out.a0 h1
      · have := lt_of_some HH.out.box; omega)
  have g4 := cell_at hb2 (o := 4) rfl
  have HB2 := Lib.hid hb2
  have HM2 := Lib.hid hM2
  have HL2 := Lib.hid hL2
  have HF2 := Lib.hid hf2
  have Hsub := Lib.hid hsub
  clear hw2 hm2 hf2 hM2 hb2 hL2 hL1 hf1 hb1 hm1 hc2 r2 hsub hc0
  go_wp2_with (at_mapUpdate; refine wpList_gmap_put _ rfl _ _ _ 66 rfl 34 3 .u32 .i64 Try.underlying34 Try.underlying66 Try.underlying3 bM n _ rfl HM2.out hnm s c rfl rfl hwf hwc ?_)
  intro w3 hM3 hf3
  go_wp2
  go_end0
  have hf : Frm (fun b => b = p ∨ b = bM ∨ b ∈ fp0) w w3 := (HF2.out.mono (T := fun b => b = p ∨ b = bM ∨ b ∈ fp0) (fun b _ h => by rcases h with h | h; exact .inl h; exact .inr (.inr h))).trans hf3 (fun b _ h => .inr (.inl h))
  have hnbM : bM ∉ fp := fun hb => by
    rcases Hsub.out bM hb with h1 | h1
    · exact HH.out.a3 h1
    · have := HH.out.map.lt; omega
  refine ⟨rfl, _, ⟨q0, q1, bM, fp, fp1, rfl, HH.out.put0 Hc.out HP.out HQ.out Hlen.out Hn.out (HL2.out.frm hf3 (fun b hb h => hnbM (by rw [← h]; exact hb))) Hsub.out (hf3.heap HB2.out HH.out.a2) hM3 hf⟩, ?_, hf.mono (fun b _ h => by rcases h with rfl | rfl | h <;> simp_all)⟩
  intro b hb
  simp only [List.mem_cons, List.mem_append] at hb ⊢
  rcases hb with rfl | rfl | hb | hb
  · exact .inl (.inl rfl)
  · exact .inl (.inr (.inl rfl))
  · rcases Hsub.out b hb with h1 | h1
    · exact .inl (.inr (.inr (.inl h1)))
    · exact .inr h1
  · exact .inl (.inr (.inr (.inr hb)))

set_option maxRecDepth 100000 in
set_option maxHeartbeats 2000000 in
theorem segPut1 (H : SegB w p q0 q1 bM n fp0 fp1 P Q g lim) (s : Nat) (hs : s < 4194304) (c : Int) (hc : 0 ≤ c ∧ c ≤ 1099511627776) (hP : s ∉ P) (hQ : s ∉ Q) (hlen : P.length + Q.length < 1000) (hn : n < 1000000) :
    Calls Try.prog 40 #[.pointer (some ⟨p, 0, none⟩), .int .i64 1, .int .u32 s, .int .i64 c] w (GivesSeg w (p :: bM :: (fp0 ++ fp1)) p (n + 1) P (Q ++ [s]) (upd g s (some c)) lim (.tuple #[])) := by
  have hc0 := cell_at H.box (o := 1) rfl
  have HH := Lib.hid H
  have Hs := Lib.hid hs
  have HP := Lib.hid hP
  have hwf : (Lit.int .u32 s).wf = true := by simp [Lit.wf, IntKind.min, IntKind.max, IntKind.signed, IntKind.bits]; omega
  have hwc : (Lit.int .i64 c).wf = true := by simp [Lit.wf, IntKind.min, IntKind.max, IntKind.signed, IntKind.bits]; omega
  have hnm : n < maxLen := by unfold maxLen; omega
  have Hc := Lib.hid hc
  have HQ := Lib.hid hQ
  have Hlen := Lib.hid hlen
  have Hn := Lib.hid hn
  clear H hs hP hQ hn
  go_enter Try.func40, Try.ntmps40
  go_wp2_with (go_at_call 24; refine (lruAdd_calls HH.out.l1 s Hs.out HQ.out).mono ?_)
  rintro e w1 ⟨rfl, fp, hL1, hsub, hf1⟩
  have hb1 := hf1.heap HH.out.box HH.out.a1
  have hm1 := HH.out.map.frm hf1 HH.out.a4
  have hc2 := cell_at hb1 (o := 3) rfl
  have r2 := free_at hb1 3
  have hsb := sumC_bound HH.out.cost Q
  have hlP : (Q.length : Int) * 1099511627776 ≤ 1000 * 1099511627776 := by omega
  generalize hsc : sumC g Q = c0 at hc2 hsb
  have Hsc := Lib.hid hsc
  clear hsc
  go_wp2
  refine wp_region_plan 12 (fun _ => True) [11] (.block 0 (.block 2 (.block 4 (.block 6 (.block 8 (.block 11 (.block 12 (.block 14 (.block 16 (.block 18 (.block 20 (.loop (.seq (.block 11 (.skip)) (.skip)))))))))))))) rfl rfl (by kernel_rfl) trivial ?_
  repeat (first | (refine plan_free rfl rfl (fun K hK => ?_); (go_simp; (try go_bits); (try (go_ite <;> go_prune <;> (try go_simp)))); refine hK _ (fun W hW => ?_) ?_ <;> clear hK K; (· ((go_simp; (try go_bits); (try (go_ite <;> go_prune <;> (try go_simp)))); (first | done | rfl | (simp (disch := omega) only [IntWalk.u32_in]; done) | (simp (disch := omega) only [IntWalk.i64_in]; done) | (simp (disch := omega) only [IntWalk.wrap64_in]; done))))) | (refine plan_tight rfl rfl (fun K hK => ?_); (go_simp; (try go_bits); (try (go_ite <;> go_prune <;> (try go_simp)))); refine hK _ ?_; clear hK K))
  refine plan_one rfl ?_
  go_wp2
  refine plan_done ?_
  generalize hw2 : (World.setCell _ _ _).drew = w2
  have hb2 : w2.heap[p]? = some (.cells #[.pointer (some ⟨q0, 0, none⟩), .pointer (some ⟨q1, 0, none⟩), .int .i64 (sumC g P), .int .i64 (sumC g Q + c), .map (some bM), .int .i64 lim] 68 (0, 0)) := by
    rw [← hw2, Hsc.out]
    exact set_same hb1 3 _
  have hm2 := hm1.setCell (a := ⟨p, 3, none⟩) HH.out.a2.symm (Value.int IntKind.i64 (c0 + c))
  have hf2 : Frm (fun b => b = p ∨ b ∈ fp1) w w2 := by
    rw [← hw2]
    exact ((hf1.mono (T := fun b => b = p ∨ b ∈ fp1) (fun _ _ h => .inr h)).setCell (a := ⟨p, 3, none⟩) (fun _ => .inl rfl) _).drew
  have hM2 : GMap Try.prog 34 3 .u32 .i64 w2 bM n g := by rw [← hw2]; exact hm2
  have hL2 : LruF w2 fp q1 (Q ++ [s]) := by
    rw [← hw2]
    exact hL1.frm (S := fun b => b = p) (((Frm.refl (fun b => b = p) w1).setCell (a := ⟨p, 3, none⟩) (fun _ => rfl) _).drew) (fun b hb h => by
      subst h
      rcases hsub b hb with h1 | h1
      · exact HH.out.a1 h1
      · have := lt_of_some HH.out.box; omega)
  have g4 := cell_at hb2 (o := 4) rfl
  have HB2 := Lib.hid hb2
  have HM2 := Lib.hid hM2
  have HL2 := Lib.hid hL2
  have HF2 := Lib.hid hf2
  have Hsub := Lib.hid hsub
  clear hw2 hm2 hf2 hM2 hb2 hL2 hL1 hf1 hb1 hm1 hc2 r2 hsub hc0
  go_wp2_with (at_mapUpdate; refine wpList_gmap_put _ rfl _ _ _ 66 rfl 34 3 .u32 .i64 Try.underlying34 Try.underlying66 Try.underlying3 bM n _ rfl HM2.out hnm s c rfl rfl hwf hwc ?_)
  intro w3 hM3 hf3
  go_wp2
  go_end0
  have hf : Frm (fun b => b = p ∨ b = bM ∨ b ∈ fp1) w w3 := (HF2.out.mono (T := fun b => b = p ∨ b = bM ∨ b ∈ fp1) (fun b _ h => by rcases h with h | h; exact .inl h; exact .inr (.inr h))).trans hf3 (fun b _ h => .inr (.inl h))
  have hnbM : bM ∉ fp := fun hb => by
    rcases Hsub.out bM hb with h1 | h1
    · exact HH.out.a4 h1
    · have := HH.out.map.lt; omega
  refine ⟨rfl, _, ⟨q0, q1, bM, fp0, fp, rfl, HH.out.put1 Hc.out HP.out HQ.out Hlen.out Hn.out (HL2.out.frm hf3 (fun b hb h => hnbM (by rw [← h]; exact hb))) Hsub.out (hf3.heap HB2.out HH.out.a2) hM3 hf⟩, ?_, hf.mono (fun b _ h => by rcases h with rfl | rfl | h <;> simp_all)⟩
  intro b hb
  simp only [List.mem_cons, List.mem_append] at hb ⊢
  rcases hb with rfl | rfl | hb | hb
  · exact .inl (.inl rfl)
  · exact .inl (.inr (.inl rfl))
  · exact .inl (.inr (.inr (.inl hb)))
  · rcases Hsub.out b hb with h1 | h1
    · exact .inl (.inr (.inr (.inr h1)))
    · exact .inr h1
end
end Go.Proofs.Ytogidmjilbpacaa
