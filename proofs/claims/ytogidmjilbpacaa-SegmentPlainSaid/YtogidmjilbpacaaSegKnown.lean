/- Law 16's examples of the chapter: 'known' returns true. -/
import Derived.Test.YtogidmjilbpacaaSegLaw2
namespace Go.Proofs.Ytogidmjilbpacaa
open Go.RowKit Go.Cub

theorem RU.at {w : World} {b : Nat} {xs : List Nat} (h : w.heap[b]? = some (.cells (us xs).toArray 34 (0, 0))) (c : Nat) : RU w (.slice (some ⟨b, 0, none⟩) xs.length c) xs :=
  ⟨_, c, rfl, fun i hi => ⟨_, 0, rfl, by rw [Nat.zero_add]; exact cell_at h (by simp [us, hi])⟩⟩

/-- what a world of the walk has: the order, and nothing that was there has turned -/
structure KS (w0 w : World) (fp : List Nat) (p n : Nat) (P Q : List Nat) (g : Nat → Option Int) (lim : Int) : Prop where
  seg : SegF w fp p n P Q g lim
  ge : ∀ b ∈ fp, w0.heap.size ≤ b
  frm : Frm (fun _ => False) w0 w
section
variable {w0 w w' : World} {p n n' : Nat} {fp P Q P' Q' : List Nat} {g g' : Nat → Option Int} {lim lim' : Int}
theorem KS.same (h : KS w0 w fp p n P Q g lim) (hf : Frm (fun _ => False) w w') : KS w0 w' fp p n P Q g lim := ⟨h.seg.frm hf (fun _ _ h => h), h.ge, h.frm.trans hf (fun _ _ h => h)⟩
theorem KS.step (h : KS w0 w fp p n P Q g lim) (k : ∃ fp', SegF w' fp' p n' P' Q' g' lim' ∧ Sub w fp fp' ∧ Frm (fun b => b ∈ fp) w w') : ∃ fp', KS w0 w' fp' p n' P' Q' g' lim' := by
  obtain ⟨fp', h1, h2, h3⟩ := k
  refine ⟨fp', h1, fun b hb => ?_, h.frm.trans h3 (fun b hb hm => by have := h.ge b hm; omega)⟩
  rcases h2 b hb with hb | hb
  · exact h.ge b hb
  · have := h.frm.size; omega
theorem KS.lit (h : KS w0 w fp p n P Q g lim) (xs : List Nat) (w' : World) (hf : Frm (fun b => b ∈ fp) (w.alloc (.cells (us xs).toArray 34 (0, 0))) w') (c : Nat) : RU w' (.slice (some ⟨w.heap.size, 0, none⟩) xs.length c) xs :=
  RU.at (hf.heap (alloc_new _ _) (fun hb => by have := h.seg.lt _ hb; omega)) c
theorem KS.alloc (h : KS w0 w fp p n P Q g lim) (ob : Obj) : KS w0 (w.alloc ob) fp p n P Q g lim := h.same ((Frm.refl _ w).alloc _)
end

set_option maxRecDepth 100000 in
set_option maxHeartbeats 8000000 in
theorem known_calls {w : World} : Calls Try.prog 10 #[] w (TrueSame w) := by
  go_enter Try.func10, Try.ntmps10
  go_wp2_with (go_at_call 8; refine (segNew_calls 10 (by decide)).mono ?_)
  rintro e w1 ⟨p, fp, rfl, hF, hge, hf⟩
  have K := Lib.hid (KS.mk hF hge hf)
  clear hF hge hf
  go_wp2_with (go_at_call 14; refine (segAdd_ok K.out.seg 1 (by decide) 4 (by decide) rfl (by decide) (by decide)).mono ?_)
  rintro e w2 ⟨rfl, hk⟩
  obtain ⟨fp2, hk⟩ := K.out.step hk
  clear K
  have K := Lib.hid (show KS w w2 fp2 p 1 [1] [] (upd (fun _ => none) 1 (some 4)) (10) from hk)
  clear hk
  go_wp2_with (go_at_call 14; refine (segAdd_ok K.out.seg 2 (by decide) 5 (by decide) rfl (by decide) (by decide)).mono ?_)
  rintro e w3 ⟨rfl, hk⟩
  obtain ⟨fp3, hk⟩ := K.out.step hk
  clear K
  have K := Lib.hid (show KS w w3 fp3 p 2 [1, 2] [] (upd (upd (fun _ => none) 1 (some 4)) 2 (some 5)) (10) from hk)
  clear hk
  go_wp2_with (go_at_call 14; refine (segAdd_ok K.out.seg 3 (by decide) 3 (by decide) rfl (by decide) (by decide)).mono ?_)
  rintro e w4 ⟨rfl, hk⟩
  obtain ⟨fp4, hk⟩ := K.out.step hk
  clear K
  have K := Lib.hid (show KS w w4 fp4 p 3 [1, 2, 3] [] (upd (upd (upd (fun _ => none) 1 (some 4)) 2 (some 5)) 3 (some 3)) (10) from hk)
  clear hk
  go_wp2_with (go_at_call 27; refine (uses_ok K.out.seg 1 4 (by decide) 4 rfl (by decide) _ [] [2, 3] [1] 0 (by decide) (by decide) (by decide) (by decide) (fun _ _ => RU.nil _ _ _)).mono ?_)
  rintro e w5 ⟨rfl, hk⟩
  obtain ⟨fp5, hk⟩ := K.out.step hk
  clear K
  have K := Lib.hid (show KS w w5 fp5 p 4 [2, 3] [1] (upd (upd (upd (upd (fun _ => none) 1 (some 4)) 2 (some 5)) 3 (some 3)) 1 (some 4)) (10) from hk)
  clear hk
  go_wp2_with (go_at_call 27; refine (uses_ok K.out.seg 3 3 (by decide) 3 rfl (by decide) _ [] [2] [1, 3] 0 (by decide) (by decide) (by decide) (by decide) (fun _ _ => RU.nil _ _ _)).mono ?_)
  rintro e w6 ⟨rfl, hk⟩
  obtain ⟨fp6, hk⟩ := K.out.step hk
  clear K
  have K := Lib.hid (show KS w w6 fp6 p 5 [2] [1, 3] (upd (upd (upd (upd (upd (fun _ => none) 1 (some 4)) 2 (some 5)) 3 (some 3)) 1 (some 4)) 3 (some 3)) (10) from hk)
  clear hk
  have K' := Lib.hid (K.out.alloc (.cells (is [1, 4, 3, 3]).toArray 3 (0, 0)))
  go_wp2_with (go_at_call 32; refine (lists1_calls K'.out.seg _ [(1, 4), (3, 3)] rfl (RI.lit _ [1, 4, 3, 3] _)).mono ?_)
  rintro e w7 ⟨rfl, hk⟩
  have hk' := K'.out.same hk
  clear K K'
  have K := Lib.hid hk'
  clear hk hk'
  have hc := Lib.hid (show Calls Try.prog 19 #[.pointer (some ⟨p, 0, none⟩), .int .i64 0] w7 fun e w' => e = .returned (.int .i64 5) ∧ w7 = w' from segCost0 K.out.seg)
  have K' := Lib.hid (K.out.alloc (.cells (us [1]).toArray 34 (0, 0)))
  go_wp2_with (first | (go_at_call 19; refine hc.out.mono ?_; rintro e w' ⟨rfl, rfl⟩) | (go_at_call 27; refine (uses_ok K'.out.seg 2 5 (by decide) 5 rfl (by decide) _ [1] [1] [3, 2] 1 (by decide) (by decide) (by decide) (by decide) (fun w' hf => K.out.lit [1] w' hf _)).mono ?_))
  rintro e w8 ⟨rfl, hk⟩
  obtain ⟨fp8, hk⟩ := K'.out.step hk
  clear K K'
  have K := Lib.hid (show KS w w8 fp8 p 7 [1] [3, 2] (upd (upd (upd (upd (upd (upd (fun _ => none) 1 (some 4)) 2 (some 5)) 3 (some 3)) 1 (some 4)) 3 (some 3)) 2 (some 5)) (10) from hk)
  clear hk
  clear hc
  have K' := Lib.hid (K.out.alloc (.cells (is [3, 3, 2, 5]).toArray 3 (0, 0)))
  go_wp2_with (go_at_call 32; refine (lists1_calls K'.out.seg _ [(3, 3), (2, 5)] rfl (RI.lit _ [3, 3, 2, 5] _)).mono ?_)
  rintro e w9 ⟨rfl, hk⟩
  have hk' := K'.out.same hk
  clear K K'
  have K := Lib.hid hk'
  clear hk hk'
  have K' := Lib.hid (K.out.alloc (.cells (is [1, 4]).toArray 3 (0, 0)))
  go_wp2_with (go_at_call 32; refine (lists0_calls K'.out.seg _ [(1, 4)] rfl (RI.lit _ [1, 4] _)).mono ?_)
  rintro e w10 ⟨rfl, hk⟩
  have hk' := K'.out.same hk
  clear K K'
  have K := Lib.hid hk'
  clear hk hk'
  have K' := Lib.hid (K.out.alloc (.cells (us [3, 2]).toArray 34 (0, 0)))
  go_wp2_with (go_at_call 27; refine (uses_ok K'.out.seg 2 11 (by decide) 5 rfl (by decide) _ [3, 2] [1, 3, 2] [] 2 (by decide) (by decide) (by decide) (by decide) (fun w' hf => K.out.lit [3, 2] w' hf _)).mono ?_)
  rintro e w11 ⟨rfl, hk⟩
  obtain ⟨fp11, hk⟩ := K'.out.step hk
  clear K K'
  have K := Lib.hid (show KS w w11 fp11 p 10 [1, 3, 2] [] (upd (upd (upd (upd (upd (upd (upd (fun _ => none) 1 (some 4)) 2 (some 5)) 3 (some 3)) 1 (some 4)) 3 (some 3)) 2 (some 5)) 2 (some 11)) (10) from hk)
  clear hk
  go_wp2_with (go_at_call 32; refine (lists1_calls K.out.seg _ [] rfl (RI.nil _ _ _)).mono ?_)
  rintro e w12 ⟨rfl, hk⟩
  have hk' := K.out.same hk
  clear K
  have K := Lib.hid hk'
  clear hk hk'
  have K' := Lib.hid (K.out.alloc (.cells (is [1, 4, 3, 3, 2, 11]).toArray 3 (0, 0)))
  go_wp2_with (go_at_call 32; refine (lists0_calls K'.out.seg _ [(1, 4), (3, 3), (2, 11)] rfl (RI.lit _ [1, 4, 3, 3, 2, 11] _)).mono ?_)
  rintro e w13 ⟨rfl, hk⟩
  have hk' := K'.out.same hk
  clear K K'
  have K := Lib.hid hk'
  clear hk hk'
  have hs := Lib.hid (stands_any 2 0 11 0 (show Calls Try.prog 57 #[.pointer (some ⟨p, 0, none⟩), .int .u32 2] w13 fun e w' => e = .returned (.tuple #[.int .i64 0, .int .i64 11, .int .i64 0]) ∧ w13 = w' from segOf_ok K.out.seg 2 11 rfl))
  go_wp2_with (first | (go_at_call 29; refine hs.out.mono ?_; rintro e w' ⟨rfl, rfl⟩) | (go_at_call 27; refine (uses_ok K.out.seg 3 3 (by decide) 3 rfl (by decide) _ [] [1, 2] [3] 0 (by decide) (by decide) (by decide) (by decide) (fun _ _ => RU.nil _ _ _)).mono ?_))
  rintro e w14 ⟨rfl, hk⟩
  obtain ⟨fp14, hk⟩ := K.out.step hk
  clear K
  have K := Lib.hid (show KS w w14 fp14 p 11 [1, 2] [3] (upd (upd (upd (upd (upd (upd (upd (upd (fun _ => none) 1 (some 4)) 2 (some 5)) 3 (some 3)) 1 (some 4)) 3 (some 3)) 2 (some 5)) 2 (some 11)) 3 (some 3)) (10) from hk)
  clear hk
  clear hs
  have K' := Lib.hid (K.out.alloc (.cells (us [3]).toArray 34 (0, 0)))
  go_wp2_with (go_at_call 28; refine (limits_ok K'.out.seg (2) (by decide) (by decide) _ [3] [1, 2, 3] [] 1 (by decide) (by decide) (by decide) (by decide) (fun w' hf => K.out.lit [3] w' hf _)).mono ?_)
  rintro e w15 ⟨rfl, hk⟩
  obtain ⟨fp15, hk⟩ := K'.out.step hk
  clear K K'
  have K := Lib.hid (show KS w w15 fp15 p 12 [1, 2, 3] [] (upd (upd (upd (upd (upd (upd (upd (upd (fun _ => none) 1 (some 4)) 2 (some 5)) 3 (some 3)) 1 (some 4)) 3 (some 3)) 2 (some 5)) 2 (some 11)) 3 (some 3)) (2) from hk)
  clear hk
  go_wp2_with (go_at_call 28; refine (limits_ok K.out.seg (-1) (by decide) (by decide) _ [] [1, 2, 3] [] 0 (by decide) (by decide) (by decide) (by decide) (fun _ _ => RU.nil _ _ _)).mono ?_)
  rintro e w16 ⟨rfl, hk⟩
  obtain ⟨fp16, hk⟩ := K.out.step hk
  clear K
  have K := Lib.hid (show KS w w16 fp16 p 12 [1, 2, 3] [] (upd (upd (upd (upd (upd (upd (upd (upd (fun _ => none) 1 (some 4)) 2 (some 5)) 3 (some 3)) 1 (some 4)) 3 (some 3)) 2 (some 5)) 2 (some 11)) 3 (some 3)) (-1) from hk)
  clear hk
  go_wp2_with (go_at_call 16; refine (segRemove_ok K.out.seg 1 4 rfl).mono ?_)
  rintro e w17 ⟨rfl, hF, hf⟩
  obtain ⟨fp17, hk⟩ := K.out.step ⟨_, hF, Sub.refl _ _, hf⟩
  clear K hF hf
  have K := Lib.hid (show KS w w17 fp17 p 12 [2, 3] [] (upd (upd (upd (upd (upd (upd (upd (upd (upd (fun _ => none) 1 (some 4)) 2 (some 5)) 3 (some 3)) 1 (some 4)) 3 (some 3)) 2 (some 5)) 2 (some 11)) 3 (some 3)) 1 none) (-1) from hk)
  clear hk
  have hs := Lib.hid (stands_any 9 0 0 9 (segOf_none K.out.seg 9 (by decide) rfl))
  have hc := Lib.hid (segCost_no K.out.seg 2 (by decide))
  have ha := Lib.hid (show Calls Try.prog 14 #[.pointer (some ⟨p, 0, none⟩), .int .u32 2, .int .i64 1] w17 fun e w' => e = .returned (.int .i64 11) ∧ w17 = w' from segAdd_busy K.out.seg 2 1 (by decide) 11 rfl)
  have hb := Lib.hid (show Calls Try.prog 14 #[.pointer (some ⟨p, 0, none⟩), .int .u32 5, .int .i64 (-1)] w17 fun e w' => e = .returned (.int .i64 2) ∧ w17 = w' from segAdd_arg K.out.seg 5 (-1) (by decide))
  go_wp2_with (first | (go_at_call 16; refine (segRemove_none K.out.seg 1 (by decide) rfl).mono ?_; rintro e w' ⟨rfl, rfl⟩) | (go_at_call 29; refine hs.out.mono ?_; rintro e w' ⟨rfl, rfl⟩) | (go_at_call 8; refine (segNew_arg (-2) (by decide)).mono ?_; rintro e w' ⟨rfl, rfl⟩) | (go_at_call 14; with_reducible refine Calls.mono ha.out ?_; rintro e w' ⟨rfl, rfl⟩) | (go_at_call 14; with_reducible refine Calls.mono hb.out ?_; rintro e w' ⟨rfl, rfl⟩) | (go_at_call 19; refine hc.out.mono ?_; rintro e w' ⟨rfl, rfl⟩))
  go_ret
  exact ⟨rfl, K.out.frm⟩
end Go.Proofs.Ytogidmjilbpacaa
