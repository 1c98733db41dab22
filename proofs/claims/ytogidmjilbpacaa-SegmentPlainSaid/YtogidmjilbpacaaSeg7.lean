/- Layer 16: Of, has, Cost, Len. -/
import Derived.Test.YtogidmjilbpacaaSeg6
namespace Go.Proofs.Ytogidmjilbpacaa
open Go.RowKit Go.Cub

section
variable {w w1 : World} {p q0 q1 bM n : Nat} {fp fp0 fp1 P Q : List Nat} {g : Nat → Option Int} {lim : Int}

set_option maxRecDepth 100000 in
theorem segOf_arg (H : SegF w fp p n P Q g lim) (s : Nat) (h : 4194304 ≤ s) :
    Calls Try.prog 57 #[.pointer (some ⟨p, 0, none⟩), .int .u32 s] w fun e w' => e = .returned (.tuple #[.int .i64 0, .int .i64 0, .int .i64 2]) ∧ w = w' := by
  have HH := Lib.hid H
  have Hh := Lib.hid h
  clear H h
  go_enter Try.func57, Try.ntmps57
  go_wp2_with (go_at_call 39; refine (segF_check_arg HH.out s 0 (.inl Hh.out)).mono ?_; rintro e w' ⟨rfl, rfl⟩)
  go_ret3
  exact ⟨rfl, rfl⟩

set_option maxRecDepth 100000 in
theorem segOf_none (H : SegF w fp p n P Q g lim) (s : Nat) (hs : s < 4194304) (hg : g s = none) :
    Calls Try.prog 57 #[.pointer (some ⟨p, 0, none⟩), .int .u32 s] w fun e w' => e = .returned (.tuple #[.int .i64 0, .int .i64 0, .int .i64 9]) ∧ w = w' := by
  have hwf := wf_u32 hs
  have hc1 : (g s).getD 0 = 0 := by rw [hg]; rfl
  have hc2 : (g s).isSome = false := by rw [hg]; rfl
  have Hh := Lib.hid hs
  have HF := Lib.hid H
  obtain ⟨q0, q1, bM, fp0, fp1, hfp, H⟩ := H
  have g4 := cell_at H.box (o := 4) rfl
  have HH := Lib.hid H
  clear H hs hg hfp
  go_enter Try.func57, Try.ntmps57
  go_wp2_with (first | (go_at_call 39; refine (segF_check_ok HF.out s 0 Hh.out (by decide)).mono ?_; rintro e w' ⟨rfl, rfl⟩) | (at_lookup; refine wpList_gmap_look _ rfl _ _ 66 rfl 34 3 .u32 .i64 Try.underlying34 Try.underlying66 Try.underlying3 (zero_int _) bM _ _ rfl HH.out.map s rfl hwf 0 false hc1 hc2 ?_))
  go_ret3
  exact ⟨rfl, rfl⟩

set_option maxRecDepth 100000 in
theorem segOf_ok (H : SegF w fp p n P Q g lim) (s : Nat) (c : Int) (hg : g s = some c) :
    Calls Try.prog 57 #[.pointer (some ⟨p, 0, none⟩), .int .u32 s] w fun e w' => e = .returned (.tuple #[.int .i64 (if s ∈ Q then 1 else 0), .int .i64 c, .int .i64 0]) ∧ w = w' := by
  have hs := H.ok.slot s ((H.ok.dom s).1 (by rw [hg]; rfl))
  have hwf := wf_u32 hs
  have hc1 : (g s).getD 0 = c := by rw [hg]; rfl
  have hc2 : (g s).isSome = true := by rw [hg]; rfl
  have Hh := Lib.hid hs
  have HF := Lib.hid H
  obtain ⟨q0, q1, bM, fp0, fp1, hfp, H⟩ := H
  have g4 := cell_at H.box (o := 4) rfl
  have HH := Lib.hid H
  have HO := Lib.hid (segOf_calls H s hs)
  clear H hs hg hfp
  generalize (if s ∈ Q then (1 : Int) else 0) = b at HO ⊢
  go_enter Try.func57, Try.ntmps57
  go_wp2_with (first | (go_at_call 39; refine (segF_check_ok HF.out s 0 Hh.out (by decide)).mono ?_; rintro e w' ⟨rfl, rfl⟩) | (at_lookup; refine wpList_gmap_look _ rfl _ _ 66 rfl 34 3 .u32 .i64 Try.underlying34 Try.underlying66 Try.underlying3 (zero_int _) bM _ _ rfl HH.out.map s rfl hwf c true hc1 hc2 ?_) | (go_at_call 61; refine HO.out.mono ?_; rintro e w' ⟨rfl, rfl⟩))
  go_ret3
  exact ⟨rfl, rfl⟩

set_option maxRecDepth 100000 in
theorem segHas_yes (H : SegF w fp p n P Q g lim) (k : Int) (h : k = 0 ∨ k = 1) :
    Calls Try.prog 37 #[.pointer (some ⟨p, 0, none⟩), .int .i64 k] w fun e w' => e = .returned (.bool true) ∧ w = w' := by
  have HF := Lib.hid H
  clear H
  rcases h with rfl | rfl
  · go_enter Try.func37, Try.ntmps37
    go_wp2_with (go_at_call 39; refine (segF_check_ok HF.out 0 0 (by decide) (by decide)).mono ?_; rintro e w' ⟨rfl, rfl⟩)
    go_ret
    exact ⟨rfl, rfl⟩
  · go_enter Try.func37, Try.ntmps37
    go_wp2_with (go_at_call 39; refine (segF_check_ok HF.out 0 0 (by decide) (by decide)).mono ?_; rintro e w' ⟨rfl, rfl⟩)
    go_ret
    exact ⟨rfl, rfl⟩

set_option maxRecDepth 100000 in
theorem segHas_no (H : SegF w fp p n P Q g lim) (k : Int) (h : k < 0 ∨ 1 < k) :
    Calls Try.prog 37 #[.pointer (some ⟨p, 0, none⟩), .int .i64 k] w fun e w' => e = .returned (.bool false) ∧ w = w' := by
  have HF := Lib.hid H
  clear H
  by_cases h1 : k < 0
  · have d1 : decide (0 ≤ k) = false := by rw [decide_eq_false_iff_not]; omega
    clear h
    go_enter Try.func37, Try.ntmps37
    go_wp2_with (go_at_call 39; refine (segF_check_ok HF.out 0 0 (by decide) (by decide)).mono ?_; rintro e w' ⟨rfl, rfl⟩)
    go_ret
    exact ⟨rfl, rfl⟩
  · have d1 : decide (0 ≤ k) = true := by rw [decide_eq_true_iff]; omega
    have d2 : decide (k ≤ 1) = false := by rw [decide_eq_false_iff_not]; omega
    clear h
    go_enter Try.func37, Try.ntmps37
    go_wp2_with (go_at_call 39; refine (segF_check_ok HF.out 0 0 (by decide) (by decide)).mono ?_; rintro e w' ⟨rfl, rfl⟩)
    go_ret
    exact ⟨rfl, rfl⟩

set_option maxRecDepth 100000 in
theorem segCost0 (H : SegF w fp p n P Q g lim) : Calls Try.prog 19 #[.pointer (some ⟨p, 0, none⟩), .int .i64 0] w fun e w' => e = .returned (.int .i64 (sumC g P)) ∧ w = w' := by
  have HF := Lib.hid H
  obtain ⟨q0, q1, bM, fp0, fp1, hfp, H⟩ := H
  have g2 := cell_at H.box (o := 2) rfl
  clear H hfp
  generalize sumC g P = c at g2 ⊢
  go_enter Try.func19, Try.ntmps19
  go_wp2_with (go_at_call 37; refine (segHas_yes HF.out 0 (.inl rfl)).mono ?_; rintro e w' ⟨rfl, rfl⟩)
  go_ret
  exact ⟨rfl, rfl⟩
set_option maxRecDepth 100000 in
theorem segCost1 (H : SegF w fp p n P Q g lim) : Calls Try.prog 19 #[.pointer (some ⟨p, 0, none⟩), .int .i64 1] w fun e w' => e = .returned (.int .i64 (sumC g Q)) ∧ w = w' := by
  have HF := Lib.hid H
  obtain ⟨q0, q1, bM, fp0, fp1, hfp, H⟩ := H
  have g2 := cell_at H.box (o := 3) rfl
  clear H hfp
  generalize sumC g Q = c at g2 ⊢
  go_enter Try.func19, Try.ntmps19
  go_wp2_with (go_at_call 37; refine (segHas_yes HF.out 1 (.inr rfl)).mono ?_; rintro e w' ⟨rfl, rfl⟩)
  go_ret
  exact ⟨rfl, rfl⟩
set_option maxRecDepth 100000 in
theorem segCost_no (H : SegF w fp p n P Q g lim) (k : Int) (h : k < 0 ∨ 1 < k) : Calls Try.prog 19 #[.pointer (some ⟨p, 0, none⟩), .int .i64 k] w fun e w' => e = .returned (.int .i64 0) ∧ w = w' := by
  have HF := Lib.hid H
  have Hk := Lib.hid h
  clear H h
  go_enter Try.func19, Try.ntmps19
  go_wp2_with (go_at_call 37; refine (segHas_no HF.out k Hk.out).mono ?_; rintro e w' ⟨rfl, rfl⟩)
  go_ret
  exact ⟨rfl, rfl⟩

set_option maxRecDepth 100000 in
theorem segLen0 (H : SegF w fp p n P Q g lim) : Calls Try.prog 13 #[.pointer (some ⟨p, 0, none⟩), .int .i64 0] w fun e w' => e = .returned (.int .i64 (P.length : Int)) ∧ w = w' := by
  have HF := Lib.hid H
  obtain ⟨q0, q1, bM, fp0, fp1, hfp, H⟩ := H
  have g2 := cell_at H.box (o := 0) rfl
  have HL := Lib.hid (lruLen_calls H.l0)
  clear H hfp
  generalize (P.length : Int) = c at HL ⊢
  go_enter Try.func13, Try.ntmps13
  go_wp2_with (first | (go_at_call 37; refine (segHas_yes HF.out 0 (.inl rfl)).mono ?_; rintro e w' ⟨rfl, rfl⟩) | (go_at_call 38; refine HL.out.mono ?_; rintro e w' ⟨rfl, rfl⟩))
  go_ret
  exact ⟨rfl, rfl⟩
set_option maxRecDepth 100000 in
theorem segLen1 (H : SegF w fp p n P Q g lim) : Calls Try.prog 13 #[.pointer (some ⟨p, 0, none⟩), .int .i64 1] w fun e w' => e = .returned (.int .i64 (Q.length : Int)) ∧ w = w' := by
  have HF := Lib.hid H
  obtain ⟨q0, q1, bM, fp0, fp1, hfp, H⟩ := H
  have g2 := cell_at H.box (o := 1) rfl
  have HL := Lib.hid (lruLen_calls H.l1)
  clear H hfp
  generalize (Q.length : Int) = c at HL ⊢
  go_enter Try.func13, Try.ntmps13
  go_wp2_with (first | (go_at_call 37; refine (segHas_yes HF.out 1 (.inr rfl)).mono ?_; rintro e w' ⟨rfl, rfl⟩) | (go_at_call 38; refine HL.out.mono ?_; rintro e w' ⟨rfl, rfl⟩))
  go_ret
  exact ⟨rfl, rfl⟩
set_option maxRecDepth 100000 in
theorem segLen_no (H : SegF w fp p n P Q g lim) (k : Int) (h : k < 0 ∨ 1 < k) : Calls Try.prog 13 #[.pointer (some ⟨p, 0, none⟩), .int .i64 k] w fun e w' => e = .returned (.int .i64 0) ∧ w = w' := by
  have HF := Lib.hid H
  have Hk := Lib.hid h
  clear H h
  go_enter Try.func13, Try.ntmps13
  go_wp2_with (go_at_call 37; refine (segHas_no HF.out k Hk.out).mono ?_; rintro e w' ⟨rfl, rfl⟩)
  go_ret
  exact ⟨rfl, rfl⟩
end
end Go.Proofs.Ytogidmjilbpacaa
