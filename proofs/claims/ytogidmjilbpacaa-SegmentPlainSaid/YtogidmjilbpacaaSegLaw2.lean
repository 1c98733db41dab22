/- Law 16's helpers: lists, uses, limits, stands. -/
import Derived.Test.YtogidmjilbpacaaSegLaw1
namespace Go.Proofs.Ytogidmjilbpacaa
open Go.RowKit Go.Cub

section
variable {w w1 : World} {p n : Nat} {fp P Q : List Nat} {g : Nat → Option Int} {lim : Int}

def TrueSeg (w : World) (fp : List Nat) (p n : Nat) (P Q : List Nat) (g : Nat → Option Int) (lim : Int) (e : Ending) (w' : World) : Prop :=
  e = .returned (.bool true) ∧ ∃ fp', SegF w' fp' p n P Q g lim ∧ Sub w fp fp' ∧ Frm (fun b => b ∈ fp) w w'
def TrueSame (w : World) (e : Ending) (w' : World) : Prop := e = .returned (.bool true) ∧ Frm (fun _ => False) w w'

theorem wl_u32 (H : SegF w fp p n P Q g lim) {X : List Nat} (hX : ∀ x ∈ X, x ∈ P ∨ x ∈ Q) : ∀ x ∈ wl g X, x.1 < 4294967296 := by
  intro x hx
  obtain ⟨y, hy, rfl⟩ := List.mem_map.1 hx
  have := H.ok.slot y (hX y hy)
  show y < 4294967296
  omega

theorem lists0_calls (H : SegF w fp p n P Q g lim) (V : Value) (L : List (Nat × Int)) (hL : wl g P = L) (HV : RI w V (fl L)) : Calls Try.prog 32 #[.pointer (some ⟨p, 0, none⟩), .int .i64 0, V] w (TrueSame w) := by
  subst hL
  have HH := Lib.hid H
  have hlen : (wl g P).length ≤ 100000 := by have := H.ok.len; rw [wl_length]; omega
  have hu := wl_u32 H (X := P) (fun x hx => .inl hx)
  have Hlen := Lib.hid hlen
  have Hu := Lib.hid hu
  clear H hlen hu
  go_enter Try.func32, Try.ntmps32
  go_wp2_with (go_at_call 18; refine (segList0 HH.out).mono ?_)
  rintro e w1 ⟨v1, rfl, h1, hf1⟩
  have HS1 := Lib.hid h1
  have HV1 := Lib.hid (HV.frm hf1 (fun _ _ h => h))
  clear h1 HV
  go_wp2_with (go_at_call 59; refine (weighed_calls HV1.out Hu.out Hlen.out).mono ?_)
  rintro e w2 ⟨v2, rfl, h2, hf2⟩
  have HA := Lib.hid (RW.own (own_frm HS1.out hf2 (fun _ _ h => h)))
  have HB := Lib.hid (RW.own h2)
  clear h2
  go_wp2_with (go_at_call 33; refine (same16_calls HA.out HB.out (by have := Hlen.out; omega)).mono ?_)
  rintro e w3 ⟨rfl, hf3⟩
  go_wp2
  go_ret
  exact ⟨rfl, (hf1.trans hf2 (fun _ _ h => h)).trans hf3 (fun _ _ h => h)⟩
theorem lists1_calls (H : SegF w fp p n P Q g lim) (V : Value) (L : List (Nat × Int)) (hL : wl g Q = L) (HV : RI w V (fl L)) : Calls Try.prog 32 #[.pointer (some ⟨p, 0, none⟩), .int .i64 1, V] w (TrueSame w) := by
  subst hL
  have HH := Lib.hid H
  have hlen : (wl g Q).length ≤ 100000 := by have := H.ok.len; rw [wl_length]; omega
  have hu := wl_u32 H (X := Q) (fun x hx => .inr hx)
  have Hlen := Lib.hid hlen
  have Hu := Lib.hid hu
  clear H hlen hu
  go_enter Try.func32, Try.ntmps32
  go_wp2_with (go_at_call 18; refine (segList1 HH.out).mono ?_)
  rintro e w1 ⟨v1, rfl, h1, hf1⟩
  have HS1 := Lib.hid h1
  have HV1 := Lib.hid (HV.frm hf1 (fun _ _ h => h))
  clear h1 HV
  go_wp2_with (go_at_call 59; refine (weighed_calls HV1.out Hu.out Hlen.out).mono ?_)
  rintro e w2 ⟨v2, rfl, h2, hf2⟩
  have HA := Lib.hid (RW.own (own_frm HS1.out hf2 (fun _ _ h => h)))
  have HB := Lib.hid (RW.own h2)
  clear h2
  go_wp2_with (go_at_call 33; refine (same16_calls HA.out HB.out (by have := Hlen.out; omega)).mono ?_)
  rintro e w3 ⟨rfl, hf3⟩
  go_wp2
  go_ret
  exact ⟨rfl, (hf1.trans hf2 (fun _ _ h => h)).trans hf3 (fun _ _ h => h)⟩

set_option maxHeartbeats 1000000 in
theorem uses_ok (H : SegF w fp p n P Q g lim) (s : Nat) (c : Int) (hc : 0 ≤ c ∧ c ≤ 1099511627776) (c0 : Int) (hg : g s = some c0) (hn : n + Q.length + 2 ≤ 1000000) (V : Value) (gone P' Q' : List Nat) (k : Nat)
    (hk : dn lim (upd g s (some c)) (useQ lim Q s) = k) (hgone : (useQ lim Q s).take k = gone) (hP : useP lim P s ++ (useQ lim Q s).take k = P') (hQ : (useQ lim Q s).drop k = Q') (hV : ∀ w', Frm (fun b => b ∈ fp) w w' → RU w' V gone) :
    Calls Try.prog 27 #[.pointer (some ⟨p, 0, none⟩), .int .u32 s, .int .i64 c, V, .int .i64 0] w (TrueSeg w fp p (n + 1 + k) P' Q' (upd g s (some c)) lim) := by
  subst hP
  subst hQ
  have HU := Lib.hid (segUse_ok H s c hc c0 hg hn)
  have hlen : gone.length ≤ 1000000 := by
    rw [← hgone, List.length_take]
    have h1 : (useQ lim Q s).length ≤ Q.length + 1 := by
      have := List.length_erase_le (a := s) (l := Q)
      unfold useQ
      split
      · omega
      · rw [List.length_append, List.length_singleton]; omega
    have := H.ok.len
    omega
  have Hlen := Lib.hid hlen
  have HV := Lib.hid hV
  have Hg := Lib.hid hgone
  have Hk := Lib.hid hk
  clear H hc hg hn hlen hV hgone hk
  go_enter Try.func27, Try.ntmps27
  go_wp2_with (go_at_call 15; refine HU.out.mono ?_)
  rintro e w1 ⟨v, fp1, rfl, h1, h2, h3, h4, h5⟩
  rw [Hk.out] at h1 h2
  rw [Hg.out] at h1
  have HV1 := Lib.hid (HV.out w1 h5)
  have HR := Lib.hid (RU.own h1)
  have HF := Lib.hid h2
  have H5 := Lib.hid h5
  clear h1 h2 h5
  go_wp2_with (go_at_call 23; refine (same15_calls HR.out HV1.out Hlen.out).mono ?_)
  rintro e w2 ⟨rfl, hf2⟩
  go_wp2
  go_ret
  exact ⟨rfl, fp1, HF.out.frm hf2 (fun _ _ h => h), h3, H5.out.trans hf2 (fun _ _ h => h.elim)⟩

theorem uses_err (s : Nat) (c : Int) (er : Int) (HU : Calls Try.prog 15 #[.pointer (some ⟨p, 0, none⟩), .int .u32 s, .int .i64 c] w fun e w' => e = .returned (.tuple #[.slice none 0 0, .int .i64 er]) ∧ w = w') (a : Option Addr) (cap : Nat) :
    Calls Try.prog 27 #[.pointer (some ⟨p, 0, none⟩), .int .u32 s, .int .i64 c, .slice a 0 cap, .int .i64 er] w (TrueSame w) := by
  have HU := Lib.hid HU
  go_enter Try.func27, Try.ntmps27
  go_wp2_with (first | (go_at_call 15; refine HU.out.mono ?_; rintro e w' ⟨rfl, rfl⟩) | (go_at_call 23; refine (same15_calls (RU.nil _ _ _) (RU.nil _ _ _) (by decide)).mono ?_))
  rintro e w2 ⟨rfl, hf2⟩
  go_wp2
  go_ret
  exact ⟨rfl, hf2⟩

set_option maxHeartbeats 1000000 in
theorem limits_ok (H : SegF w fp p n P Q g lim) (l : Int) (h : -1 ≤ l ∧ l ≤ 1099511627776) (hn : n + Q.length ≤ 1000000) (V : Value) (gone P' Q' : List Nat) (k : Nat)
    (hk : dn l g Q = k) (hgone : Q.take k = gone) (hP : P ++ Q.take k = P') (hQ : Q.drop k = Q') (hV : ∀ w', Frm (fun b => b ∈ fp) w w' → RU w' V gone) :
    Calls Try.prog 28 #[.pointer (some ⟨p, 0, none⟩), .int .i64 l, V, .int .i64 0] w (TrueSeg w fp p (n + k) P' Q' g l) := by
  subst hP
  subst hQ
  have HU := Lib.hid (segLimit_ok H l h hn)
  have hlen : gone.length ≤ 1000000 := by
    rw [← hgone, List.length_take]
    have := H.ok.len
    omega
  have Hlen := Lib.hid hlen
  have HV := Lib.hid hV
  have Hg := Lib.hid hgone
  have Hk := Lib.hid hk
  clear H h hn hlen hV hgone hk
  go_enter Try.func28, Try.ntmps28
  go_wp2_with (go_at_call 17; refine HU.out.mono ?_)
  rintro e w1 ⟨v, fp1, rfl, h1, h2, h3, h4, h5⟩
  rw [Hk.out] at h1 h2
  rw [Hg.out] at h1
  have HV1 := Lib.hid (HV.out w1 h5)
  have HR := Lib.hid (RU.own h1)
  have HF := Lib.hid h2
  have H5 := Lib.hid h5
  clear h1 h2 h5
  go_wp2_with (go_at_call 23; refine (same15_calls HR.out HV1.out Hlen.out).mono ?_)
  rintro e w2 ⟨rfl, hf2⟩
  go_wp2
  go_ret
  exact ⟨rfl, fp1, HF.out.frm hf2 (fun _ _ h => h), h3, H5.out.trans hf2 (fun _ _ h => h.elim)⟩

theorem limits_err (l : Int) (er : Int) (HU : Calls Try.prog 17 #[.pointer (some ⟨p, 0, none⟩), .int .i64 l] w fun e w' => e = .returned (.tuple #[.slice none 0 0, .int .i64 er]) ∧ w = w') (a : Option Addr) (cap : Nat) :
    Calls Try.prog 28 #[.pointer (some ⟨p, 0, none⟩), .int .i64 l, .slice a 0 cap, .int .i64 er] w (TrueSame w) := by
  have HU := Lib.hid HU
  go_enter Try.func28, Try.ntmps28
  go_wp2_with (first | (go_at_call 17; refine HU.out.mono ?_; rintro e w' ⟨rfl, rfl⟩) | (go_at_call 23; refine (same15_calls (RU.nil _ _ _) (RU.nil _ _ _) (by decide)).mono ?_))
  rintro e w2 ⟨rfl, hf2⟩
  go_wp2
  go_ret
  exact ⟨rfl, hf2⟩

theorem stands_any (s : Nat) (a b er : Int) (HU : Calls Try.prog 57 #[.pointer (some ⟨p, 0, none⟩), .int .u32 s] w fun e w' => e = .returned (.tuple #[.int .i64 a, .int .i64 b, .int .i64 er]) ∧ w = w') :
    Calls Try.prog 29 #[.pointer (some ⟨p, 0, none⟩), .int .u32 s, .int .i64 a, .int .i64 b, .int .i64 er] w fun e w' => e = .returned (.bool true) ∧ w = w' := by
  have HU := Lib.hid HU
  go_enter Try.func29, Try.ntmps29
  go_wp2_with (go_at_call 57; refine HU.out.mono ?_; rintro e w' ⟨rfl, rfl⟩)
  go_ret
  exact ⟨rfl, rfl⟩
end
end Go.Proofs.Ytogidmjilbpacaa
