/- Layer 37: Least. -/
import Derived.Test.YtbhnobjjpmmmnaaHits
namespace Go.Proofs.Ytbhnobjjpmmmnaa
open Go.RowKit Go.Cub

theorem nan1_calls {w : World} (x : Int) : Calls Try.prog 48 #[.int .i64 x] w fun e w' => e = .returned (.bool false) ∧ w = w' := by
  go_enter Try.func48, Try.ntmps48
  go_wp2
  go_ret
  exact ⟨by simp, rfl⟩
theorem nan2_calls {w : World} (x : Int) : Calls Try.prog 37 #[.int .i64 x] w fun e w' => e = .returned (.bool false) ∧ w = w' := by
  go_enter Try.func37, Try.ntmps37
  go_wp2
  go_ret
  exact ⟨by simp, rfl⟩
theorem less_calls {w : World} (x y : Int) : Calls Try.prog 36 #[.int .i64 x, .int .i64 y] w fun e w' => e = .returned (.bool (decide (x < y))) ∧ w = w' := by
  go_enter Try.func36, Try.ntmps36
  go_wp2_with (go_at_call 48; refine (nan1_calls _).mono ?_; rintro e w' ⟨rfl, rfl⟩)
  go_ret
  exact ⟨by simp, rfl⟩

set_option maxHeartbeats 4000000 in
theorem search_calls {w : World} {b n cap : Nat} {c : Nat → Int} (H : Row w b .i64 c n) (hn : n ≤ 100000) (hcap : n ≤ cap) (t : Int) (hm : ∀ i j, i ≤ j → j < n → c i ≤ c j) :
    Calls Try.prog 24 #[.slice (some ⟨b, 0, none⟩) n cap, .int .i64 t] w fun e w' => w = w' ∧ ∃ i f, i ≤ n ∧ e = .returned (.tuple #[.int .i64 (i : Nat), .bool f]) ∧ (∀ j, j < i → c j < t) ∧ (i < n → t ≤ c i) := by
  have Hm := Lib.hid hm
  clear hm
  go_enter Try.func24, Try.ntmps24
  go_wp2
  go_loopw [7, 8] (fun x y wr => ∃ i j : Nat, i ≤ j ∧ j ≤ n ∧ x = .int .i64 i ∧ y = .int .i64 j ∧ wr = w ∧ (∀ k, k < i → c k < t) ∧ (j < n → t ≤ c j)) (fun x y _ => (intOf y).toNat - (intOf x).toNat)
  case atStart => exact ⟨0, n, Nat.zero_le _, Nat.le_refl _, rfl, rfl, rfl, fun k hk => by omega, fun h => by omega⟩
  case round =>
    obtain ⟨i, j, hij, hjn, rfl, rfl, rfl, hlo, hhi⟩ := hrel
    have Hlo := Lib.hid hlo
    have Hhi := Lib.hid hhi
    clear hlo hhi
    rcases Nat.lt_or_ge i j with hlt | hge
    · obtain ⟨h, hh⟩ : ∃ h, h = (i + j) / 2 := ⟨_, rfl⟩
      have g0 := H.cell (o := h) (by omega)
      have hh2 : ((i : Int) + (j : Int)) / 2 = (h : Int) := by omega
      have hhi : h < j ∧ i ≤ h := by omega
      clear hh
      have hck : ∀ k, k ≤ h → c k ≤ c h := fun k hk => Hm.out k h hk (by omega)
      have Hck := Lib.hid hck
      clear hck
      rcases Int.lt_or_le (c h) t with hc | hc
      · have hd : decide (c h < t) = true := by simp [hc]
        have Hc := Lib.hid hc
        clear hc
        go_wp2_with (go_at_call 36; refine (less_calls _ _).mono ?_; rw [hd]; rintro e w' ⟨rfl, rfl⟩)
        go_roundw
        case rel => exact ⟨h + 1, j, by omega, hjn, by go_num, rfl, trivial, fun k hk => by have := Hck.out k (by omega); have := Hc.out; omega, Hhi.out⟩
        case measure => simp only [intOf]; omega
      · have hd : decide (c h < t) = false := by simp; omega
        have Hc := Lib.hid hc
        clear hc
        go_wp2_with (go_at_call 36; refine (less_calls _ _).mono ?_; rw [hd]; rintro e w' ⟨rfl, rfl⟩)
        go_roundw
        case rel => exact ⟨i, h, by omega, by omega, rfl, rfl, trivial, Hlo.out, fun _ => Hc.out⟩
        case measure => simp only [intOf]; omega
    · have hE : i = j := by omega
      subst hE
      rcases Nat.lt_or_ge i n with hin | hin
      · have g0 := H.cell (o := i) hin
        go_wp2_with (go_at_call 37; refine (nan2_calls _).mono ?_; rintro e w' ⟨rfl, rfl⟩)
        all_goals (first | go_ret | go_ret2)
        all_goals exact ⟨rfl, i, _, hjn, rfl, Hlo.out, Hhi.out⟩
      · go_wp2_with (go_at_call 37; refine (nan2_calls _).mono ?_; rintro e w' ⟨rfl, rfl⟩)
        all_goals (first | go_ret | go_ret2)
        all_goals exact ⟨rfl, i, _, hjn, rfl, Hlo.out, Hhi.out⟩

theorem bl_mono (d : Nat → Int) (n : Nat) {a b : Nat} (h : a ≤ b) : bl d n a ≤ bl d n b := by
  induction b with
  | zero => have : a = 0 := by omega
            subst this; exact Int.le_refl _
  | succ b ih =>
    rcases Nat.lt_or_ge a (b + 1) with h1 | h1
    · have := ih (by omega)
      have := bl_succ d b n
      have := eqc_bound d (b + 1) n
      omega
    · have : a = b + 1 := by omega
      subst this; exact Int.le_refl _

def LeastPost (w : World) (n : Nat) (xs : Nat → Nat) (t : Int) (e : Ending) (w' : World) : Prop :=
  Frm (fun _ => False) w w' ∧ ((t < 0 ∧ e = .returned (.tuple #[.int .i64 0, .int .i64 2])) ∨
    (0 ≤ t ∧ (∀ j, j ≤ cn (dist xs) n → bl (dist xs) n j < t) ∧ e = .returned (.tuple #[.int .i64 0, .int .i64 9])) ∨
    (0 ≤ t ∧ ∃ i : Nat, i ≤ cn (dist xs) n ∧ (∀ j, j < i → bl (dist xs) n j < t) ∧ t ≤ bl (dist xs) n i ∧ e = .returned (.tuple #[.int .i64 i, .int .i64 0])))

theorem least_long {w : World} {v : Value} {n : Nat} {xs : Nat → Nat} (H : RdU w v n xs) (hn : 4096 < n) (hn2 : n < 1000000) (t : Int) :
    Calls Try.prog 9 #[v, .int .i64 t] w fun e w' => e = .returned (.tuple #[.int .i64 0, .int .i64 5]) ∧ w = w' := by
  go_enter Try.func9, Try.ntmps9
  go_wp2_with (go_at_call 8; refine (hits_long H hn hn2).mono ?_; rintro e w' ⟨rfl, rfl⟩)
  first | go_ret | go_ret2
  exact ⟨rfl, rfl⟩

set_option maxHeartbeats 1000000 in
theorem least_calls {w : World} {v : Value} {n : Nat} {xs : Nat → Nat} (H : RdU w v n xs) (hn : n ≤ 4096) (t : Int) : Calls Try.prog 9 #[v, .int .i64 t] w (LeastPost w n xs t) := by
  have hD := cn_le (dist xs) n
  have hmo := fun i j (h : i ≤ j) => bl_mono (dist xs) n h
  generalize hDD : cn (dist xs) n = D at hD
  have HDD := Lib.hid hDD
  have Hmo := Lib.hid hmo
  clear hDD hmo
  rcases Int.lt_or_le t 0 with ht | ht
  · have htb : decide (t < 0) = true := by simp [ht]
    go_enter Try.func9, Try.ntmps9
    go_wp2_with (go_at_call 8; refine (hits_calls H hn).mono ?_)
    rintro e w1 ⟨b, cap, rfl, hR, hcap, hb, hf⟩
    go_wp2
    first | go_ret | go_ret2
    exact ⟨hf, .inl ⟨ht, rfl⟩⟩
  · have htb : decide (t < 0) = false := by simp; omega
    have Ht := Lib.hid ht
    clear ht
    go_enter Try.func9, Try.ntmps9
    go_wp2_with (go_at_call 8; refine (hits_calls H hn).mono ?_)
    rintro e w1 ⟨b, cap, rfl, hR, hcap, hb, hf⟩
    rw [HDD.out] at hR hcap ⊢
    go_wp2_with (go_at_call 24; refine (search_calls hR (by omega) hcap t (fun i j h _ => Hmo.out i j h)).mono ?_)
    rintro e w2 ⟨rfl, i, f, hi, rfl, h1, h2⟩
    have H1 := Lib.hid h1
    have H2 := Lib.hid h2
    clear h1 h2
    rcases Nat.lt_or_ge i (D + 1) with hlt | hge
    · have hne : ((i : Int) == (D : Int) + 1) = false := by simp; omega
      go_wp2
      first | go_ret | go_ret2
      exact ⟨hf, .inr (.inr ⟨Ht.out, i, by rw [HDD.out]; omega, H1.out, H2.out hlt, rfl⟩)⟩
    · have hne : i = D + 1 := by omega
      subst hne
      go_wp2
      first | go_ret | go_ret2
      exact ⟨hf, .inr (.inl ⟨Ht.out, fun j hj => H1.out j (by rw [HDD.out] at hj; omega), rfl⟩)⟩
end Go.Proofs.Ytbhnobjjpmmmnaa
