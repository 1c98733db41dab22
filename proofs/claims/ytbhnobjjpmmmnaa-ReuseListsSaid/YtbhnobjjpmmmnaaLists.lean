/- ReuseLists: the hits against a list of layer 15 that is used request by request. -/
import Derived.Test.YtbhnobjjpmmmnaaFul
import Derived.Test.YtbhnobjjpmmmnaaLru4
namespace Go.Proofs.Ytbhnobjjpmmmnaa
open Go.RowKit Go.Cub

theorem bl_min (xs : Nat → Nat) (n s : Nat) : bl (dist xs) n (min s (cn (dist xs) n)) = bl (dist xs) n s := by
  rcases Nat.le_total s (cn (dist xs) n) with h | h
  · rw [Nat.min_eq_left h]
  · rw [Nat.min_eq_right h, bl_all (fun i hi => dist_lt xs hi), bl_all (fun i hi => by have := dist_lt xs hi; omega)]

set_option maxRecDepth 100000 in
set_option maxHeartbeats 4000000 in
theorem lists_out {w : World} {v : Value} {n : Nat} {xs : Nat → Nat} (H : RdU w v n xs) (s : Int) (h : 120 < n ∨ s < 0 ∨ 30 < s) : Calls Try.prog 5 #[v, .int .i64 s] w (TruePost w) := by
  obtain ⟨a, cap, rfl, -⟩ := H
  by_cases h1 : 120 < n
  · have d1 : decide ((120 : Int) < n) = true := by simp; omega
    clear h h1
    go_enter Try.func5, Try.ntmps5
    go_wp2_with (go_at_call 6; refine known_calls.mono ?_)
    rintro e w1 ⟨rfl, hf⟩
    go_wp2
    go_ret
    exact ⟨rfl, hf⟩
  · have d1 : decide ((120 : Int) < n) = false := by simp; omega
    by_cases h2 : s < 0
    · have d2 : decide (s < 0) = true := by simp [h2]
      clear h h1 h2
      go_enter Try.func5, Try.ntmps5
      go_wp2_with (go_at_call 6; refine known_calls.mono ?_)
      rintro e w1 ⟨rfl, hf⟩
      go_wp2
      go_ret
      exact ⟨rfl, hf⟩
    · have d2 : decide (s < 0) = false := by simp; omega
      have d3 : decide (30 < s) = true := by simp; omega
      clear h h1 h2
      go_enter Try.func5, Try.ntmps5
      go_wp2_with (go_at_call 6; refine known_calls.mono ?_)
      rintro e w1 ⟨rfl, hf⟩
      go_wp2
      go_ret
      exact ⟨rfl, hf⟩

attribute [local go_sem] max_ints min_ints in
set_option maxRecDepth 100000 in
set_option maxHeartbeats 4000000 in
theorem lists_in {w : World} {v : Value} {n : Nat} {xs : Nat → Nat} (H : RdU w v n xs) (hn : n ≤ 120) (s : Nat) (hs : s ≤ 30) : Calls Try.prog 5 #[v, .int .i64 s] w (TruePost w) := by
  have HH := Lib.hid H
  obtain ⟨a, cap, rfl, -⟩ := H
  have d1 : decide ((120 : Int) < n) = false := by simp; omega
  have d2 : decide ((s : Int) < 0) = false := by rw [decide_eq_false_iff_not]; omega
  have d3 : decide ((30 : Int) < s) = false := by rw [decide_eq_false_iff_not]; omega
  go_enter Try.func5, Try.ntmps5
  go_wp2_with (go_at_call 12; refine lruNew_calls.mono ?_)
  rintro e w1 ⟨q, fp, rfl, hL, hge, hf⟩
  have HL := Lib.hid hL
  have Hge := Lib.hid hge
  have Hf := Lib.hid hf
  clear hL hge hf
  go_wp2
  go_loopw [6, 7] (fun x i wr => ∃ k : Nat, k ≤ n ∧ x = .int .i64 (bl (dist xs) k s) ∧ i = .int .i64 k ∧ ∃ fp, LruF wr fp q (lst xs s k) ∧ (∀ b ∈ fp, w.heap.size ≤ b) ∧ Frm (fun _ => False) w wr) (fun _ i _ => n - (intOf i).toNat)
  case atStart => exact ⟨0, Nat.zero_le _, rfl, rfl, _, (show LruF w1 fp q (lst xs s 0) by rw [show lst xs s 0 = [] by simp [lst, ful]]; exact HL.out), Hge.out, Hf.out⟩
  case round =>
    clear HL Hge Hf
    obtain ⟨k, hk, rfl, rfl, fp', hL, hge, hf⟩ := hrel
    have hbk := bl_bound (dist xs) s k
    rcases Nat.lt_or_ge k n with hlt | hge2
    · obtain ⟨a', cap', he, hin⟩ := HH.out.frm hf (fun _ _ h => h)
      obtain ⟨b, off, ha', gx, hxk⟩ := hin k hlt
      injection he with e1 e2 e3
      subst e1
      subst ha'
      clear hin e2 e3
      have hbl : bl (dist xs) (k + 1) s = bl (dist xs) k s + (if 0 ≤ dist xs k ∧ dist xs k < s then 1 else 0) := rfl
      have hhit := lst_hit xs s k
      have hstep1 := @lst_step_hit xs s k
      have hstep2 := @lst_step_miss xs s k
      generalize bl (dist xs) k s = c0 at hbl hbk ⊢
      generalize hxx : xs k = x at gx hxk hhit hstep1 hstep2
      have Hf := Lib.hid hf
      have Hge := Lib.hid hge
      have HL := Lib.hid hL
      clear hf hge hL hxx
      rcases Nat.lt_or_ge x 1000 with hx | hx
      · have d4 : decide ((1000 : Int) ≤ x) = false := by simp; omega
        by_cases hm : x ∈ lst xs s k
        · have hd := decide_eq_true hm
          rw [if_pos (hhit.1 hm)] at hbl
          have hst := hstep1 hm
          have Hm := Lib.hid hm
          have Hst := Lib.hid hst
          have Hbl := Lib.hid hbl
          clear hm hst hbl hhit hstep1 hstep2
          go_wp2_with (first | (go_at_call 13; refine (lruHas_calls HL.out x (by omega)).mono ?_; rw [hd]; rintro e w' ⟨rfl, rfl⟩) | (go_at_call 14; refine (lruUse_calls HL.out x Hm.out).mono ?_))
          rintro e w3 ⟨rfl, hL3, hf3⟩
          rw [← Hst.out] at hL3
          have HL3 := Lib.hid hL3
          have Hf3 := Lib.hid (Hf.out.trans hf3 (fun b hb h => by have := Hge.out b h; omega))
          clear hL3 hf3
          go_wp2
          go_roundw
          case rel => exact ⟨k + 1, by omega, by rw [Hbl.out], by go_num, fp', HL3.out, Hge.out, Hf3.out⟩
          case measure => simp only [intOf]; omega
        · have hd := decide_eq_false hm
          rw [if_neg (fun h => hm (hhit.2 h))] at hbl
          have hst := hstep2 hm
          have Hm := Lib.hid hm
          have Hst := Lib.hid hst
          have Hbl := Lib.hid hbl
          clear hm hst hbl hhit hstep1 hstep2
          go_wp2_with (first | (go_at_call 13; refine (lruHas_calls HL.out x (by omega)).mono ?_; rw [hd]; rintro e w' ⟨rfl, rfl⟩) | (go_at_call 15; refine (lruAdd_calls HL.out x (by omega) Hm.out).mono ?_))
          rintro e w3 ⟨rfl, fp2, hL3, hsub, hf3⟩
          have HL3 := Lib.hid hL3
          have Hf3 := Lib.hid (Hf.out.trans hf3 (fun b hb h => by have := Hge.out b h; omega))
          have Hge3 := Lib.hid (show ∀ b ∈ fp2, w.heap.size ≤ b from fun b hb => by
            rcases hsub b hb with h1 | h1
            · exact Hge.out b h1
            · have := Hf.out.size; omega)
          clear hL3 hf3 hsub
          obtain ⟨m, hm⟩ : ∃ m, m = (lst xs s k ++ [x]).length := ⟨_, rfl⟩
          have hm2 : m = (lst xs s k).length + 1 := by rw [hm]; simp
          have hml : m ≤ 4194304 := by have := HL3.out.facts.2.2; omega
          have Hm1 := Lib.hid hm
          clear hm
          by_cases hsz : s < m
          · have d5 : decide ((s : Int) < m) = true := by simp; omega
            have d6 : decide (s < m) = true := decide_eq_true hsz
            have hst := Hst.out
            rw [if_pos (by omega)] at hst
            have hne : lst xs s k ++ [x] ≠ [] := by simp
            generalize hY : lst xs s k ++ [x] = Y at *
            obtain ⟨y, Y', hYY⟩ : ∃ y Y', Y = y :: Y' := by
              cases Y with
              | nil => exact absurd rfl hne
              | cons y Y' => exact ⟨y, Y', rfl⟩
            subst hYY
            simp only [List.drop_succ_cons, List.drop_zero] at hst
            have Hst := Lib.hid hst
            clear hst hne hm2 hY
            go_wp2_with (first | (go_at_call 16; refine (lruLen_calls HL3.out).mono ?_; rw [← Hm1.out]; rintro e w' ⟨rfl, rfl⟩) | (go_at_call 17; refine (lruOldest_calls HL3.out).mono ?_))
            intro e w4 he hf4
            subst he
            have HL4 := Lib.hid (HL3.out.frm hf4 (fun _ _ h => h))
            have Hf4 := Lib.hid (Hf3.out.trans hf4 (fun _ _ h => h))
            clear hf4
            go_wp2_with (go_at_call 18; refine (lruRemove_calls HL4.out y (by simp)).mono ?_)
            rintro e w5 ⟨rfl, hL5, hf5⟩
            rw [List.erase_cons_head, ← Hst.out] at hL5
            have HL5 := Lib.hid hL5
            have Hf5 := Lib.hid (Hf4.out.trans hf5 (fun b hb h => by have := Hge3.out b h; omega))
            clear hL5 hf5
            go_wp2
            go_roundw
            case rel => exact ⟨k + 1, by omega, by rw [Hbl.out]; simp, by go_num, fp2, HL5.out, Hge3.out, Hf5.out⟩
            case measure => simp only [intOf]; omega
          · have d5 : decide ((s : Int) < m) = false := by simp; omega
            have d6 : decide (s < m) = false := decide_eq_false hsz
            have hst := Hst.out
            rw [if_neg (by omega)] at hst
            have HL4 := Lib.hid (show LruF w3 fp2 q (lst xs s (k + 1)) by rw [hst]; exact HL3.out)
            clear hst hm2
            go_wp2_with (go_at_call 16; refine (lruLen_calls HL3.out).mono ?_; rw [← Hm1.out]; rintro e w' ⟨rfl, rfl⟩)
            go_roundw
            case rel => exact ⟨k + 1, by omega, by rw [Hbl.out]; simp, by go_num, fp2, HL4.out, Hge3.out, Hf3.out⟩
            case measure => simp only [intOf]; omega
      · have d4 : decide ((1000 : Int) ≤ x) = true := by simp; omega
        clear hbl hhit hstep1 hstep2
        go_wp2_with (go_at_call 6; refine known_calls.mono ?_)
        rintro e w4 ⟨rfl, hf4⟩
        go_wp2
        go_ret
        exact ⟨rfl, Hf.out.trans hf4 (fun _ _ h => h)⟩
    · have hkn : k = n := by omega
      subst hkn
      have HU := Lib.hid (HH.out.frm hf (fun _ _ h => h))
      have Hf := Lib.hid hf
      clear hf hL hge
      have hmin := bl_min xs k s
      have hD := cn_le (dist xs) k
      go_wp2_with (go_at_call 8; refine (hits_calls HU.out (by omega)).mono ?_)
      rintro e w4 ⟨bH, capH, rfl, hH, hcapH, -, hf4⟩
      generalize cn (dist xs) k = D at hmin hD hH hcapH ⊢
      obtain ⟨m, hm⟩ : ∃ m, m = min s D := ⟨_, rfl⟩
      have hm2 : min (s : Int) (D : Int) = (m : Int) := by omega
      have hmD : m ≤ D := by omega
      rw [← hm] at hmin
      have g0 := hH.cell (o := m) (by omega)
      rw [hmin] at g0
      have d6 : (((D : Int) + 1) == 0) = false := by simp; omega
      have Hf4 := Lib.hid (Hf.out.trans hf4 (fun _ _ h => h))
      clear hmin hm hf4 hH
      generalize bl (dist xs) k s = c0 at g0 hbk ⊢
      go_wp2_with (go_at_call 6; refine known_calls.mono ?_)
      rintro e w5 ⟨rfl, hf5⟩
      go_wp2
      go_ret
      exact ⟨rfl, Hf4.out.trans hf5 (fun _ _ h => h)⟩
end Go.Proofs.Ytbhnobjjpmmmnaa
