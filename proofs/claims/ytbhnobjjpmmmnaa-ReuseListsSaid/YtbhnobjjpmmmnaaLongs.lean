/- ReuseLongs: a trace of up to 4096 requests for the keys of a loop. -/
import Derived.Test.YtbhnobjjpmmmnaaKnown
namespace Go.Proofs.Ytbhnobjjpmmmnaa
open Go.RowKit Go.Cub

theorem lastOf_some {xs : Nat → Nat} {x a : Nat} (hx : xs a = x) : ∀ {i}, a < i → (∀ b, a < b → b < i → xs b ≠ x) → lastOf xs i x = some a
  | 0, h, _ => by omega
  | i + 1, h, hb => by
    unfold lastOf
    by_cases e : a = i
    · subst e; rw [if_pos hx]
    · rw [if_neg (hb i (by omega) (by omega))]
      exact lastOf_some hx (by omega) (fun b h1 h2 => hb b h1 (by omega))
theorem lastOf_none {xs : Nat → Nat} {x : Nat} : ∀ {i}, (∀ b, b < i → xs b ≠ x) → lastOf xs i x = none
  | 0, _ => rfl
  | i + 1, hb => by
    unfold lastOf
    rw [if_neg (hb i (by omega))]
    exact lastOf_none (fun b h => hb b (by omega))
theorem pre_zeros {f : Nat → Int} : ∀ {n}, (∀ j, j < n → f j = 0) → pre f n = 0
  | 0, _ => rfl
  | n + 1, h => by rw [pre, pre_zeros (fun j hj => h j (by omega)), h n (by omega)]; rfl

/-- the keys of a loop -/
def cyc (K : Nat) : Nat → Nat := fun i => i % K
theorem cyc_far {K i b : Nat} (h1 : b < i) (h2 : i < b + K) : cyc K b ≠ cyc K i := by
  intro e
  unfold cyc at e
  have h3 := Nat.sub_mod_eq_zero_of_mod_eq e.symm
  rw [Nat.mod_eq_of_lt (by omega)] at h3
  omega
theorem cyc_new {K i : Nat} (h : i < K) : lastOf (cyc K) i (cyc K i) = none := lastOf_none (fun b hb => cyc_far hb (by omega))
theorem cyc_old {K i : Nat} (hK : 0 < K) (h : K ≤ i) : lastOf (cyc K) i (cyc K i) = some (i - K) :=
  lastOf_some (by unfold cyc; rw [Nat.mod_eq_sub_mod h]) (by omega) (fun b h1 h2 => cyc_far h2 (by omega))
theorem cyc_neg {K : Nat} (hK : 0 < K) (i : Nat) : dist (cyc K) i < 0 ↔ i < K := by
  have hg := dist_ge (cyc K) i
  rcases Nat.lt_or_ge i K with h | h
  · have := hg.2.1 (cyc_new h); omega
  · have := hg.2.2 _ (cyc_old hK h); omega
theorem cyc_cn {K : Nat} (hK : 0 < K) : ∀ i, cn (dist (cyc K)) i = min i K
  | 0 => by simp [cn]
  | i + 1 => by
    have := cyc_neg hK i
    rw [cn, cyc_cn hK i]
    split <;> omega
theorem cyc_dist {K i : Nat} (hK : 0 < K) : dist (cyc K) i = if i < K then -1 else (K : Int) - 1 := by
  rcases Nat.lt_or_ge i K with h | h
  · rw [if_pos h]; exact (dist_ge (cyc K) i).2.1 (cyc_new h)
  · rw [if_neg (by omega)]
    have ho := cyc_old hK h
    have h1 := pre_total (cyc K) i i (Nat.le_refl _)
    have h2 : mark (cyc K) i (i - K) = 1 := by
      unfold mark
      rw [(lastOf_lt ho).2, ho, if_pos rfl]
    have h3 : pre (mark (cyc K) i) (i - K) = 0 := pre_zeros fun j hj => by
      unfold mark
      rw [if_neg]
      intro e
      have h4 : cyc K (j + K) = cyc K j := by unfold cyc; rw [Nat.add_mod_right]
      have h5 : ∀ n, j < n → lastOf (cyc K) n (cyc K j) = some j → ∀ b, j < b → b < n → cyc K b ≠ cyc K j := by
        intro n
        induction n with
        | zero => intro hn; omega
        | succ n ih =>
          intro hn hl b hb1 hb2
          unfold lastOf at hl
          split at hl
          · injection hl with hl; omega
          · rename_i hne
            rcases Nat.lt_or_ge b n with hbn | hbn
            · exact ih (by omega) hl b hb1 hbn
            · have : b = n := by omega
              subst this; exact hne
      exact h5 i (by omega) e (j + K) (by omega) (by omega) h4
    unfold dist
    rw [ho]
    simp only []
    rw [pre, h1, h2, h3, cyc_cn hK]
    omega
theorem cyc_bl {K : Nat} (hK : 0 < K) {s : Nat} (hs : s ≤ K) : ∀ n, bl (dist (cyc K)) n s = if s = K then (n : Int) - (min n K : Nat) else 0
  | 0 => by simp [bl]
  | n + 1 => by
    rw [bl, cyc_bl hK hs n, cyc_dist hK]
    by_cases h1 : n < K
    · rw [if_pos h1, if_neg (show ¬ ((0 : Int) ≤ -1 ∧ (-1 : Int) < s) by omega)]
      by_cases h2 : s = K
      · rw [if_pos h2, if_pos h2]; omega
      · rw [if_neg h2, if_neg h2]; rfl
    · rw [if_neg h1]
      by_cases h2 : s = K
      · rw [if_pos h2, if_pos h2, if_pos (by omega)]; omega
      · rw [if_neg h2, if_neg h2, if_neg (by omega)]; rfl

def TruePost (w : World) (e : Ending) (w' : World) : Prop := e = .returned (.bool true) ∧ Frm (fun _ => False) w w'

set_option maxRecDepth 100000 in
set_option maxHeartbeats 4000000 in
theorem longs_out {w : World} (many keys : Int) (h : many < 4094 ∨ 4098 < many ∨ keys < 1 ∨ 200 < keys) :
    Calls Try.prog 3 #[.int .i64 many, .int .i64 keys] w (TruePost w) := by
  have hK := @known_calls
  by_cases h1 : many < 4094
  · have d1 : decide (many < 4094) = true := by simp [h1]
    clear h h1
    go_enter Try.func3, Try.ntmps3
    go_wp2_with (go_at_call 6; refine known_calls.mono ?_)
    rintro e w1 ⟨rfl, hf⟩
    go_wp2
    go_ret
    exact ⟨rfl, hf⟩
  · have d1 : decide (many < 4094) = false := by simp; omega
    by_cases h2 : 4098 < many
    · have d2 : decide (4098 < many) = true := by simp [h2]
      clear h h1 h2
      go_enter Try.func3, Try.ntmps3
      go_wp2_with (go_at_call 6; refine known_calls.mono ?_)
      rintro e w1 ⟨rfl, hf⟩
      go_wp2
      go_ret
      exact ⟨rfl, hf⟩
    · have d2 : decide (4098 < many) = false := by simp; omega
      by_cases h3 : keys < 1
      · have d3 : decide (keys < 1) = true := by simp [h3]
        clear h h1 h2 h3
        go_enter Try.func3, Try.ntmps3
        go_wp2_with (go_at_call 6; refine known_calls.mono ?_)
        rintro e w1 ⟨rfl, hf⟩
        go_wp2
        go_ret
        exact ⟨rfl, hf⟩
      · have d3 : decide (keys < 1) = false := by simp; omega
        have d4 : decide (200 < keys) = true := by simp; omega
        clear h h1 h2 h3
        go_enter Try.func3, Try.ntmps3
        go_wp2_with (go_at_call 6; refine known_calls.mono ?_)
        rintro e w1 ⟨rfl, hf⟩
        go_wp2
        go_ret
        exact ⟨rfl, hf⟩

set_option maxRecDepth 100000 in
set_option maxHeartbeats 4000000 in
theorem longs_in {w : World} (m K : Nat) (h1 : 4094 ≤ m) (h2 : m ≤ 4098) (h3 : 1 ≤ K) (h4 : K ≤ 200) :
    Calls Try.prog 3 #[.int .i64 m, .int .i64 K] w (TruePost w) := by
  obtain ⟨Z, hZ, hz⟩ := made_us m (by omega)
  have Hz := Lib.hid hz
  clear hz
  have d1 : decide ((m : Int) < 4094) = false := by simp; omega
  have d2 : decide ((4098 : Int) < m) = false := by simp; omega
  have d3 : decide ((K : Int) < 1) = false := by simp; omega
  have d4 : decide ((200 : Int) < K) = false := by simp; omega
  go_enter Try.func3, Try.ntmps3
  go_wp2
  obtain ⟨b, hb⟩ : ∃ b, b = w.heap.size := ⟨_, rfl⟩
  have H0 := Lib.hid (show RowN (w.alloc (.cells Z 24 (0, 0))) b .u32 (fun _ => 0) m from ⟨Z, _, by rw [hb]; exact alloc_new _ _, Hz.out⟩)
  have F0 := Lib.hid (show Frm (fun _ => False) w (w.alloc (.cells Z 24 (0, 0))) from (Frm.refl _ w).alloc _)
  have Hb := Lib.hid hb
  rw [← hb]
  clear hb
  generalize World.alloc w _ = w0 at H0 F0 ⊢
  go_loopw [6] (fun i wr => ∃ k : Nat, k ≤ m ∧ i = .int .i64 k ∧ (∃ c, RowN wr b .u32 c m ∧ ∀ j, j < k → c j = j % K) ∧ Frm (fun _ => False) w wr) (fun i _ => m - (intOf i).toNat)
  case atStart => exact ⟨0, Nat.zero_le _, rfl, ⟨_, H0.out, fun j hj => by omega⟩, F0.out⟩
  case round =>
    clear H0 F0
    obtain ⟨k, hk, rfl, ⟨c, hR, hc⟩, hf⟩ := hrel
    rcases Nat.lt_or_ge k m with hlt | hge
    · have g0 := hR.cell hlt
      have r0 := hR.free
      have hmod : (k : Int) % (K : Int) = ((k % K : Nat) : Int) := by omega
      have hmlt : k % K < 200 := by have := Nat.mod_lt k (show 0 < K by omega); omega
      generalize hq : k % K = q at hmod hmlt
      have Hq := Lib.hid hq
      have Hc := Lib.hid hc
      clear hc hq
      go_wp2
      generalize hw2 : World.setCell _ _ _ = w2
      have H2 : RowN w2 b .u32 (upd c k q) m := by rw [← hw2]; exact hR.set k q
      have F2 : Frm (fun _ => False) w w2 := by rw [← hw2]; exact hf.setCell (fun h => by have := Hb.out; simp at h; omega) _
      have H2 := Lib.hid H2
      have F2 := Lib.hid F2
      clear hw2 hR hf g0 r0
      go_wp2
      go_roundw
      case rel =>
        refine ⟨k + 1, by omega, by go_num, ⟨_, H2.out, fun j hj => ?_⟩, F2.out⟩
        by_cases e : j = k
        · subst e; rw [upd_same, Hq.out]
        · rw [upd_ne _ _ e]; exact Hc.out j (by omega)
      case measure => simp only [intOf]; omega
    · have hkm : k = m := by omega
      subst hkm
      have hU : RdU wr (.slice (some ⟨b, 0, none⟩) k k) k (cyc K) := RdU.of_row (hR.congr (fun o ho => hc o ho)) (fun i hi => by have := Nat.mod_lt i (show 0 < K by omega); unfold cyc; omega)
      have HU := Lib.hid hU
      have Hf := Lib.hid hf
      clear hU hR hc hf
      rcases Nat.lt_or_ge 4096 k with hbig | hsm
      · have d5 : decide ((4096 : Int) < k) = true := by simp; omega
        go_wp2_with (first | (go_at_call 7; refine (dist_long HU.out hbig (by omega)).mono ?_; rintro e w' ⟨rfl, rfl⟩) | (go_at_call 8; refine (hits_long HU.out hbig (by omega)).mono ?_; rintro e w' ⟨rfl, rfl⟩) | (go_at_call 9; refine (least_long HU.out hbig (by omega) (-1)).mono ?_; rintro e w' ⟨rfl, rfl⟩) | (go_at_call 10; refine (stack_long HU.out hbig (by omega)).mono ?_; rintro e w' ⟨rfl, rfl⟩) | (go_at_call 6; refine known_calls.mono ?_))
        rintro e w1 ⟨rfl, hf1⟩
        go_wp2
        go_ret
        exact ⟨rfl, Hf.out.trans hf1 (fun _ _ h => h)⟩
      · have d5 : decide ((4096 : Int) < k) = false := by simp; omega
        have hcn := cyc_cn (show 0 < K by omega) k
        rw [Nat.min_eq_right (show K ≤ k by omega)] at hcn
        have hsl : (stackOf (cyc K) k).length = K := by
          have := stk_facts (cyc K) k
          unfold stackOf
          rw [List.length_reverse, List.length_map, this.2.1, this.1, hcn]
        have Hcn := Lib.hid hcn
        have Hsl := Lib.hid hsl
        clear hcn hsl
        go_wp2_with (go_at_call 7; refine (dist_calls HU.out hsm).mono ?_)
        rintro e w1 ⟨bD, rfl, hD, -, hf1⟩
        have HU1 := Lib.hid (HU.out.frm hf1 (fun _ _ h => h))
        go_wp2_with (go_at_call 8; refine (hits_calls HU1.out hsm).mono ?_)
        rintro e w2 ⟨bH, capH, rfl, hH, hcapH, -, hf2⟩
        rw [Hcn.out] at hH hcapH ⊢
        have HU2 := Lib.hid (HU1.out.frm hf2 (fun _ _ h => h))
        go_wp2_with (go_at_call 9; refine (least_calls HU2.out hsm (-1)).mono ?_)
        rintro e w3 ⟨hf3, ⟨-, rfl⟩ | ⟨h0, -⟩ | ⟨h0, -⟩⟩
        rotate_left
        · exact absurd h0 (by decide)
        · exact absurd h0 (by decide)
        have HU3 := Lib.hid (HU2.out.frm hf3 (fun _ _ h => h))
        go_wp2_with (go_at_call 10; refine (stack_calls HU3.out hsm).mono ?_)
        rintro e w4 ⟨vS, rfl, hS, hf4⟩
        obtain ⟨aS, capS, hvS⟩ := hS.shape
        rw [Hsl.out] at hvS
        subst hvS
        have hD4 := Lib.hid (((hD.frm hf2 id).frm hf3 id).frm hf4 id)
        have hH4 := Lib.hid ((hH.frm hf3 id).frm hf4 id)
        have hF4 := Lib.hid ((((Hf.out.trans hf1 (fun _ _ h => h)).trans hf2 (fun _ _ h => h)).trans hf3 (fun _ _ h => h)).trans hf4 (fun _ _ h => h))
        clear hD hH hf1 hf2 hf3 hf4 hS
        go_wp2
        go_loopw [15] (fun i wr => ∃ j : Nat, j ≤ k ∧ i = .int .i64 j ∧ wr = w4) (fun i _ => k - (intOf i).toNat)
        case atStart => exact ⟨0, Nat.zero_le _, rfl, rfl⟩
        case round =>
          obtain ⟨j, hj, rfl, rfl⟩ := hrel
          rcases Nat.lt_or_ge j k with hlt | hge
          · have g0 := hD4.out.cell hlt
            have hdj := cyc_dist (K := K) (i := j) (by omega)
            rcases Nat.lt_or_ge j K with hjK | hjK
            · rw [hdj, if_pos hjK] at g0
              have d6 : decide ((j : Int) < K) = true := by simp; omega
              have d7 : decide ((K : Int) ≤ j) = false := by simp; omega
              clear hdj
              go_wp2
              go_roundw
              case rel => exact ⟨j + 1, by omega, by go_num, trivial⟩
              case measure => simp only [intOf]; omega
            · rw [hdj, if_neg (by omega)] at g0
              have d6 : decide ((j : Int) < K) = false := by simp; omega
              have d7 : decide ((K : Int) ≤ j) = true := by simp; omega
              clear hdj
              go_wp2
              go_roundw
              case rel => exact ⟨j + 1, by omega, by go_num, trivial⟩
              case measure => simp only [intOf]; omega
          · have hjk : j = k := by omega
            subst hjk
            go_wp2
            go_loopw [16] (fun i w5 => ∃ s : Nat, s ≤ K + 1 ∧ i = .int .i64 s ∧ w5 = wr) (fun i _ => K + 1 - (intOf i).toNat)
            case atStart => exact ⟨0, Nat.zero_le _, rfl, rfl⟩
            case round =>
              obtain ⟨s, hs, rfl, rfl⟩ := hrel
              rcases Nat.lt_or_ge s (K + 1) with hlt | hge2
              · have g0 := hH4.out.cell hlt
                rw [cyc_bl (K := K) (by omega) (by omega) j] at g0
                have d8 : decide ((s : Int) ≤ K) = true := by simp; omega
                rcases Nat.lt_or_ge s K with hsK | hsK
                · rw [if_neg (by omega)] at g0
                  have d6 : decide ((s : Int) < K) = true := by simp; omega
                  have d7 : ((s : Int) == K) = false := by simp; omega
                  go_wp2
                  go_roundw
                  case rel => exact ⟨s + 1, by omega, by go_num, trivial⟩
                  case measure => simp only [intOf]; omega
                · have hsK : s = K := by omega
                  subst hsK
                  rw [if_pos rfl, Nat.min_eq_right (by omega)] at g0
                  have d6 : decide ((s : Int) < s) = false := by simp
                  go_wp2
                  go_roundw
                  case rel => exact ⟨s + 1, by omega, by go_num, trivial⟩
                  case measure => simp only [intOf]; omega
              · have hsK : s = K + 1 := by omega
                subst hsK
                have d8 : decide (((K + 1 : Nat) : Int) ≤ K) = false := by simp; omega
                go_wp2_with (go_at_call 6; refine known_calls.mono ?_)
                rintro e w6 ⟨rfl, hf6⟩
                go_wp2
                go_ret
                exact ⟨rfl, hF4.out.trans hf6 (fun _ _ h => h)⟩
end Go.Proofs.Ytbhnobjjpmmmnaa
