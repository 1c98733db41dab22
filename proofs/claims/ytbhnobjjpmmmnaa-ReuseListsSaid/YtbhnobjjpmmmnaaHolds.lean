/- ReuseHolds: the hits for a size are the requests whose distance is less; other numbers for the keys change no distance. -/
import Derived.Test.YtbhnobjjpmmmnaaKnown
import Derived.Test.YtbhnobjjpmmmnaaLongs
import Derived.Laws.BitsAllLaws
namespace Go.Proofs.Ytbhnobjjpmmmnaa
open Go.RowKit Go.Cub

theorem bl_all {d : Nat → Int} {s : Nat} : ∀ {n}, (∀ i, i < n → d i < s) → bl d n s = (n : Int) - cn d n
  | 0, _ => by simp [bl, cn]
  | n + 1, h => by
    rw [bl, cn, bl_all (fun i hi => h i (by omega))]
    have hn := h n (by omega)
    by_cases h0 : 0 ≤ d n
    · rw [if_pos ⟨h0, hn⟩, if_neg (by omega)]; omega
    · rw [if_neg (fun x => h0 x.1), if_pos (by omega)]; omega

/-- other numbers for the keys: the same distances -/
theorem lastOf_turn {xs ys : Nat → Nat} {n : Nat} (h : ∀ i j, i < n → j < n → (xs i = xs j ↔ ys i = ys j)) {k : Nat} (hk : k < n) : ∀ i, i ≤ n → lastOf ys i (ys k) = lastOf xs i (xs k)
  | 0, _ => rfl
  | i + 1, hi => by
    unfold lastOf
    have h1 := h i k (by omega) hk
    by_cases e : xs i = xs k
    · rw [if_pos e, if_pos (h1.1 e)]
    · rw [if_neg e, if_neg (fun x => e (h1.2 x))]
      exact lastOf_turn h hk i (by omega)
theorem pre_turn {f g : Nat → Int} : ∀ {n}, (∀ j, j < n → f j = g j) → pre f n = pre g n
  | 0, _ => rfl
  | n + 1, h => by rw [pre, pre, pre_turn (fun j hj => h j (by omega)), h n (by omega)]
theorem dist_turn {xs ys : Nat → Nat} {n : Nat} (h : ∀ i j, i < n → j < n → (xs i = xs j ↔ ys i = ys j)) {i : Nat} (hi : i < n) : dist ys i = dist xs i := by
  have hl := lastOf_turn h hi i (by omega)
  have hm : ∀ j, j < n → mark ys i j = mark xs i j := fun j hj => by
    unfold mark
    rw [lastOf_turn h hj i (by omega)]
  unfold dist
  rw [hl]
  cases hx : lastOf xs i (xs i) with
  | none => rfl
  | some a =>
    have ha := (lastOf_lt hx).1
    simp only []
    rw [pre_turn (fun j hj => hm j (by omega)), pre_turn (n := a + 1) (fun j hj => hm j (by omega))]

theorem bits_xor5 {x : Nat} (h : x < 4294967296) : bits BinOp.xor IntKind.u32 (x : Int) 5 = ((x ^^^ 5 : Nat) : Int) := u32_xor_nat x 5 h (by decide)

/-- the other number for a key -/
def oth (A : Nat) (x : Nat) : Nat := ((x ^^^ 5) + A) % 4294967296
theorem xor5_lt {x : Nat} (h : x < 4294967296) : x ^^^ 5 < 4294967296 := Nat.xor_lt_two_pow (n := 32) h (by decide)
theorem oth_inj {A x y : Nat} (hx : x < 4294967296) (hy : y < 4294967296) : x = y ↔ oth A x = oth A y := by
  constructor
  · intro e; rw [e]
  · intro e
    unfold oth at e
    have h1 := xor5_lt hx
    have h2 := xor5_lt hy
    have h3 : x ^^^ 5 = y ^^^ 5 := by omega
    have h4 : (x ^^^ 5) ^^^ 5 = (y ^^^ 5) ^^^ 5 := by rw [h3]
    rw [Nat.xor_assoc, Nat.xor_assoc, Nat.xor_self, Nat.xor_zero, Nat.xor_zero] at h4
    exact h4

set_option maxRecDepth 100000 in
set_option maxHeartbeats 4000000 in
theorem holds_out {w : World} {v : Value} {n : Nat} {xs : Nat → Nat} (H : RdU w v n xs) (hn : 200 < n) (A : Int) : Calls Try.prog 4 #[v, .int .u32 A] w (TruePost w) := by
  obtain ⟨a, cap, rfl, -⟩ := H
  have d1 : decide ((200 : Int) < n) = true := by simp; omega
  go_enter Try.func4, Try.ntmps4
  go_wp2_with (go_at_call 6; refine known_calls.mono ?_)
  rintro e w1 ⟨rfl, hf⟩
  go_wp2
  go_ret
  exact ⟨rfl, hf⟩

set_option maxRecDepth 100000 in
set_option maxHeartbeats 4000000 in
theorem holds_in {w : World} {v : Value} {n : Nat} {xs : Nat → Nat} (H : RdU w v n xs) (hn : n ≤ 200) (A : Nat) (hA : A < 4294967296) : Calls Try.prog 4 #[v, .int .u32 A] w (TruePost w) := by
  have HH := Lib.hid H
  obtain ⟨a, cap, rfl, -⟩ := H
  obtain ⟨Z, hZ, hz⟩ := made_us n (by omega)
  have Hz := Lib.hid hz
  clear hz
  have d1 : decide ((200 : Int) < n) = false := by simp; omega
  have hsf := stk_facts xs n
  have hsl : (stackOf xs n).length = cn (dist xs) n := by
    unfold stackOf
    rw [List.length_reverse, List.length_map, hsf.2.1, hsf.1]
  have hcl := cn_le (dist xs) n
  have hb0 := bl_zero (dist xs) n
  have hbD := bl_all (d := dist xs) (s := cn (dist xs) n) (n := n) (fun i hi => dist_lt xs hi)
  obtain ⟨D, hDD⟩ : ∃ D, D = cn (dist xs) n := ⟨_, rfl⟩
  rw [← hDD] at hsl hcl hbD
  have HDD := Lib.hid hDD
  have Hsl := Lib.hid hsl
  have Hb0 := Lib.hid hb0
  have HbD := Lib.hid hbD
  clear hsf hsl hb0 hbD hDD
  go_enter Try.func4, Try.ntmps4
  go_wp2_with (go_at_call 7; refine (dist_calls HH.out (by omega)).mono ?_)
  rintro e w1 ⟨bD, rfl, hD, hge1, hf1⟩
  have HU1 := Lib.hid (HH.out.frm hf1 (fun _ _ h => h))
  go_wp2_with (go_at_call 8; refine (hits_calls HU1.out (by omega)).mono ?_)
  rintro e w2 ⟨bH, capH, rfl, hH, hcapH, hge2, hf2⟩
  rw [← HDD.out] at hH hcapH ⊢
  have HU2 := Lib.hid (HU1.out.frm hf2 (fun _ _ h => h))
  go_wp2_with (go_at_call 10; refine (stack_calls HU2.out (by omega)).mono ?_)
  rintro e w4 ⟨vS, rfl, hS, hf4⟩
  obtain ⟨aS, capS, hvS⟩ := hS.shape
  rw [Hsl.out] at hvS
  subst hvS
  have hD4 := ((hD.frm hf2 id).frm hf4 id)
  have hH4 := (hH.frm hf4 id)
  have hF4 := (hf1.trans hf2 (fun _ _ h => h)).trans hf4 (fun _ _ h => h)
  have g0 := hH4.cell (o := 0) (by omega)
  have gD := hH4.cell (o := D) (by omega)
  rw [Hb0.out] at g0
  rw [HbD.out] at gD
  have HD4 := Lib.hid hD4
  have HH4 := Lib.hid hH4
  have HF4 := Lib.hid hF4
  clear hD hH hf1 hf2 hf4 hS hD4 hH4 hF4 hge1 hge2
  go_wp2
  clear g0 gD
  obtain ⟨d, hd⟩ : ∃ d, d = dist xs := ⟨_, rfl⟩
  have Hd := Lib.hid hd
  have HD4 := Lib.hid (show Row w4 bD .i64 d n by rw [hd]; exact HD4.out)
  have HH4 := Lib.hid (show Row w4 bH .i64 (bl d n) (D + 1) by rw [hd]; exact HH4.out)
  clear hd
  go_loopw [11] (fun i wr => ∃ j : Nat, j ≤ D + 1 ∧ i = .int .i64 j ∧ Frm (fun _ => False) w4 wr) (fun i _ => D + 1 - (intOf i).toNat)
  case atStart => exact ⟨0, Nat.zero_le _, rfl, Frm.refl _ _⟩
  case round =>
    obtain ⟨j, hj, rfl, hf⟩ := hrel
    have hDr := HD4.out.frm hf id
    have hHr := HH4.out.frm hf id
    have Hf := Lib.hid hf
    clear hf
    rcases Nat.lt_or_ge j (D + 1) with hlt | hge
    · go_wp2
      go_loopw [12, 13] (fun x i w5 => ∃ k : Nat, k ≤ n ∧ x = .int .i64 (bl d k j) ∧ i = .int .i64 k ∧ w5 = wr) (fun _ i _ => n - (intOf i).toNat)
      case atStart => exact ⟨0, Nat.zero_le _, rfl, rfl, rfl⟩
      case round =>
        obtain ⟨k, hk, rfl, rfl, rfl⟩ := hrel
        have hbk := bl_bound d j k
        rcases Nat.lt_or_ge k n with hkn | hkn
        · have g1 := hDr.cell hkn
          have hbl : bl d (k + 1) j = bl d k j + (if 0 ≤ d k ∧ d k < j then 1 else 0) := rfl
          generalize d k = x at g1 hbl
          generalize bl d k j = c0 at hbl hbk ⊢
          by_cases h0 : 0 ≤ x
          · have e1 : decide (0 ≤ x) = true := by simp [h0]
            by_cases h1 : x < j
            · have e2 : decide (x < (j : Int)) = true := by simp [h1]
              rw [if_pos ⟨h0, h1⟩] at hbl
              have Hbl := Lib.hid hbl
              clear hbl h0 h1
              go_wp2
              go_roundw
              case rel => exact ⟨k + 1, by omega, by rw [Hbl.out], by go_num, trivial⟩
              case measure => simp only [intOf]; omega
            · have e2 : decide (x < (j : Int)) = false := by simp; omega
              rw [if_neg (fun y => h1 y.2)] at hbl
              have Hbl := Lib.hid hbl
              clear hbl h0 h1
              go_wp2
              go_roundw
              case rel => exact ⟨k + 1, by omega, by rw [Hbl.out]; simp, by go_num, trivial⟩
              case measure => simp only [intOf]; omega
          · have e1 : decide (0 ≤ x) = false := by simp; omega
            rw [if_neg (fun y => h0 y.1)] at hbl
            have Hbl := Lib.hid hbl
            clear hbl h0
            go_wp2
            go_roundw
            case rel => exact ⟨k + 1, by omega, by rw [Hbl.out]; simp, by go_num, trivial⟩
            case measure => simp only [intOf]; omega
        · have hke : k = n := by omega
          subst hke
          have g1 := hHr.cell hlt
          rcases Nat.eq_zero_or_pos j with hj0 | hj0
          · subst hj0
            generalize bl d k 0 = c0 at g1 ⊢
            go_wp2
            refine wp_region_plan 22 (fun _ => True) [] (.block 0 (.block 2 (.block 4 (.block 7 (.block 8 (.block 10 (.block 12 (.block 14 (.block 16 (.block 18 (.block 20 (.block 22 (.block 24 (.block 27 (.block 28 (.block 30 (.block 32 (.block 34 (.block 37 (.block 38 (.block 40 (.block 42 (.skip))))))))))))))))))))))) rfl rfl (by kernel_rfl) trivial ?_
            repeat (first | (refine plan_free rfl rfl (fun K hK => ?_); (go_simp; (try go_bits); (try (go_ite <;> go_prune <;> (try go_simp)))); refine hK _ (fun W hW => ?_) ?_ <;> clear hK K; (· ((go_simp; (try go_bits); (try (go_ite <;> go_prune <;> (try go_simp)))); (first | done | rfl | (simp (disch := omega) only [IntWalk.u32_in]; done) | (simp (disch := omega) only [IntWalk.i64_in]; done) | (simp (disch := omega) only [IntWalk.wrap64_in]; done))))) | (refine plan_tight rfl rfl (fun K hK => ?_); (go_simp; (try go_bits); (try (go_ite <;> go_prune <;> (try go_simp)))); refine hK _ ?_; clear hK K))
            refine plan_done ?_
            go_wp2
            go_roundw
            case rel => exact ⟨1, by omega, rfl, Hf.out.drew⟩
            case measure => simp only [intOf]; omega
          · have g2 := hHr.cell (o := j - 1) (by omega)
            have hmo := bl_mono d k (show j - 1 ≤ j by omega)
            generalize bl d k j = c0 at g1 hmo ⊢
            generalize bl d k (j - 1) = c1 at g2 hmo
            have e1 : decide ((0 : Int) < j) = true := by simp; omega
            have e2 : decide (c0 < c1) = false := by simp; omega
            have e3 : ((j : Int) - 1).toNat = j - 1 := by omega
            have e4 : ((j : Int) - 1) = ((j - 1 : Nat) : Int) := by omega
            clear hmo
            go_wp2
            refine wp_region_plan 22 (fun _ => True) [] (.block 0 (.block 2 (.block 4 (.block 7 (.block 8 (.block 10 (.block 12 (.block 14 (.block 16 (.block 18 (.block 20 (.block 22 (.block 24 (.block 27 (.block 28 (.block 30 (.block 32 (.block 34 (.block 37 (.block 38 (.block 40 (.block 42 (.skip))))))))))))))))))))))) rfl rfl (by kernel_rfl) trivial ?_
            repeat (first | (refine plan_free rfl rfl (fun K hK => ?_); (go_simp; (try go_bits); (try (go_ite <;> go_prune <;> (try go_simp)))); refine hK _ (fun W hW => ?_) ?_ <;> clear hK K; (· ((go_simp; (try go_bits); (try (go_ite <;> go_prune <;> (try go_simp)))); (first | done | rfl | (simp (disch := omega) only [IntWalk.u32_in]; done) | (simp (disch := omega) only [IntWalk.i64_in]; done) | (simp (disch := omega) only [IntWalk.wrap64_in]; done))))) | (refine plan_tight rfl rfl (fun K hK => ?_); (go_simp; (try go_bits); (try (go_ite <;> go_prune <;> (try go_simp)))); refine hK _ ?_; clear hK K))
            refine plan_done ?_
            go_wp2
            go_roundw
            case rel => exact ⟨j + 1, by omega, by go_num, Hf.out.drew⟩
            case measure => simp only [intOf]; omega
    · have hjD : j = D + 1 := by omega
      subst hjD
      have hFw := HF4.out.trans Hf.out (fun _ _ h => h)
      have HFw := Lib.hid hFw
      clear hFw
      go_wp2
      obtain ⟨bX, hbX⟩ : ∃ b, b = wr.heap.size := ⟨_, rfl⟩
      have H0 := Lib.hid (show RowN (wr.alloc (.cells Z 24 (0, 0))) bX .u32 (fun _ => 0) n from ⟨Z, _, by rw [hbX]; exact alloc_new _ _, Hz.out⟩)
      have F0 := Lib.hid (show Frm (fun _ => False) wr (wr.alloc (.cells Z 24 (0, 0))) from (Frm.refl _ wr).alloc _)
      have HbX := Lib.hid hbX
      rw [← hbX]
      clear hbX hDr hHr
      generalize World.alloc wr _ = w6 at H0 F0 ⊢
      go_loopw [15] (fun i w7 => ∃ k : Nat, k ≤ n ∧ i = .int .i64 k ∧ (∃ c, RowN w7 bX .u32 c n ∧ ∀ j, j < k → c j = oth A (xs j)) ∧ Frm (fun _ => False) wr w7) (fun i _ => n - (intOf i).toNat)
      case atStart => exact ⟨0, Nat.zero_le _, rfl, ⟨_, H0.out, fun j hj => by omega⟩, F0.out⟩
      case round =>
        obtain ⟨k, hk, rfl, ⟨c, hR, hc⟩, hf⟩ := hrel
        rcases Nat.lt_or_ge k n with hlt | hge2
        · obtain ⟨a', cap', he, hin⟩ := HH.out.frm (HFw.out.trans hf (fun _ _ h => h)) (fun _ _ h => h)
          obtain ⟨b, off, ha', gx, hxk⟩ := hin k hlt
          injection he with e1 e2 e3
          subst e1
          subst ha'
          clear hin e2 e3
          have g0 := hR.cell hlt
          have r0 := hR.free
          have hbx := bits_xor5 hxk
          have h5 := xor5_lt hxk
          have hoth : oth A (xs k) = ((xs k ^^^ 5) + A) % 4294967296 := rfl
          generalize xs k ^^^ 5 = y at hbx h5 hoth
          have hadd : ((y : Int) + (A : Int)) % 4294967296 = (oth A (xs k) : Int) := by omega
          have Hc := Lib.hid hc
          have Hoth := Lib.hid hoth
          clear hc hoth
          go_wp2
          generalize hw2 : World.setCell _ _ _ = w2
          have H2 := Lib.hid (show RowN w2 bX .u32 (upd c k (oth A (xs k))) n by rw [← hw2]; exact hR.set k _)
          have F2 := Lib.hid (hf.trans (T := fun b => b = bX) (show Frm (fun b => b = bX) wr w2 by rw [← hw2]; exact (Frm.refl (fun b => b = bX) wr).setCell (a := ⟨bX, k, none⟩) (fun _ => rfl) _) (fun b hb h => by have := HbX.out; omega))
          clear hw2 hR hf g0 r0
          go_wp2
          go_roundw
          case rel =>
            refine ⟨k + 1, by omega, by go_num, ⟨_, H2.out, fun j hj => ?_⟩, F2.out⟩
            by_cases e : j = k
            · subst e; rw [upd_same]
            · rw [upd_ne _ _ e]; exact Hc.out j (by omega)
          case measure => simp only [intOf]; omega
        · have hkn : k = n := by omega
          subst hkn
          have hxl : ∀ i, i < k → xs i < 4294967296 := fun i hi => by
            obtain ⟨_, _, _, h⟩ := HH.out
            obtain ⟨_, _, _, _, h2⟩ := h i hi
            exact h2
          have hX : RdU wr (.slice (some ⟨bX, 0, none⟩) k k) k (fun i => oth A (xs i)) := RdU.of_row (hR.congr (fun o ho => hc o ho)) (fun i hi => Nat.mod_lt _ (by decide))
          have hturn : ∀ i, i < k → dist (fun i => oth A (xs i)) i = d i := fun i hi => by
            rw [Hd.out]
            exact dist_turn (n := k) (fun i j hi hj => oth_inj (hxl i hi) (hxl j hj)) hi
          have HX := Lib.hid hX
          have HT := Lib.hid hturn
          have HF7 := Lib.hid (HFw.out.trans hf (fun _ _ h => h))
          have HD7 := Lib.hid (((HD4.out.frm Hf.out id).frm hf id))
          clear hxl hX hturn hR hc hf
          go_wp2_with (go_at_call 7; refine (dist_calls HX.out (by omega)).mono ?_)
          rintro e w8 ⟨bE, rfl, hE, -, hf8⟩
          have HD8 := Lib.hid (HD7.out.frm hf8 id)
          have HF8 := Lib.hid (HF7.out.trans hf8 (fun _ _ h => h))
          have HE := Lib.hid hE
          clear hE hf8
          go_wp2_with (go_at_call 11; refine (eqI_calls (RdI.of_row HE.out) (RdI.of_row HD8.out) (by omega) HT.out).mono ?_)
          rintro e w9 ⟨rfl, hf9⟩
          have HF9 := Lib.hid (HF8.out.trans hf9 (fun _ _ h => h))
          clear hf9
          go_wp2_with (go_at_call 6; refine known_calls.mono ?_)
          rintro e w10 ⟨rfl, hf10⟩
          go_wp2
          go_ret
          exact ⟨rfl, HF9.out.trans hf10 (fun _ _ h => h)⟩
end Go.Proofs.Ytbhnobjjpmmmnaa
