/- Layer 37: Hits. -/
import Derived.Test.YtbhnobjjpmmmnaaDist
namespace Go.Proofs.Ytbhnobjjpmmmnaa
open Go.RowKit Go.Cub

def cn (d : Nat → Int) : Nat → Nat
  | 0 => 0
  | n + 1 => cn d n + (if d n < 0 then 1 else 0)
def eqc (d : Nat → Int) : Nat → Nat → Int
  | 0, _ => 0
  | n + 1, s => eqc d n s + (if 0 ≤ d n ∧ d n + 1 = s then 1 else 0)
def bl (d : Nat → Int) : Nat → Nat → Int
  | 0, _ => 0
  | n + 1, s => bl d n s + (if 0 ≤ d n ∧ d n < s then 1 else 0)

theorem cn_le (d : Nat → Int) : ∀ n, cn d n ≤ n
  | 0 => Nat.le_refl _
  | n + 1 => by have := cn_le d n; unfold cn; split <;> omega
theorem cn_mono (d : Nat → Int) {a : Nat} : ∀ {n}, a ≤ n → cn d a ≤ cn d n
  | 0, h => by have : a = 0 := by omega
               subst this; exact Nat.le_refl _
  | n + 1, h => by
    rcases Nat.lt_or_ge a (n + 1) with h1 | h1
    · have := cn_mono d (a := a) (n := n) (by omega)
      show cn d a ≤ cn d n + _
      omega
    · have : a = n + 1 := by omega
      subst this; exact Nat.le_refl _
theorem eqc_bound (d : Nat → Int) (s : Nat) : ∀ n, 0 ≤ eqc d n s ∧ eqc d n s ≤ n
  | 0 => by simp [eqc]
  | n + 1 => by have := eqc_bound d s n; unfold eqc; split <;> omega
theorem bl_bound (d : Nat → Int) (s : Nat) : ∀ n, 0 ≤ bl d n s ∧ bl d n s ≤ n
  | 0 => by simp [bl]
  | n + 1 => by have := bl_bound d s n; unfold bl; split <;> omega
theorem bl_zero (d : Nat → Int) : ∀ n, bl d n 0 = 0
  | 0 => rfl
  | n + 1 => by rw [bl, bl_zero d n, if_neg (by omega)]; rfl
theorem eqc_zero (d : Nat → Int) : ∀ n, eqc d n 0 = 0
  | 0 => rfl
  | n + 1 => by rw [eqc, eqc_zero d n, if_neg (by omega)]; rfl
theorem bl_succ (d : Nat → Int) (s : Nat) : ∀ n, bl d n (s + 1) = bl d n s + eqc d n (s + 1)
  | 0 => rfl
  | n + 1 => by
    rw [bl, bl, eqc, bl_succ d s n]
    by_cases h0 : 0 ≤ d n
    · by_cases h1 : d n < s
      · rw [if_pos ⟨h0, by omega⟩, if_pos ⟨h0, h1⟩, if_neg (by omega)]; omega
      · by_cases h2 : d n = s
        · rw [if_pos ⟨h0, by omega⟩, if_neg (by omega), if_pos ⟨h0, by omega⟩]; omega
        · rw [if_neg (by omega), if_neg (by omega), if_neg (by omega)]; omega
    · rw [if_neg (by omega), if_neg (by omega), if_neg (by omega)]; omega

theorem dist_ge (xs : Nat → Nat) (i : Nat) : -1 ≤ dist xs i ∧ (lastOf xs i (xs i) = none → dist xs i = -1) ∧ (∀ a, lastOf xs i (xs i) = some a → 0 ≤ dist xs i ∧ dist xs i + 1 ≤ pre (mark xs i) i) := by
  have hmono : ∀ a b, a ≤ b → pre (mark xs i) a ≤ pre (mark xs i) b := by
    intro a b h
    induction b with
    | zero => have : a = 0 := by omega
              subst this; exact Int.le_refl _
    | succ b ih =>
      rcases Nat.lt_or_ge a (b + 1) with h1 | h1
      · have := ih (by omega)
        have := (mark_bound xs i b).1
        rw [pre]; omega
      · have : a = b + 1 := by omega
        subst this; exact Int.le_refl _
  unfold dist
  cases h : lastOf xs i (xs i) with
  | none => exact ⟨by simp, fun _ => rfl, fun a ha => by cases ha⟩
  | some a =>
    obtain ⟨ha, hxa⟩ := lastOf_lt h
    have h1 := hmono (a + 1) i (by omega)
    have h2 := hmono 0 a (by omega)
    have h3 : mark xs i a = 1 := by unfold mark; rw [hxa, h, if_pos rfl]
    have h4 : pre (mark xs i) (a + 1) = pre (mark xs i) a + 1 := by rw [pre, h3]
    have h5 : pre (mark xs i) 0 = 0 := rfl
    refine ⟨by simp only []; omega, (by intro x; cases x), fun b hb => ?_⟩
    simp only []
    omega

theorem pre_total (xs : Nat → Nat) : ∀ i j, i ≤ j → pre (mark xs i) j = cn (dist xs) i
  | 0, j, _ => by rw [mark_zero, pre_zero]; rfl
  | i + 1, j, h => by
    have ih := pre_total xs i j (by omega)
    have hg := dist_ge xs i
    rw [cn]
    cases hl : lastOf xs i (xs i) with
    | none =>
      rw [mark_new hl, pre_upd, ih, if_pos (by omega), if_pos (by have := hg.2.1 hl; omega)]
      omega
    | some a =>
      have ha := (lastOf_lt hl).1
      rw [mark_old hl, pre_upd, pre_upd, ih, if_pos (by omega), if_pos (by omega), if_neg (by have := (hg.2.2 a hl).1; omega)]
      omega
theorem dist_lt (xs : Nat → Nat) {i n : Nat} (hi : i < n) : dist xs i < cn (dist xs) n := by
  have h1 := dist_ge xs i
  have h2 := pre_total xs i i (Nat.le_refl _)
  have h3 := cn_mono (dist xs) (a := i) (n := n) (by omega)
  have h4 := cn_mono (dist xs) (a := i + 1) (n := n) (by omega)
  cases hl : lastOf xs i (xs i) with
  | none => have := h1.2.1 hl; omega
  | some a => have := h1.2.2 a hl; omega

theorem SlI.row {w : World} {base : Nat} {v : Value} {xs : List Int} (h : SlI w base v xs) (hx : 0 < xs.length) :
    ∃ b cap, v = .slice (some ⟨b, 0, none⟩) xs.length cap ∧ base ≤ b ∧ xs.length ≤ cap ∧ cap ≤ maxLen ∧ Row w b .i64 (fun j => xs.getD j 0) xs.length := by
  obtain ⟨h1, h2 | ⟨g, cap, cur, hv, hg, hh, hn, hc, hs, ht⟩⟩ := h
  · have := h2.2; omega
  · refine ⟨g, cap, hv, hg, hn, hc, cur, _, hh, fun o ho => ?_⟩
    have h3 : (cur.toList.take (xs.length * 1))[o]? = (is xs)[o]? := by rw [ht]
    rw [Nat.mul_one, List.getElem?_take_of_lt ho] at h3
    rw [← Array.getElem?_toList, h3]
    simp [is, ho]
theorem SlI.one (w : World) (x : Int) {base : Nat} (hb : base ≤ w.heap.size) : SlI (w.alloc (.cells #[.int .i64 x] 3 (0, 0))) base (.slice (some ⟨w.heap.size, 0, none⟩) 1 1) [x] :=
  ⟨rfl, .inr ⟨w.heap.size, 1, #[.int .i64 x], rfl, hb, alloc_new _ _, Nat.le_refl _, by unfold maxLen; omega, rfl, rfl⟩⟩

def HitsPost (w : World) (n : Nat) (xs : Nat → Nat) (e : Ending) (w' : World) : Prop :=
  ∃ b cap, e = .returned (.tuple #[.slice (some ⟨b, 0, none⟩) (cn (dist xs) n + 1) cap, .int .i64 0]) ∧ Row w' b .i64 (bl (dist xs) n) (cn (dist xs) n + 1) ∧ cn (dist xs) n + 1 ≤ cap ∧ w.heap.size ≤ b ∧ Frm (fun _ => False) w w'

theorem hits_long {w : World} {v : Value} {n : Nat} {xs : Nat → Nat} (H : RdU w v n xs) (hn : 4096 < n) (hn2 : n < 1000000) :
    Calls Try.prog 8 #[v] w fun e w' => e = .returned (.tuple #[.slice none 0 0, .int .i64 5]) ∧ w = w' := by
  go_enter Try.func8, Try.ntmps8
  go_wp2_with (go_at_call 7; refine (dist_long H hn hn2).mono ?_; rintro e w' ⟨rfl, rfl⟩)
  first | go_ret | go_ret2
  exact ⟨rfl, rfl⟩

set_option maxHeartbeats 4000000 in
theorem hits_calls {w : World} {v : Value} {n : Nat} {xs : Nat → Nat} (H : RdU w v n xs) (hn : n ≤ 4096) : Calls Try.prog 8 #[v] w (HitsPost w n xs) := by
  obtain ⟨i0, hi, hz0, hz1, hz2⟩ := info_parts info_int
  have hdl := fun i (h : i < n) => dist_lt xs h
  have hdg := fun i => (dist_ge xs i).1
  have HDL := Lib.hid hdl
  have HDG := Lib.hid hdg
  obtain ⟨d, hd⟩ : ∃ d, d = dist xs := ⟨_, rfl⟩
  have hD := cn_le d n
  go_enter Try.func8, Try.ntmps8
  go_wp2_with (go_at_call 7; refine (dist_calls H hn).mono ?_)
  rintro e w1 ⟨bD, rfl, hR, hb, hf0⟩
  rw [← hd] at hR
  clear hdl hdg
  have Hd := Lib.hid hd
  clear hd
  obtain ⟨B, hB⟩ : ∃ B, B = w1.heap.size := ⟨_, rfl⟩
  have HB := Lib.hid hB
  have hRB : bD < B := by rw [hB]; exact hR.lt
  clear hB
  go_wp2
  have H0 := SlI.one w1 0 (base := B) (by rw [HB.out]; exact Nat.le_refl _)
  have F0 : Frm (fun _ => False) w1 (w1.alloc (.cells #[.int .i64 0] 3 (0, 0))) := (Frm.refl _ w1).alloc _
  have H0 := Lib.hid H0
  have F0 := Lib.hid F0
  generalize World.alloc w1 _ = w2 at H0 F0 ⊢
  generalize Value.slice (some ⟨w1.heap.size, 0, none⟩) 1 1 = v0 at H0 ⊢
  go_loopw [6, 23] (fun v i wr => ∃ k : Nat, k ≤ n ∧ i = .int .i64 k ∧ SlI wr B v (List.replicate (cn d k + 1) 0) ∧ Frm (fun _ => False) w1 wr) (fun _ i _ => n - (intOf i).toNat)
  case atStart => exact ⟨0, Nat.zero_le _, rfl, H0.out, F0.out⟩
  case round =>
    obtain ⟨k, hk, rfl, hS, hf⟩ := hrel
    have hRw := hR.frm hf id
    rcases Nat.lt_or_ge k n with hlt | hge
    · have g0 := hRw.cell hlt
      have hdk := HDG.out k
      rw [← Hd.out] at hdk
      have hcn : cn d (k + 1) = cn d k + (if d k < 0 then 1 else 0) := rfl
      have hck := cn_le d k
      have hsz : B ≤ wr.heap.size := by rw [HB.out]; exact hf.size
      generalize d k = x at g0 hdk hcn
      generalize cn d k = m at hS hcn hck
      rcases Int.lt_or_le x 0 with hx | hx
      · rw [if_pos hx] at hcn
        have hx1 : decide (x < 0) = true := by simp [hx]
        have Hcn := Lib.hid hcn
        clear hcn hdk hx
        go_wp2_with (at_builtin; go_loud (refine wpList_append_own _ rfl _ _ 25 rfl B 3 i0 (.int .i64 0) 1 8 Try.underlying25 hi hz0 hz1 hz2 rfl (by decide) _ _ _ rfl (World.ownsRow.alloc hS _) ⟨wr.heap.size, 0, none⟩ 1 1 [.int .i64 0] rfl rfl (one_cell_at) (one_cell_i 0) (by simp only [List.length_replicate]; unfold maxLen; omega) (by simp only [List.length_replicate]; omega) (by simp; omega) ?_))
        intro v' w3 hown' hgrow _
        have F1 : Frm (fun _ => False) w1 w3 := frm_app hf hS hgrow (fun b h1 h2 => absurd h1 (by have := HB.out; omega))
        have O1 : SlI w3 B v' (List.replicate (m + 1) 0 ++ [0]) := SlI.snoc (by rw [List.length_replicate]; exact hown')
        rw [← List.replicate_succ'] at O1
        have O1 := Lib.hid O1
        have F1 := Lib.hid F1
        clear hown' hgrow hS hf
        go_wp2
        go_roundw
        case rel => exact ⟨k + 1, by omega, by go_num, by rw [Hcn.out]; exact O1.out, F1.out⟩
        case measure => simp only [intOf]; omega
      · rw [if_neg (by omega)] at hcn
        have hx1 : decide (x < 0) = false := by simp; omega
        have Hcn := Lib.hid hcn
        have HS := Lib.hid hS
        have Hf := Lib.hid hf
        clear hcn hdk hx hS hf
        go_wp2
        go_roundw
        case rel => exact ⟨k + 1, by omega, by go_num, by rw [Hcn.out]; exact HS.out, Hf.out⟩
        case measure => simp only [intOf]; omega
    · have hkn : k = n := by omega
      subst hkn
      obtain ⟨b, cap, rfl, hBb, hcap, hcap2, hRo⟩ := hS.row (by simp)
      rw [List.length_replicate] at hcap hRo ⊢
      have hRo : Row wr b .i64 (eqc d 0) (cn d k + 1) := hRo.congr (fun o ho => by simp [eqc, List.getD, ho])
      have hbD : bD ≠ b := by omega
      obtain ⟨D, hDD⟩ : ∃ D, D = cn d k := ⟨_, rfl⟩
      rw [← hDD] at hcap hRo hD ⊢
      have HDD := Lib.hid hDD
      have HBb := Lib.hid hBb
      have HRo := Lib.hid hRo
      have Hf := Lib.hid hf
      clear hDD hBb hRo hf hS hRw H0 F0
      go_wp2
      go_loopw [35] (fun i wr => ∃ j : Nat, j ≤ k ∧ i = .int .i64 j ∧ Row wr b .i64 (eqc d j) (D + 1) ∧ Frm (fun _ => False) w1 wr) (fun i _ => k - (intOf i).toNat)
      case atStart => exact ⟨0, Nat.zero_le _, rfl, HRo.out, Hf.out⟩
      case round =>
        obtain ⟨j, hj, rfl, hO, hf⟩ := hrel
        have hRw := hR.frm hf id
        rcases Nat.lt_or_ge j k with hlt | hge
        · have g0 := hRw.cell hlt
          have hlt2 := HDL.out j hlt
          have hge2 := HDG.out j
          rw [← Hd.out] at hlt2 hge2
          rw [← HDD.out] at hlt2
          have hst : ∀ s, eqc d (j + 1) s = eqc d j s + (if 0 ≤ d j ∧ d j + 1 = s then 1 else 0) := fun s => rfl
          have Hst := Lib.hid hst
          clear hst
          rcases Int.lt_or_le (d j) 0 with hx | hx
          · have hx1 : decide (0 ≤ d j) = false := by simp; omega
            have hO2 : Row wr b .i64 (eqc d (j + 1)) (D + 1) := hO.congr (fun o _ => by rw [Hst.out o, if_neg (by omega)]; omega)
            have HO2 := Lib.hid hO2
            have Hf := Lib.hid hf
            generalize d j = x at g0 hx1
            clear hO hO2 hf hlt2 hge2 hx
            go_wp2
            go_roundw
            case rel => exact ⟨j + 1, by omega, by go_num, HO2.out, Hf.out⟩
            case measure => simp only [intOf]; omega
          · obtain ⟨y, hy⟩ : ∃ y : Nat, d j = (y : Int) := ⟨(d j).toNat, by omega⟩
            rw [hy] at g0 hlt2
            have hyD : y < D := by omega
            have g1 := hO.cell (o := y + 1) (by omega)
            have r1 := hO.free
            have hcb := eqc_bound d (y + 1) j
            have hO2 : ∀ o, upd (eqc d j) (y + 1) (eqc d j (y + 1) + 1) o = eqc d (j + 1) o := by
              intro o
              rw [Hst.out o, hy]
              by_cases e : o = y + 1
              · subst e
                rw [upd_same, if_pos ⟨by omega, by omega⟩]
              · rw [upd_ne _ _ e, if_neg (by omega)]; omega
            have HO2 := Lib.hid hO2
            have Hy := Lib.hid hy
            clear hO2 hlt2 hge2 hx hy
            generalize hc : eqc d j (y + 1) = c0 at g1 hcb
            have Hc := Lib.hid hc
            clear hc
            go_wp2
            generalize hw3 : World.setCell _ _ _ = w3
            have H3 : Row w3 b .i64 (eqc d (j + 1)) (D + 1) := by
              rw [← hw3]
              refine (hO.set (y + 1) (c0 + 1)).congr (fun o _ => ?_)
              rw [← HO2.out o, Hc.out]
            have F3 : Frm (fun _ => False) w1 w3 := by
              rw [← hw3]; exact hf.setCell (fun h => by have := HB.out; have := HBb.out; simp at h; omega) _
            have H3 := Lib.hid H3
            have F3 := Lib.hid F3
            clear hw3 hO hf g1 r1
            go_wp2
            go_roundw
            case rel => exact ⟨j + 1, by omega, by go_num, H3.out, F3.out⟩
            case measure => simp only [intOf]; omega
        · have hjn : j = k := by omega
          subst hjn
          have hO3 : Row wr b .i64 (fun s => if s ≤ 0 then bl d j s else eqc d j s) (D + 1) := hO.congr (fun o _ => by
            by_cases e : o = 0
            · subst e; simp [bl_zero, eqc_zero]
            · rw [if_neg (by omega)])
          have HO3 := Lib.hid hO3
          have Hf := Lib.hid hf
          clear hO3 hO hf hRw HRo
          go_wp2
          ·
            go_loopw [52] (fun i wr => ∃ m : Nat, m ≤ D ∧ i = .int .i64 m ∧ Row wr b .i64 (fun s => if s ≤ m then bl d j s else eqc d j s) (D + 1) ∧ Frm (fun _ => False) w1 wr) (fun i _ => D - (intOf i).toNat)
            case atStart => exact ⟨0, Nat.zero_le _, rfl, HO3.out, Hf.out⟩
            case round =>
              obtain ⟨m, hm, rfl, hO, hf⟩ := hrel
              rcases Nat.lt_or_ge m D with hlt | hge
              · have g0 := hO.cell (o := m) (by omega)
                have g1 := hO.cell (o := m + 1) (by omega)
                have r1 := hO.free
                rw [if_pos (Nat.le_refl m)] at g0
                rw [if_neg (by omega)] at g1
                have hb1 := bl_bound d m j
                have hb2 := eqc_bound d (m + 1) j
                have hsum := bl_succ d m j
                have hO2 : ∀ o, upd (fun s => if s ≤ m then bl d j s else eqc d j s) (m + 1) (eqc d j (m + 1) + bl d j m) o = if o ≤ m + 1 then bl d j o else eqc d j o := by
                  intro o
                  by_cases e : o = m + 1
                  · subst e; rw [upd_same, if_pos (Nat.le_refl _)]; omega
                  · rw [upd_ne _ _ e]
                    by_cases h1 : o ≤ m
                    · rw [if_pos h1, if_pos (by omega)]
                    · rw [if_neg h1, if_neg (by omega)]
                have HO2 := Lib.hid hO2
                have Hh := Lib.hid h
                clear hO2 hsum h
                generalize hc0 : bl d j m = c0 at g0 hb1
                generalize hc1 : eqc d j (m + 1) = c1 at g1 hb2
                have Hc0 := Lib.hid hc0
                have Hc1 := Lib.hid hc1
                clear hc0 hc1
                go_wp2
                refine wp_region_plan 12 (fun _ => True) [11] (.block 0 (.block 2 (.block 4 (.block 6 (.block 9 (.block 10 (.block 12 (.block 14 (.block 17 (.block 18 (.block 20 (.loop (.seq (.block 11 (.skip)) (.skip)))))))))))))) rfl rfl (by kernel_rfl) trivial ?_
                repeat (first | (refine plan_free rfl rfl (fun K hK => ?_); (go_simp; (try go_bits); (try (go_ite <;> go_prune <;> (try go_simp)))); refine hK _ (fun W hW => ?_) ?_ <;> clear hK K; (· ((go_simp; (try go_bits); (try (go_ite <;> go_prune <;> (try go_simp)))); (first | done | rfl | (simp (disch := omega) only [IntWalk.u32_in]; done) | (simp (disch := omega) only [IntWalk.i64_in]; done) | (simp (disch := omega) only [IntWalk.wrap64_in]; done))))) | (refine plan_tight rfl rfl (fun K hK => ?_); (go_simp; (try go_bits); (try (go_ite <;> go_prune <;> (try go_simp)))); refine hK _ ?_; clear hK K))
                refine plan_one rfl ?_
                go_wp2
                refine plan_done ?_
                generalize hw3 : World.drew _ = w3
                have H3 : Row w3 b .i64 (fun s => if s ≤ m + 1 then bl d j s else eqc d j s) (D + 1) := by
                  rw [← hw3]
                  refine ((hO.set (m + 1) (c1 + c0)).drew).congr (fun o _ => ?_)
                  rw [← HO2.out o, Hc0.out, Hc1.out]
                have F3 : Frm (fun _ => False) w1 w3 := by
                  rw [← hw3]; exact (hf.setCell (fun h => by have := HB.out; have := HBb.out; simp at h; omega) _).drew
                have H3 := Lib.hid H3
                have F3 := Lib.hid F3
                clear hw3 hO hf g0 g1 r1
                go_wp2
                go_roundw
                case rel => exact ⟨m + 1, by omega, by go_num, H3.out, F3.out⟩
                case measure => simp only [intOf]; omega
              · have hmD : m = D := by omega
                subst hmD
                go_wp2
                first | go_ret | go_ret2
                rw [HDD.out] at hcap hO ⊢
                rw [Hd.out] at hO hcap ⊢
                exact ⟨b, _, rfl, hO.congr (fun o ho => by rw [if_pos (by omega)]), by omega, by have := HB.out; have := hf0.size; have := HBb.out; omega, hf0.trans hf (fun _ _ h => h)⟩
          ·
            go_loopw [52] (fun i wr => ∃ m : Nat, m ≤ D ∧ i = .int .i64 m ∧ Row wr b .i64 (fun s => if s ≤ m then bl d j s else eqc d j s) (D + 1) ∧ Frm (fun _ => False) w1 wr) (fun i _ => D - (intOf i).toNat)
            case atStart => exact ⟨0, Nat.zero_le _, rfl, HO3.out, Hf.out⟩
            case round =>
              obtain ⟨m, hm, rfl, hO, hf⟩ := hrel
              rcases Nat.lt_or_ge m D with hlt | hge
              · have g0 := hO.cell (o := m) (by omega)
                have g1 := hO.cell (o := m + 1) (by omega)
                have r1 := hO.free
                rw [if_pos (Nat.le_refl m)] at g0
                rw [if_neg (by omega)] at g1
                have hb1 := bl_bound d m j
                have hb2 := eqc_bound d (m + 1) j
                have hsum := bl_succ d m j
                have hO2 : ∀ o, upd (fun s => if s ≤ m then bl d j s else eqc d j s) (m + 1) (eqc d j (m + 1) + bl d j m) o = if o ≤ m + 1 then bl d j o else eqc d j o := by
                  intro o
                  by_cases e : o = m + 1
                  · subst e; rw [upd_same, if_pos (Nat.le_refl _)]; omega
                  · rw [upd_ne _ _ e]
                    by_cases h1 : o ≤ m
                    · rw [if_pos h1, if_pos (by omega)]
                    · rw [if_neg h1, if_neg (by omega)]
                have HO2 := Lib.hid hO2
                have Hh := Lib.hid h
                clear hO2 hsum h
                generalize hc0 : bl d j m = c0 at g0 hb1
                generalize hc1 : eqc d j (m + 1) = c1 at g1 hb2
                have Hc0 := Lib.hid hc0
                have Hc1 := Lib.hid hc1
                clear hc0 hc1
                go_wp2
                refine wp_region_plan 12 (fun _ => True) [11] (.block 0 (.block 2 (.block 4 (.block 6 (.block 9 (.block 10 (.block 12 (.block 14 (.block 17 (.block 18 (.block 20 (.loop (.seq (.block 11 (.skip)) (.skip)))))))))))))) rfl rfl (by kernel_rfl) trivial ?_
                repeat (first | (refine plan_free rfl rfl (fun K hK => ?_); (go_simp; (try go_bits); (try (go_ite <;> go_prune <;> (try go_simp)))); refine hK _ (fun W hW => ?_) ?_ <;> clear hK K; (· ((go_simp; (try go_bits); (try (go_ite <;> go_prune <;> (try go_simp)))); (first | done | rfl | (simp (disch := omega) only [IntWalk.u32_in]; done) | (simp (disch := omega) only [IntWalk.i64_in]; done) | (simp (disch := omega) only [IntWalk.wrap64_in]; done))))) | (refine plan_tight rfl rfl (fun K hK => ?_); (go_simp; (try go_bits); (try (go_ite <;> go_prune <;> (try go_simp)))); refine hK _ ?_; clear hK K))
                refine plan_one rfl ?_
                go_wp2
                refine plan_done ?_
                generalize hw3 : World.drew _ = w3
                have H3 : Row w3 b .i64 (fun s => if s ≤ m + 1 then bl d j s else eqc d j s) (D + 1) := by
                  rw [← hw3]
                  refine ((hO.set (m + 1) (c1 + c0)).drew).congr (fun o _ => ?_)
                  rw [← HO2.out o, Hc0.out, Hc1.out]
                have F3 : Frm (fun _ => False) w1 w3 := by
                  rw [← hw3]; exact (hf.setCell (fun h => by have := HB.out; have := HBb.out; simp at h; omega) _).drew
                have H3 := Lib.hid H3
                have F3 := Lib.hid F3
                clear hw3 hO hf g0 g1 r1
                go_wp2
                go_roundw
                case rel => exact ⟨m + 1, by omega, by go_num, H3.out, F3.out⟩
                case measure => simp only [intOf]; omega
              · have hmD : m = D := by omega
                subst hmD
                go_wp2
                first | go_ret | go_ret2
                rw [HDD.out] at hcap hO ⊢
                rw [Hd.out] at hO hcap ⊢
                exact ⟨b, _, rfl, hO.congr (fun o ho => by rw [if_pos (by omega)]), by omega, by have := HB.out; have := hf0.size; have := HBb.out; omega, hf0.trans hf (fun _ _ h => h)⟩
end Go.Proofs.Ytbhnobjjpmmmnaa
