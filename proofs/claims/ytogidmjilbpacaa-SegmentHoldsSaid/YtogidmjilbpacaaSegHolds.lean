/- SegmentHolds: the stage's theorem on the program. -/
import Derived.Test.YtogidmjilbpacaaSegFew
import Derived.Test.YtogidmjilbpacaaSegRef
import Derived.Test.YtogidmjilbpacaaSegKnown
import Derived.Deep.CutRange
import Derived.Deep.CutBlock
namespace Go.Proofs.Ytogidmjilbpacaa
open Go.RowKit Go.Cub

theorem need_not {lim : Int} {g : Nat → Option Int} {Q : List Nat} {s : Nat} (v : Option Int) (h : s ∉ Q) : need lim (upd g s v) Q = need lim g Q := by
  unfold need
  rw [sumC_upd g v h]
theorem need_dn (lim : Int) (g : Nat → Option Int) (Q : List Nat) : need lim g (Q.drop (dn lim g Q)) = false := by
  rw [dn_need lim g Q _ (Nat.le_refl _)]; simp
theorem sumC_erase_le {n : Nat} {P Q : List Nat} {g : Nat → Option Int} {lim : Int} (H : SegOk n P Q g lim) (s : Nat) : sumC g (Q.erase s) ≤ sumC g Q := by
  by_cases h : s ∈ Q
  · rw [sumC_erase g h]
    cases hg : g s with
    | none => simp
    | some c => have := H.cost s c hg; simp only [Option.getD_some]; omega
  · rw [List.erase_of_not_mem h]; omega
theorem need_erase {n : Nat} {P Q : List Nat} {g : Nat → Option Int} {lim : Int} (H : SegOk n P Q g lim) (h : need lim g Q = false) (s : Nat) : need lim (upd g s none) (Q.erase s) = false := by
  have hne : s ∉ Q.erase s := fun h => ((List.Nodup.mem_erase_iff H.nQ).1 h).1 rfl
  rw [need_not _ hne]
  have h1 := sumC_erase_le H s
  have h2 := List.length_erase_le (a := s) (l := Q)
  unfold need at h ⊢
  simp only [Bool.and_eq_false_iff, decide_eq_false_iff_not, Bool.or_eq_false_iff] at h ⊢
  omega
theorem use_len {n : Nat} {P Q : List Nat} {g : Nat → Option Int} {lim : Int} (H : SegOk n P Q g lim) {s : Nat} (hs : s ∈ P ∨ s ∈ Q) : (useP lim P s).length + (useQ lim Q s).length = P.length + Q.length := by
  have hP := @List.length_erase_of_mem _ _ _ s P
  have hQ := @List.length_erase_of_mem _ _ _ s Q
  unfold useP useQ
  rcases hs with h | h
  · have := H.dis s h
    have h1 := hP h
    have := List.length_pos_of_mem h
    rw [List.erase_of_not_mem (H.dis s h)]
    split <;> simp <;> omega
  · have h0 : s ∉ P := fun hp => H.dis s hp h
    have h1 := hQ h
    have := List.length_pos_of_mem h
    rw [List.erase_of_not_mem h0]
    split <;> simp <;> omega
theorem last_app (P T : List Nat) (h : T ≠ []) : (P ++ T).getLast? = T.getLast? := by
  rw [List.getLast?_append]
  cases hT : T.getLast? with
  | none => rw [List.getLast?_eq_none_iff] at hT; exact absurd hT h
  | some x => rfl

/-- what the loop of SegmentHolds keeps behind k calls -/
structure SH (w wr : World) (k : Nat) (fp : List Nat) (p n : Nat) (P Q : List Nat) (g : Nat → Option Int) (lim : Int) : Prop where
  ks : KS w wr fp p n P Q g lim
  cnt : n ≤ 60 * k
  len : P.length + Q.length ≤ k
  calm : need lim g Q = false

/-- .. where the statement 'switch' ends -/
def SHCut (w : World) (k p : Nat) (l m gn : Value) (wx : World) : Prop :=
  ∃ fp n P Q g lim gone, l = .int .i64 lim ∧ m = .int .i64 ((P.length : Int) + (Q.length : Int)) ∧ RU wx gn gone ∧ gone.length ≤ 100 ∧ (gone ≠ [] → P.getLast? = gone.getLast?) ∧ SH w wx (k + 1) fp p n P Q g lim

set_option maxRecDepth 100000 in
set_option maxHeartbeats 8000000 in
theorem segHolds_in {w : World} {v : Value} {acts : List ActD} (H : RA w v acts) (lim : Int) (hl : -1 ≤ lim ∧ lim ≤ 1099511627776) : Calls Try.prog 4 #[.int .i64 lim, v] w (TrueSame w) := by
  have HR : ∀ W, Calls Try.prog 9 #[.int .i64 lim] W (RNewPost W lim true) := fun W => by have := refNew_calls (w := W) lim; rwa [decide_eq_true hl] at this
  have HR := Lib.hid HR
  have HH := Lib.hid H
  have Hl := Lib.hid hl
  obtain ⟨a, ca, rfl, -⟩ := H
  obtain ⟨N, hN⟩ : ∃ n, n = acts.length := ⟨_, rfl⟩
  have HN := Lib.hid hN
  rw [← hN]
  clear hN hl
  go_enter Try.func4, Try.ntmps4
  go_wp2_with (go_at_call 9; refine (HR.out _).mono ?_)
  rintro e w1 ⟨o, rfl, hO, hf1⟩
  obtain ⟨v0, v1, rfl, H0, H1⟩ := hO
  obtain ⟨a0, c0, rfl, -⟩ := H0
  obtain ⟨a1, c1, rfl, -⟩ := H1
  have Hf1 := Lib.hid hf1
  clear hf1
  go_wp2_with (go_at_call 12; refine (few_calls (HN.out ▸ (HH.out.frm (Hf1.out.alloc _) (fun _ _ h => h)))).mono ?_)
  rintro e w2 ⟨b, rfl, hb, hf2⟩
  have Hf2 := Lib.hid ((Hf1.out.alloc _).trans hf2 (fun _ _ h => h))
  clear hf2 Hf1
  cases b with
  | false =>
    clear hb
    go_wp2_with (go_at_call 10; refine known_calls.mono ?_)
    rintro e w3 ⟨rfl, hf3⟩
    go_wp2
    go_ret
    exact ⟨rfl, Hf2.out.trans hf3 (fun _ _ h => h)⟩
  | true =>
    obtain ⟨h40, -⟩ := hb rfl
    rw [← HN.out] at h40
    clear hb
    go_wp2_with (go_at_call 8; refine (segNew_calls lim Hl.out).mono ?_)
    rintro e w3 ⟨p, fp, rfl, hF, hge, hf3⟩
    have K := Lib.hid (show SH w w3 0 fp p 0 [] [] (fun _ => none) lim from ⟨⟨hF, fun b hb => Nat.le_trans Hf2.out.size (hge b hb), Hf2.out.trans hf3 (fun _ _ h => h)⟩, by omega, by simp, rfl⟩)
    clear hF hge hf3 Hf2
    go_wp2
    go_loopw [0, 9] (fun l i wr => ∃ k fp n P Q g lim', k ≤ N ∧ i = .int .i64 (k : Nat) ∧ l = .int .i64 lim' ∧ SH w wr k fp p n P Q g lim') (fun _ i _ => N - (intOf i).toNat)
    case atStart => exact ⟨0, fp, 0, [], [], _, lim, Nat.zero_le _, rfl, rfl, K.out⟩
    case round =>
      clear K
      obtain ⟨k, fp', n, P, Q, g, lim', hk, rfl, rfl, hS⟩ := hrel
      rcases Nat.lt_or_ge k N with hlt | hge
      · have hlt' : k < acts.length := by rw [← HN.out]; exact hlt
        have hk40 : k ≤ 40 := by omega
        obtain ⟨_, _, q1, h1⟩ := HH.out.frm hS.ks.frm (fun _ _ h => h)
        injection q1 with q1 q1n q1c
        subst q1; subst q1c
        clear q1n
        obtain ⟨b1, o1, tv, e1, g0, g1, g2, g3, hU, hsl, hnw, htl⟩ := h1 k hlt'
        subst e1
        clear h1
        generalize acts[k] = x at g0 g1 g2 hU hsl hnw htl
        obtain ⟨wh, sl, nu, tos⟩ := x
        simp only [] at g0 g1 g2 hU hsl hnw htl
        obtain ⟨at', ct, rfl, -⟩ := hU
        generalize tos.length = tl at g3
        have HS := Lib.hid hS
        have Hsl := Lib.hid hsl
        have Hnw := Lib.hid hnw
        clear hS hsl hnw htl hlt'
        obtain ⟨X, hX⟩ : ∃ X, X = wr.heap.size := ⟨_, rfl⟩
        obtain ⟨W1, hW1⟩ : ∃ W1, W1 = wr.alloc (.cells #[.int .i64 wh, .int .u32 (sl : Int), .int .i64 nu, .slice at' tl ct] 40 (0, 0)) := ⟨_, rfl⟩
        have HF1 := Lib.hid (show KS w W1 fp' p n P Q g lim' by rw [hW1]; exact HS.out.ks.alloc _)
        have HL0 := Lib.hid (segLen0 HF1.out.seg)
        have HL1 := Lib.hid (segLen1 HF1.out.seg)
        have HX1 := Lib.hid (show W1.heap[X]? = some (.cells #[.int .i64 wh, .int .u32 (sl : Int), .int .i64 nu, .slice at' tl ct] 40 (0, 0)) by rw [hW1, hX]; exact alloc_new _ _)
        have HXf := Lib.hid (show X ∉ fp' from fun h => by have := HS.out.ks.seg.lt X h; omega)
        have hpq : (P.length : Int) + (Q.length : Int) ≤ 40 := by have := HS.out.len; omega
        have hpq0 : 0 ≤ (P.length : Int) + (Q.length : Int) := by omega
        have Hpq := Lib.hid HS.out.len
        rw [hW1] at HL0 HL1
        go_upto_block 2 with (first | (go_at_call 13; with_reducible refine Calls.mono HL0.out ?_; rintro e w' ⟨rfl, rfl⟩) | (go_at_call 13; with_reducible refine Calls.mono HL1.out ?_; rintro e w' ⟨rfl, rfl⟩))
        rw [← hW1, ← hX]
        clear hW1 hX HL0 HL1 g0 g1 g2 g3
        go_cut [0, 11, 12] from 43 to 190 (fun l m gn wx => SHCut w k p l m gn wx)
        case first =>
          as_aux_lemma =>
            have x0 := cell_at HX1.out (o := 0) rfl
            have x1 := cell_at HX1.out (o := 1) rfl
            have x2 := cell_at HX1.out (o := 2) rfl
            have hS1 := Lib.hid (show SH w W1 k fp' p n P Q g lim' from ⟨HF1.out, HS.out.cnt, HS.out.len, HS.out.calm⟩)
            have Hok := Lib.hid HF1.out.seg.ok
            by_cases h0 : wh = 0
            · subst h0
              by_cases harg : 4194304 ≤ sl ∨ nu < 0 ∨ 1099511627776 < nu
              · have Harg := Lib.hid harg
                clear harg
                go_wp2_with (go_at_call 14; refine (segAdd_arg HF1.out.seg sl nu Harg.out).mono ?_; rintro e w' ⟨rfl, rfl⟩)
                go_meet
                case rel => exact ⟨fp', n, P, Q, g, lim', [], rfl, rfl, RU.nil _ _ _, by simp, fun h => absurd rfl h, hS1.out.ks, by have := hS1.out.cnt; omega, by have := hS1.out.len; omega, hS1.out.calm⟩
              · have hsl : sl < 4194304 := by omega
                have hnu : 0 ≤ nu ∧ nu ≤ 1099511627776 := by omega
                have Hsl' := Lib.hid hsl
                have Hnu := Lib.hid hnu
                clear harg hsl hnu
                cases hg : g sl with
                | some c0 =>
                  have Hg := Lib.hid hg
                  clear hg
                  go_wp2_with (go_at_call 14; refine (segAdd_busy HF1.out.seg sl nu Hnu.out c0 Hg.out).mono ?_; rintro e w' ⟨rfl, rfl⟩)
                  go_meet
                  case rel => exact ⟨fp', n, P, Q, g, lim', [], rfl, rfl, RU.nil _ _ _, by simp, fun h => absurd rfl h, hS1.out.ks, by have := hS1.out.cnt; omega, by have := hS1.out.len; omega, hS1.out.calm⟩
                | none =>
                  have Hg := Lib.hid hg
                  clear hg
                  go_wp2_with (go_at_call 14; refine (segAdd_ok HF1.out.seg sl Hsl'.out nu Hnu.out Hg.out (by have := hS1.out.len; omega) (by have := hS1.out.cnt; omega)).mono ?_)
                  rintro e w5 ⟨rfl, hk5⟩
                  obtain ⟨fp5, hk5⟩ := hS1.out.ks.step hk5
                  have K5 := Lib.hid hk5
                  clear hk5 x0 x1 x2
                  go_wp2
                  go_meet
                  case rel =>
                    refine ⟨fp5, _, _, _, _, _, [], rfl, ?_, RU.nil _ _ _, by simp, fun h => absurd rfl h, K5.out, by have := hS1.out.cnt; omega, by have := hS1.out.len; simp; omega, ?_⟩
                    · simp; omega
                    · have hsQ : sl ∉ Q := fun h => by have := (Hok.out.dom sl).2 (.inr h); rw [Hg.out] at this; cases this
                      rw [need_not _ hsQ]; exact hS1.out.calm
            · have b0 : (wh == 0) = false := by simpa using h0
              by_cases h1 : wh = 1
              · subst h1
                clear h0
                by_cases harg : 4194304 ≤ sl ∨ nu < 0 ∨ 1099511627776 < nu
                · have Harg := Lib.hid harg
                  clear harg
                  go_wp2_with (go_at_call 15; refine (segUse_arg HF1.out.seg sl nu Harg.out).mono ?_; rintro e w' ⟨rfl, rfl⟩)
                  go_meet
                  case rel => exact ⟨fp', n, P, Q, g, lim', [], rfl, rfl, RU.nil _ _ _, by simp, fun h => absurd rfl h, hS1.out.ks, by have := hS1.out.cnt; omega, by have := hS1.out.len; omega, hS1.out.calm⟩
                · have hsl : sl < 4194304 := by omega
                  have hnu : 0 ≤ nu ∧ nu ≤ 1099511627776 := by omega
                  have Hsl' := Lib.hid hsl
                  have Hnu := Lib.hid hnu
                  clear harg hsl hnu
                  cases hg : g sl with
                  | none =>
                    have Hg := Lib.hid hg
                    clear hg
                    go_wp2_with (go_at_call 15; refine (segUse_none HF1.out.seg sl Hsl'.out nu Hnu.out Hg.out).mono ?_; rintro e w' ⟨rfl, rfl⟩)
                    go_meet
                    case rel => exact ⟨fp', n, P, Q, g, lim', [], rfl, rfl, RU.nil _ _ _, by simp, fun h => absurd rfl h, hS1.out.ks, by have := hS1.out.cnt; omega, by have := hS1.out.len; omega, hS1.out.calm⟩
                  | some c0 =>
                    have Hg := Lib.hid hg
                    have hul := use_len (lim := lim') Hok.out ((Hok.out.dom sl).1 (by rw [hg]; rfl))
                    clear hg
                    go_wp2_with (go_at_call 15; refine (segUse_ok HF1.out.seg sl nu Hnu.out c0 Hg.out (by have := hS1.out.len; have := hS1.out.cnt; omega)).mono ?_)
                    rintro e w5 ⟨v5, fp5, rfl, hv5, hk5⟩
                    have HV5 := Lib.hid (RU.own hv5)
                    obtain ⟨a5, cap5, hsh⟩ : ∃ a5 cap5, v5 = .slice a5 ((useQ lim' Q sl).take (dn lim' (upd g sl (some nu)) (useQ lim' Q sl))).length cap5 := by
                      obtain ⟨a5, c5, h5, -⟩ := HV5.out
                      exact ⟨a5, c5, h5⟩
                    have hdl := dn_le lim' (upd g sl (some nu)) (useQ lim' Q sl)
                    have hnd := need_dn lim' (upd g sl (some nu)) (useQ lim' Q sl)
                    generalize hD : dn lim' (upd g sl (some nu)) (useQ lim' Q sl) = D at hk5 HV5 hsh hdl hnd
                    obtain ⟨fp6, hk6⟩ := hS1.out.ks.step ⟨fp5, hk5.1, hk5.2.1, hk5.2.2.2⟩
                    have K5 := Lib.hid hk6
                    have Hnd := Lib.hid hnd
                    have Hul := Lib.hid hul
                    have Hdl := Lib.hid hdl
                    have HDx := Lib.hid hD
                    generalize hLn : ((useQ lim' Q sl).take D).length = Ln at hsh
                    clear hk5 hk6 hv5 x0 x1 x2 hnd hul hdl hD hLn
                    subst hsh
                    go_wp2
                    go_meet
                    case rel =>
                      have h1 := hS1.out.len
                      have h2 := Hul.out
                      have h3 := Hdl.out
                      refine ⟨fp6, _, _, _, _, _, _, rfl, ?_, HV5.out, (by rw [List.length_take]; omega), fun h => last_app _ _ h, K5.out, by have := hS1.out.cnt; omega, ?_, Hnd.out⟩
                      · simp only [List.length_append, List.length_take, List.length_drop]; congr 1; omega
                      · simp only [List.length_append, List.length_take, List.length_drop]; omega
              · have b1 : (wh == 1) = false := by simpa using h1
                by_cases h2 : wh = 2
                · subst h2
                  clear h0 h1
                  by_cases harg : 4194304 ≤ sl
                  · have Harg := Lib.hid harg
                    clear harg
                    go_wp2_with (go_at_call 16; refine (segRemove_arg HF1.out.seg sl Harg.out).mono ?_; rintro e w' ⟨rfl, rfl⟩)
                    go_meet
                    case rel => exact ⟨fp', n, P, Q, g, lim', [], rfl, rfl, RU.nil _ _ _, by simp, fun h => absurd rfl h, hS1.out.ks, by have := hS1.out.cnt; omega, by have := hS1.out.len; omega, hS1.out.calm⟩
                  · have Hsl' := Lib.hid (Nat.lt_of_not_le harg)
                    clear harg
                    cases hg : g sl with
                    | none =>
                      have Hg := Lib.hid hg
                      clear hg
                      go_wp2_with (go_at_call 16; refine (segRemove_none HF1.out.seg sl Hsl'.out Hg.out).mono ?_; rintro e w' ⟨rfl, rfl⟩)
                      go_meet
                      case rel => exact ⟨fp', n, P, Q, g, lim', [], rfl, rfl, RU.nil _ _ _, by simp, fun h => absurd rfl h, hS1.out.ks, by have := hS1.out.cnt; omega, by have := hS1.out.len; omega, hS1.out.calm⟩
                    | some c0 =>
                      have Hg := Lib.hid hg
                      have hm := (Hok.out.dom sl).1 (by rw [hg]; rfl)
                      have hln : ((P.erase sl).length : Int) + ((Q.erase sl).length : Int) = (P.length : Int) + (Q.length : Int) - 1 := by
                        rcases hm with hm | hm
                        · have h1 := List.length_erase_of_mem hm
                          have h2 := List.length_pos_of_mem hm
                          rw [List.erase_of_not_mem (Hok.out.dis sl hm)]; omega
                        · have h1 := List.length_erase_of_mem hm
                          have h2 := List.length_pos_of_mem hm
                          rw [List.erase_of_not_mem (fun hp => Hok.out.dis sl hp hm)]; omega
                      have Hln := Lib.hid hln
                      clear hg hm hln
                      go_wp2_with (go_at_call 16; refine (segRemove_ok HF1.out.seg sl c0 Hg.out).mono ?_)
                      rintro e w5 ⟨rfl, hF5, hf5⟩
                      obtain ⟨fp5, hk5⟩ := hS1.out.ks.step ⟨_, hF5, Sub.refl _ _, hf5⟩
                      have K5 := Lib.hid hk5
                      clear hk5 hF5 hf5 x0 x1 x2
                      go_wp2
                      go_meet
                      case rel =>
                        refine ⟨fp5, _, _, _, _, _, [], rfl, ?_, RU.nil _ _ _, by simp, fun h => absurd rfl h, K5.out, by have := hS1.out.cnt; omega, by have := hS1.out.len; have := Hln.out; omega, need_erase Hok.out hS1.out.calm sl⟩
                        rw [Hln.out]
                · have b2 : (wh == 2) = false := by simpa using h2
                  by_cases h3 : wh = 3
                  · subst h3
                    clear h0 h1 h2
                    by_cases harg : nu < -1 ∨ 1099511627776 < nu
                    · have Harg := Lib.hid harg
                      clear harg
                      go_wp2_with (go_at_call 17; refine (segLimit_arg HF1.out.seg nu Harg.out).mono ?_; rintro e w' ⟨rfl, rfl⟩)
                      go_meet
                      case rel => exact ⟨fp', n, P, Q, g, lim', [], rfl, rfl, RU.nil _ _ _, by simp, fun h => absurd rfl h, hS1.out.ks, by have := hS1.out.cnt; omega, by have := hS1.out.len; omega, hS1.out.calm⟩
                    · have Hnu := Lib.hid (show -1 ≤ nu ∧ nu ≤ 1099511627776 by omega)
                      clear harg
                      go_wp2_with (go_at_call 17; refine (segLimit_ok HF1.out.seg nu Hnu.out (by have := hS1.out.len; have := hS1.out.cnt; omega)).mono ?_)
                      rintro e w5 ⟨v5, fp5, rfl, hv5, hk5⟩
                      have HV5 := Lib.hid (RU.own hv5)
                      have hX5 := hk5.2.2.2.heap HX1.out HXf.out
                      obtain ⟨a5, cap5, hsh⟩ : ∃ a5 cap5, v5 = .slice a5 (Q.take (dn nu g Q)).length cap5 := by
                        obtain ⟨a5, c5, h5, -⟩ := HV5.out
                        exact ⟨a5, c5, h5⟩
                      have hdl := dn_le nu g Q
                      have hnd := need_dn nu g Q
                      generalize hD : dn nu g Q = D at hk5 HV5 hsh hdl hnd
                      obtain ⟨fp6, hk6⟩ := hS1.out.ks.step ⟨fp5, hk5.1, hk5.2.1, hk5.2.2.2⟩
                      have K5 := Lib.hid hk6
                      have Hnd := Lib.hid hnd
                      have Hdl := Lib.hid hdl
                      have HDx := Lib.hid hD
                      have y2 := cell_at hX5 (o := 2) rfl
                      generalize hLn : (Q.take D).length = Ln at hsh
                      clear hk5 hk6 hv5 x0 x1 x2 hnd hdl hD hX5 hLn
                      subst hsh
                      go_wp2
                      go_meet
                      case rel =>
                        have h1 := hS1.out.len
                        have h3 := Hdl.out
                        refine ⟨fp6, _, _, _, _, _, _, rfl, ?_, HV5.out, (by rw [List.length_take]; omega), fun h => last_app _ _ h, K5.out, by have := hS1.out.cnt; omega, ?_, Hnd.out⟩
                        · simp only [List.length_append, List.length_take, List.length_drop]; congr 1; omega
                        · simp only [List.length_append, List.length_take, List.length_drop]; omega
                  · have b3 : (wh == 3) = false := by simpa using h3
                    clear h0 h1 h2 h3
                    go_wp2
                    go_meet
                    case rel => exact ⟨fp', n, P, Q, g, lim', [], rfl, rfl, RU.nil _ _ _, by simp, fun h => absurd rfl h, hS1.out.ks, by have := hS1.out.cnt; omega, by have := hS1.out.len; omega, hS1.out.calm⟩
        case rest =>
          clear HF1 HX1 hpq hpq0 Hpq HXf HS
          obtain ⟨fp2, n2, P2, Q2, g2, lim2, gone, rfl, rfl, hgn, hgl100, hlast, hS⟩ := hcut
          have HS := Lib.hid hS
          have Hok := Lib.hid hS.ks.seg.ok
          have Hlast := Lib.hid hlast
          have HG := Lib.hid hgn
          obtain ⟨ag, cg, rfl, -⟩ := hgn
          have hpq : (P2.length : Int) + (Q2.length : Int) ≤ 41 := by have := hS.len; omega
          have hpq0 : 0 ≤ (P2.length : Int) + (Q2.length : Int) := by omega
          clear hS hlast
          go_wp2_with (go_at_call 18; refine (segList0 HS.out.ks.seg).mono ?_)
          rintro e w4 ⟨v4, rfl, hw4, hf4⟩
          have K4 := Lib.hid (HS.out.ks.same hf4)
          have HG4 := Lib.hid (HG.out.frm hf4 (fun _ _ h => h))
          have HW4 := Lib.hid hw4
          clear hf4 hw4 HG
          go_wp2_with (go_at_call 18; refine (segList1 K4.out.seg).mono ?_)
          rintro e w5 ⟨v5, rfl, hw5, hf5⟩
          have K5 := Lib.hid (K4.out.same hf5)
          have HG5 := Lib.hid (HG4.out.frm hf5 (fun _ _ h => h))
          have HA := Lib.hid (RW.own (own_frm HW4.out hf5 (fun _ _ h => h)))
          have HB := Lib.hid (RW.own hw5)
          clear hf5 hw5 HG4 HW4 K4
          obtain ⟨aA, cA, hvA, -⟩ := HA.out
          obtain ⟨aB, cB, hvB, -⟩ := HB.out
          rw [wl_length] at hvA hvB
          subst hvA
          subst hvB
          have HL0 := Lib.hid (segLen0 K5.out.seg)
          have HL1 := Lib.hid (segLen1 K5.out.seg)
          have HC1 := Lib.hid (segCost1 K5.out.seg)
          have hcalm := HS.out.calm
          have hlim := Hok.out.lim1
          unfold need at hcalm
          simp only [Bool.and_eq_false_iff, decide_eq_false_iff_not, Bool.or_eq_false_iff] at hcalm
          have hsz : Q2 = [] → sumC g2 Q2 = 0 := fun h => by subst h; rfl
          have hql : Q2.length = 0 → Q2 = [] := List.length_eq_zero_iff.1
          have hcc : 0 ≤ lim2 → sumC g2 Q2 ≤ lim2 := fun h => by
            rcases hcalm with hc | hc
            · rw [hsz (hql (by omega))]; exact h
            · omega
          have hcn : lim2 < 0 → Q2.length = 0 := fun h => by
            rcases hcalm with hc | hc
            · omega
            · omega
          generalize hsc : sumC g2 Q2 = c2 at HC1 hcc hsz
          generalize hlp : P2.length = p2 at *
          generalize hlq : Q2.length = q2 at *
          have Hlp := Lib.hid hlp
          have Hlq := Lib.hid hlq
          clear hsz hql hcalm hsc hlp hlq
          obtain ⟨ng, hng⟩ : ∃ ng, ng = gone.length := ⟨_, rfl⟩
          rw [← hng]
          have Hng := Lib.hid hng
          clear hng
          go_upto_region 27 with fail
          go_cut [15, 16, 143] from 43 to 190 (fun a b c wx => a = .slice aA p2 cA ∧ b = .slice aB q2 cB ∧ c = .bool false ∧ wx = w5)
          case first =>
            as_aux_lemma =>
              by_cases hl0 : 0 ≤ lim2
              · have e1 : decide (0 ≤ lim2) = true := decide_eq_true hl0
                have e2 : decide (lim2 < c2) = false := by rw [decide_eq_false_iff_not]; have := hcc hl0; omega
                have e3 : decide (lim2 < 0) = false := by rw [decide_eq_false_iff_not]; omega
                clear hl0 hcc hcn hlim
                go_wp2_with (first | (go_at_call 13; with_reducible refine Calls.mono HL0.out ?_; rintro e w' ⟨rfl, rfl⟩) | (go_at_call 13; with_reducible refine Calls.mono HL1.out ?_; rintro e w' ⟨rfl, rfl⟩) | (go_at_call 19; with_reducible refine Calls.mono HC1.out ?_; rintro e w' ⟨rfl, rfl⟩))
                go_meet
                case rel => exact ⟨rfl, rfl, rfl, rfl⟩
              · have e1 : decide (0 ≤ lim2) = false := decide_eq_false hl0
                have e3 : decide (lim2 < 0) = true := by rw [decide_eq_true_iff]; omega
                have hq0 := hcn (by omega)
                clear hl0 hcc hcn hlim
                subst hq0
                go_wp2_with (first | (go_at_call 13; with_reducible refine Calls.mono HL0.out ?_; rintro e w' ⟨rfl, rfl⟩) | (go_at_call 13; with_reducible refine Calls.mono HL1.out ?_; rintro e w' ⟨rfl, rfl⟩) | (go_at_call 19; with_reducible refine Calls.mono HC1.out ?_; rintro e w' ⟨rfl, rfl⟩))
                go_meet
                case rel => exact ⟨rfl, rfl, rfl, rfl⟩
          case rest =>
            obtain ⟨rfl, rfl, rfl, rfl⟩ := hcut
            clear hcc hcn hlim HL0 HL1 HC1
            go_upto_region 29 with fail
            go_cut [15, 16, 167] from 43 to 190 (fun a b c wx => a = .slice aA p2 cA ∧ b = .slice aB q2 cB ∧ c = .bool false ∧ Frm (fun _ => False) wc wx)
            case first =>
              as_aux_lemma =>
                by_cases hg0 : gone = []
                · have hn0 : ng = 0 := by rw [Hng.out, hg0]; rfl
                  subst hn0
                  go_wp2
                  refine wp_region_plan 24 (fun _ => True) [] (.block 0 (.block 2 (.block 4 (.block 6 (.block 8 (.block 10 (.block 12 (.block 14 (.block 16 (.block 18 (.block 20 (.block 22 (.block 24 (.block 26 (.block 29 (.block 30 (.block 32 (.block 34 (.block 36 (.block 38 (.block 41 (.block 42 (.block 44 (.block 46 (.skip))))))))))))))))))))))))) rfl rfl (by kernel_rfl) trivial ?_
                  repeat (first | (refine plan_free rfl rfl (fun K hK => ?_); (go_simp; (try go_bits); (try (go_ite <;> go_prune <;> (try go_simp)))); refine hK _ (fun W hW => ?_) ?_ <;> clear hK K; (· ((go_simp; (try go_bits); (try (go_ite <;> go_prune <;> (try go_simp)))); (first | done | rfl | (simp (disch := omega) only [IntWalk.u32_in]; done) | (simp (disch := omega) only [IntWalk.i64_in]; done) | (simp (disch := omega) only [IntWalk.wrap64_in]; done))))) | (refine plan_tight rfl rfl (fun K hK => ?_); (go_simp; (try go_bits); (try (go_ite <;> go_prune <;> (try go_simp)))); refine hK _ ?_; clear hK K))
                  refine plan_done ?_
                  go_wp2
                  go_meet
                  case rel => exact ⟨rfl, rfl, rfl, (Frm.refl _ _).drew⟩
                · have hlt := Hlast.out hg0
                  obtain ⟨r, hr⟩ : ∃ r, ng = r + 1 := ⟨ng - 1, by have h := Hng.out; have := List.length_pos_iff.2 hg0; omega⟩
                  have hz := List.getLast?_eq_some_getLast hg0
                  rw [hz] at hlt
                  have hP0 : P2 ≠ [] := fun h => by rw [h] at hlt; cases hlt
                  obtain ⟨m, hm⟩ : ∃ m, p2 = m + 1 := ⟨p2 - 1, by have h := Hlp.out; have := List.length_pos_iff.2 hP0; omega⟩
                  obtain ⟨_, _, q1, h1⟩ := HA.out
                  injection q1 with q1 q1n q1c
                  subst q1; subst q1c
                  clear q1n
                  have hPl := Hlp.out
                  have hgl := Hng.out
                  obtain ⟨bA, oA, eA, gA, -⟩ := h1 m (by rw [wl_length]; omega)
                  obtain ⟨_, _, q2', h2⟩ := HG5.out
                  injection q2' with q2' q2n q2c
                  subst q2'; subst q2c
                  clear q2n
                  obtain ⟨bG, oG, eG, gG⟩ := h2 r (by omega)
                  subst eA; subst eG
                  have hPm : (wl g2 P2)[m]'(by rw [wl_length]; omega) = (P2[m]'(by omega), (g2 (P2[m]'(by omega))).getD 0) := by simp [wl]
                  rw [hPm] at gA
                  have hPe : P2[m]'(by omega) = gone[r]'(by omega) := by
                    rw [List.getLast?_eq_getElem?, hPl, hm] at hlt
                    simp only [Nat.add_sub_cancel] at hlt
                    rw [List.getElem?_eq_getElem (by omega)] at hlt
                    injection hlt with hlt
                    rw [hlt, List.getLast_eq_getElem]
                    congr 1
                    omega
                  simp only [] at gA
                  rw [hPe] at gA
                  generalize gone[r]'(by omega) = z at gA gG
                  have hm40 : m ≤ 50 := by omega
                  have hr40 : r ≤ 100 := by omega
                  have Hm := Lib.hid hm
                  subst hr
                  subst hm
                  clear h1 h2 hPl hgl hPm hPe hlt hz hP0
                  go_wp2
                  refine wp_region_plan 24 (fun _ => True) [] (.block 0 (.block 2 (.block 4 (.block 6 (.block 8 (.block 10 (.block 12 (.block 14 (.block 16 (.block 18 (.block 20 (.block 22 (.block 24 (.block 26 (.block 29 (.block 30 (.block 32 (.block 34 (.block 36 (.block 38 (.block 41 (.block 42 (.block 44 (.block 46 (.skip))))))))))))))))))))))))) rfl rfl (by kernel_rfl) trivial ?_
                  repeat (first | (refine plan_free rfl rfl (fun K hK => ?_); (go_simp; (try go_bits); (try (go_ite <;> go_prune <;> (try go_simp)))); refine hK _ (fun W hW => ?_) ?_ <;> clear hK K; (· ((go_simp; (try go_bits); (try (go_ite <;> go_prune <;> (try go_simp)))); (first | done | rfl | (simp (disch := omega) only [IntWalk.u32_in]; done) | (simp (disch := omega) only [IntWalk.i64_in]; done) | (simp (disch := omega) only [IntWalk.wrap64_in]; done))))) | (refine plan_tight rfl rfl (fun K hK => ?_); (go_simp; (try go_bits); (try (go_ite <;> go_prune <;> (try go_simp)))); refine hK _ ?_; clear hK K))
                  refine plan_done ?_
                  go_wp2
                  go_meet
                  case rel => exact ⟨rfl, rfl, rfl, (Frm.refl _ _).drew⟩
            case rest =>
              obtain ⟨rfl, rfl, rfl, hfx⟩ := hcut
              have HA2 := Lib.hid (HA.out.frm hfx (fun _ _ h => h))
              have HB2 := Lib.hid (HB.out.frm hfx (fun _ _ h => h))
              have K6 := Lib.hid (K5.out.same hfx)
              have hp41 : p2 ≤ 41 := by omega
              have hq41 : q2 ≤ 41 := by omega
              clear hfx HA HB K5 HG5 hgl100 Hlast hpq hpq0
              go_wp2
              go_loopw [17] (fun i wr2 => ∃ a : Nat, a ≤ p2 ∧ i = .int .i64 (a : Nat) ∧ Frm (fun _ => False) wc wr2) (fun i _ => p2 - (intOf i).toNat)
              case atStart => exact ⟨0, Nat.zero_le _, rfl, Frm.refl _ _⟩
              case round =>
                rename_i wr2
                obtain ⟨a, ha, rfl, hf2⟩ := hrel
                have Hf2 := Lib.hid hf2
                clear hf2
                rcases Nat.lt_or_ge a p2 with hap | hap
                · go_wp2
                  go_loopw [18] (fun j wr3 => ∃ b : Nat, b ≤ q2 ∧ j = .int .i64 (b : Nat) ∧ Frm (fun _ => False) wc wr3) (fun j _ => q2 - (intOf j).toNat)
                  case atStart => exact ⟨0, Nat.zero_le _, rfl, Hf2.out⟩
                  case round =>
                    obtain ⟨b, hb, rfl, hf3⟩ := hrel
                    rcases Nat.lt_or_ge b q2 with hbq | hbq
                    · have hPl := Hlp.out
                      have hQl := Hlq.out
                      obtain ⟨_, _, q1, h1⟩ := HA2.out.frm hf3 (fun _ _ h => h)
                      injection q1 with q1 q1n q1c
                      subst q1; subst q1c
                      clear q1n
                      obtain ⟨bA, oA, eA, gA, -⟩ := h1 a (by rw [wl_length]; omega)
                      obtain ⟨_, _, q2', h2⟩ := HB2.out.frm hf3 (fun _ _ h => h)
                      injection q2' with q2' q2n q2c
                      subst q2'; subst q2c
                      clear q2n
                      obtain ⟨bB, oB, eB, gB, -⟩ := h2 b (by rw [wl_length]; omega)
                      subst eA; subst eB
                      have hPa : (wl g2 P2)[a]'(by rw [wl_length]; omega) = (P2[a]'(by omega), (g2 (P2[a]'(by omega))).getD 0) := by simp [wl]
                      have hQb : (wl g2 Q2)[b]'(by rw [wl_length]; omega) = (Q2[b]'(by omega), (g2 (Q2[b]'(by omega))).getD 0) := by simp [wl]
                      rw [hPa] at gA
                      rw [hQb] at gB
                      have hx1 : P2[a]'(by omega) ∈ P2 := List.getElem_mem _
                      have hx2 : Q2[b]'(by omega) ∈ Q2 := List.getElem_mem _
                      have hne : P2[a]'(by omega) ≠ Q2[b]'(by omega) := fun h => Hok.out.dis _ hx1 (by rw [h]; exact hx2)
                      clear hx1 hx2
                      simp only [] at gA gB
                      generalize P2[a]'(by omega) = x at gA hne
                      generalize Q2[b]'(by omega) = y at gB hne
                      have hxy : ((x : Int) == (y : Int)) = false := by simp; omega
                      have Hf3 := Lib.hid hf3
                      clear h1 h2 hPl hQl hPa hQb hne hf3
                      go_wp2
                      refine wp_region_plan 11 (fun _ => True) [] (.block 0 (.block 2 (.block 4 (.block 6 (.block 9 (.block 10 (.block 12 (.block 14 (.block 16 (.block 19 (.block 20 (.skip)))))))))))) rfl rfl (by kernel_rfl) trivial ?_
                      repeat (first | (refine plan_free rfl rfl (fun K hK => ?_); (go_simp; (try go_bits); (try (go_ite <;> go_prune <;> (try go_simp)))); refine hK _ (fun W hW => ?_) ?_ <;> clear hK K; (· ((go_simp; (try go_bits); (try (go_ite <;> go_prune <;> (try go_simp)))); (first | done | rfl | (simp (disch := omega) only [IntWalk.u32_in]; done) | (simp (disch := omega) only [IntWalk.i64_in]; done) | (simp (disch := omega) only [IntWalk.wrap64_in]; done))))) | (refine plan_tight rfl rfl (fun K hK => ?_); (go_simp; (try go_bits); (try (go_ite <;> go_prune <;> (try go_simp)))); refine hK _ ?_; clear hK K))
                      refine plan_done ?_
                      go_wp2
                      go_roundw
                      case rel => exact ⟨b + 1, by omega, by go_num, Hf3.out.drew⟩
                      case measure => simp only [intOf]; omega
                    · have Hf3 := Lib.hid hf3
                      clear hf3
                      go_wp2
                      go_roundw
                      case rel => exact ⟨a + 1, by omega, by go_num, Hf3.out⟩
                      case measure => simp only [intOf]; omega
                · go_wp2
                  go_roundw
                  case rel => exact ⟨k + 1, fp2, n2, P2, Q2, g2, lim2, by omega, by go_num, rfl, K6.out.same Hf2.out, HS.out.cnt, HS.out.len, HS.out.calm⟩
                  case measure => simp only [intOf]; omega
      · have hkn : k = N := by omega
        have K := Lib.hid hS.ks
        clear hS
        subst hkn
        go_wp2_with (go_at_call 10; refine known_calls.mono ?_)
        rintro e w6 ⟨rfl, hf6⟩
        go_wp2
        go_ret
        exact ⟨rfl, K.out.frm.trans hf6 (fun _ _ h => h)⟩

set_option maxRecDepth 100000 in
theorem segHolds_out {w : World} {v : Value} {acts : List ActD} (H : RA w v acts) (lim : Int) (hl : ¬ (-1 ≤ lim ∧ lim ≤ 1099511627776)) : Calls Try.prog 4 #[.int .i64 lim, v] w (TrueSame w) := by
  have HR : ∀ W, Calls Try.prog 9 #[.int .i64 lim] W (RNewPost W lim false) := fun W => by have := refNew_calls (w := W) lim; rwa [decide_eq_false hl] at this
  have HR := Lib.hid HR
  obtain ⟨a, ca, rfl, -⟩ := H
  clear hl
  go_enter Try.func4, Try.ntmps4
  go_wp2_with (go_at_call 9; refine (HR.out _).mono ?_)
  rintro e w1 ⟨o, rfl, hO, hf1⟩
  obtain ⟨v0, v1, rfl, H0, H1⟩ := hO
  obtain ⟨a0, c0, rfl, -⟩ := H0
  obtain ⟨a1, c1, rfl, -⟩ := H1
  have Hf1 := Lib.hid hf1
  clear hf1
  go_wp2_with (go_at_call 10; refine known_calls.mono ?_)
  rintro e w3 ⟨rfl, hf3⟩
  go_wp2
  go_ret
  exact ⟨rfl, (Hf1.out.alloc _).trans hf3 (fun _ _ h => h)⟩
end Go.Proofs.Ytogidmjilbpacaa
