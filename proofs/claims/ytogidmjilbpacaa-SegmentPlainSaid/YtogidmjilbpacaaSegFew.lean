/- Law 16's 'few'. -/
import Derived.Test.YtogidmjilbpacaaActs
namespace Go.Proofs.Ytogidmjilbpacaa
open Go.RowKit Go.Cub

def FewPost (w : World) (acts : List ActD) (e : Ending) (w' : World) : Prop := ∃ b, e = .returned (.bool b) ∧ (b = true → acts.length ≤ 40 ∧ ∀ a ∈ acts, a.to.length ≤ 100) ∧ Frm (fun _ => False) w w'

set_option maxRecDepth 100000 in
set_option maxHeartbeats 4000000 in
theorem few_calls {w : World} {v : Value} {acts : List ActD} (H : RA w v acts) : Calls Try.prog 12 #[v] w (FewPost w acts) := by
  have HH := Lib.hid H
  obtain ⟨a, ca, rfl, -⟩ := H
  obtain ⟨n, hl⟩ : ∃ n, n = acts.length := ⟨_, rfl⟩
  have HL := Lib.hid hl
  rw [← hl]
  clear hl
  go_enter Try.func12, Try.ntmps12
  go_wp2
  go_loopw [3] (fun i wr => ∃ k : Nat, k ≤ 41 ∧ k ≤ n ∧ i = .int .i64 k ∧ (∀ a ∈ acts.take k, a.to.length ≤ 100) ∧ Frm (fun _ => False) w wr) (fun i _ => 41 - (intOf i).toNat)
  case atStart => exact ⟨0, by omega, Nat.zero_le _, rfl, fun a ha => (by cases ha), Frm.refl _ _⟩
  case round =>
    obtain ⟨k, hk, hkn, rfl, hto, hf⟩ := hrel
    have Hf := Lib.hid hf
    have Hto := Lib.hid hto
    clear hf hto
    rcases Nat.lt_or_ge k n with hlt | hge
    · have d1 : decide ((k : Int) < n) = true := by rw [decide_eq_true_iff]; omega
      rcases Nat.lt_or_ge k 41 with hk41 | hk41
      · have d2 : decide ((k : Int) < 41) = true := by rw [decide_eq_true_iff]; omega
        have hlt' : k < acts.length := by rw [← HL.out]; exact hlt
        obtain ⟨_, _, q1, h1⟩ := HH.out.frm Hf.out (fun _ _ h => h)
        injection q1 with q1 q1n q1c
        subst q1; subst q1c
        clear q1n
        obtain ⟨b1, o1, tv, e1, -, g1, -, g3, hU, hsl, -, htl⟩ := h1 k hlt'
        subst e1
        clear h1
        have htk : acts.take (k + 1) = acts.take k ++ [acts[k]] := List.take_succ_eq_append_getElem hlt'
        generalize acts[k] = x at g1 hU hsl htl htk
        have HU := Lib.hid hU
        obtain ⟨at', ct, rfl, -⟩ := hU
        obtain ⟨tl, htl'⟩ : ∃ tl, tl = x.to.length := ⟨_, rfl⟩
        obtain ⟨sl, hsl'⟩ : ∃ sl, sl = x.slot := ⟨_, rfl⟩
        rw [← htl'] at g3
        rw [← hsl'] at g1 hsl
        have HTL := Lib.hid htl'
        have Htk := Lib.hid htk
        have Hk := Lib.hid hkn
        clear htk hlt' htl htl' hsl' hkn hsl
        by_cases h100 : 100 < tl
        · have d3 : decide ((100 : Int) < tl) = true := by rw [decide_eq_true_iff]; omega
          go_wp2
          go_ret
          exact ⟨_, rfl, fun h => (by cases h), Hf.out⟩
        · have d3 : decide ((100 : Int) < tl) = false := by rw [decide_eq_false_iff_not]; omega
          by_cases h4 : 5000 ≤ sl ∧ sl < 4194304
          · have d4 : decide ((5000 : Int) ≤ sl) = true := by rw [decide_eq_true_iff]; omega
            have d5 : decide ((sl : Int) < 4194304) = true := by rw [decide_eq_true_iff]; omega
            have h5 := h4.1
            clear h4
            go_wp2
            go_ret
            exact ⟨_, rfl, fun h => (by cases h), Hf.out⟩
          · rcases Nat.lt_or_ge sl 5000 with h5 | h5
            · have d4 : decide ((5000 : Int) ≤ sl) = false := by rw [decide_eq_false_iff_not]; omega
              clear h4
              have HX := Lib.hid (show x.to.length ≤ 100 by rw [← HTL.out]; omega)
              have Htl := Lib.hid h100
              go_wp2
              go_loopw [4] (fun j wr2 => ∃ m : Nat, m ≤ tl ∧ j = .int .i64 m ∧ Frm (fun _ => False) wr wr2) (fun j _ => tl - (intOf j).toNat)
              case atStart => exact ⟨0, Nat.zero_le _, rfl, Frm.refl _ _⟩
              case round =>
                obtain ⟨m, hm, rfl, hf2⟩ := hrel
                (try clear d5)
                have g1' := cell_frm hf2 (fun _ _ h => h) g1
                have g3' := cell_frm hf2 (fun _ _ h => h) g3
                have Hf2 := Lib.hid (Hf.out.trans hf2 (fun _ _ h => h))
                have Hf3 := Lib.hid hf2
                have htl100 := Htl.out
                rcases Nat.lt_or_ge m tl with hmt | hmt
                · obtain ⟨_, _, q2, h2⟩ := HU.out.frm hf2 (fun _ _ h => h)
                  injection q2 with q2 q2n q2c
                  subst q2; subst q2c
                  clear q2n
                  obtain ⟨b2, o2, e2, g4⟩ := h2 m (by rw [← HTL.out]; exact hmt)
                  subst e2
                  clear h2 hf2 g1 g3
                  generalize x.to[m] = y at g4
                  by_cases h6 : 5000 ≤ y ∧ y < 4194304
                  · have d6 : decide ((5000 : Int) ≤ y) = true := by rw [decide_eq_true_iff]; omega
                    have d7 : decide ((y : Int) < 4194304) = true := by rw [decide_eq_true_iff]; omega
                    have h5' := h6.1
                    clear h6
                    go_wp2
                    go_ret
                    exact ⟨_, rfl, fun h => (by cases h), Hf2.out⟩
                  · rcases Nat.lt_or_ge y 5000 with h7 | h7
                    · have d6 : decide ((5000 : Int) ≤ y) = false := by rw [decide_eq_false_iff_not]; omega
                      clear h6
                      go_wp2
                      go_roundw
                      case rel => exact ⟨m + 1, by omega, by go_num, Hf3.out⟩
                      case measure => simp only [intOf]; omega
                    · have d6 : decide ((5000 : Int) ≤ y) = true := by rw [decide_eq_true_iff]; omega
                      have d7 : decide ((y : Int) < 4194304) = false := by rw [decide_eq_false_iff_not]; omega
                      clear h6
                      go_wp2
                      go_roundw
                      case rel => exact ⟨m + 1, by omega, by go_num, Hf3.out⟩
                      case measure => simp only [intOf]; omega
                · clear hf2 g1 g3
                  go_wp2
                  go_roundw
                  case rel => exact ⟨k + 1, by omega, by have := Hk.out; omega, by go_num, (by
                    rw [Htk.out]
                    intro a ha
                    rw [List.mem_append] at ha
                    rcases ha with ha | ha
                    · exact Hto.out a ha
                    · simp at ha; subst ha; exact HX.out), Hf2.out⟩
                  case measure => simp only [intOf]; omega
            · have d4 : decide ((5000 : Int) ≤ sl) = true := by rw [decide_eq_true_iff]; omega
              have d5 : decide ((sl : Int) < 4194304) = false := by rw [decide_eq_false_iff_not]; omega
              clear h4
              have HX := Lib.hid (show x.to.length ≤ 100 by rw [← HTL.out]; omega)
              have Htl := Lib.hid h100
              go_wp2
              go_loopw [4] (fun j wr2 => ∃ m : Nat, m ≤ tl ∧ j = .int .i64 m ∧ Frm (fun _ => False) wr wr2) (fun j _ => tl - (intOf j).toNat)
              case atStart => exact ⟨0, Nat.zero_le _, rfl, Frm.refl _ _⟩
              case round =>
                obtain ⟨m, hm, rfl, hf2⟩ := hrel
                (try clear d5)
                have g1' := cell_frm hf2 (fun _ _ h => h) g1
                have g3' := cell_frm hf2 (fun _ _ h => h) g3
                have Hf2 := Lib.hid (Hf.out.trans hf2 (fun _ _ h => h))
                have Hf3 := Lib.hid hf2
                have htl100 := Htl.out
                rcases Nat.lt_or_ge m tl with hmt | hmt
                · obtain ⟨_, _, q2, h2⟩ := HU.out.frm hf2 (fun _ _ h => h)
                  injection q2 with q2 q2n q2c
                  subst q2; subst q2c
                  clear q2n
                  obtain ⟨b2, o2, e2, g4⟩ := h2 m (by rw [← HTL.out]; exact hmt)
                  subst e2
                  clear h2 hf2 g1 g3
                  generalize x.to[m] = y at g4
                  by_cases h6 : 5000 ≤ y ∧ y < 4194304
                  · have d6 : decide ((5000 : Int) ≤ y) = true := by rw [decide_eq_true_iff]; omega
                    have d7 : decide ((y : Int) < 4194304) = true := by rw [decide_eq_true_iff]; omega
                    have h5' := h6.1
                    clear h6
                    go_wp2
                    go_ret
                    exact ⟨_, rfl, fun h => (by cases h), Hf2.out⟩
                  · rcases Nat.lt_or_ge y 5000 with h7 | h7
                    · have d6 : decide ((5000 : Int) ≤ y) = false := by rw [decide_eq_false_iff_not]; omega
                      clear h6
                      go_wp2
                      go_roundw
                      case rel => exact ⟨m + 1, by omega, by go_num, Hf3.out⟩
                      case measure => simp only [intOf]; omega
                    · have d6 : decide ((5000 : Int) ≤ y) = true := by rw [decide_eq_true_iff]; omega
                      have d7 : decide ((y : Int) < 4194304) = false := by rw [decide_eq_false_iff_not]; omega
                      clear h6
                      go_wp2
                      go_roundw
                      case rel => exact ⟨m + 1, by omega, by go_num, Hf3.out⟩
                      case measure => simp only [intOf]; omega
                · clear hf2 g1 g3
                  go_wp2
                  go_roundw
                  case rel => exact ⟨k + 1, by omega, by have := Hk.out; omega, by go_num, (by
                    rw [Htk.out]
                    intro a ha
                    rw [List.mem_append] at ha
                    rcases ha with ha | ha
                    · exact Hto.out a ha
                    · simp at ha; subst ha; exact HX.out), Hf2.out⟩
                  case measure => simp only [intOf]; omega
      · have d2 : decide ((k : Int) < 41) = false := by rw [decide_eq_false_iff_not]; omega
        have d3 : decide ((n : Int) ≤ 40) = false := by rw [decide_eq_false_iff_not]; omega
        clear hkn
        go_wp2
        go_ret
        exact ⟨_, rfl, fun h => (by cases h), Hf.out⟩
    · have hkn' : k = n := by omega
      have Hkn := Lib.hid hkn'
      have d1 : decide ((k : Int) < n) = false := by rw [decide_eq_false_iff_not]; omega
      clear hkn' hkn
      by_cases h40 : n ≤ 40
      · have d3 : decide ((n : Int) ≤ 40) = true := by rw [decide_eq_true_iff]; omega
        have H40 := Lib.hid h40
        go_wp2
        go_ret
        exact ⟨_, rfl, fun _ => ⟨by rw [← HL.out]; exact H40.out, by have := Hto.out; rw [Hkn.out, HL.out, List.take_length] at this; exact this⟩, Hf.out⟩
      · have d3 : decide ((n : Int) ≤ 40) = false := by rw [decide_eq_false_iff_not]; omega
        go_wp2
        go_ret
        exact ⟨_, rfl, fun h => (by cases h), Hf.out⟩
end Go.Proofs.Ytogidmjilbpacaa
