/- Layer 16: a segmented list in memory; check, of. -/
import Derived.Test.YtogidmjilbpacaaLru4
import Derived.Test.YtogidmjilbpacaaMap
namespace Go.Proofs.Ytogidmjilbpacaa
open Go.RowKit Go.Cub

@[go_sem] theorem eql_costs_nil (w : World) (r : Option Nat) : (binOp .eql 66 (.map r) (.map none)).run Try.prog w = .ok (.bool r.isNone) w := run_eql_map_nil w _ _ _ r Try.underlying66

/-- the costs of the slots of a list, together -/
def sumC (g : Nat → Option Int) : List Nat → Int
  | [] => 0
  | x :: xs => (g x).getD 0 + sumC g xs

/-- An order at p: both lists, the costs, the limit. -/
structure SegB (w : World) (p q0 q1 bM n : Nat) (fp0 fp1 P Q : List Nat) (g : Nat → Option Int) (lim : Int) : Prop where
  box : w.heap[p]? = some (.cells #[.pointer (some ⟨q0, 0, none⟩), .pointer (some ⟨q1, 0, none⟩), .int .i64 (sumC g P), .int .i64 (sumC g Q), .map (some bM), .int .i64 lim] 68 (0, 0))
  l0 : LruF w fp0 q0 P
  l1 : LruF w fp1 q1 Q
  map : GMap Try.prog 34 3 .u32 .i64 w bM n g
  dom : ∀ x, (g x).isSome = true ↔ (x ∈ P ∨ x ∈ Q)
  dis : ∀ x, x ∈ P → x ∉ Q
  cost : ∀ x c, g x = some c → 0 ≤ c ∧ c ≤ 1099511627776
  a0 : p ∉ fp0
  a1 : p ∉ fp1
  a2 : p ≠ bM
  a3 : bM ∉ fp0
  a4 : bM ∉ fp1
  a5 : ∀ b, b ∈ fp0 → b ∉ fp1
  len : P.length + Q.length ≤ 1000
  cnt : n ≤ 1000000
  lim1 : -1 ≤ lim ∧ lim ≤ 1099511627776

set_option maxRecDepth 100000 in
theorem segCheck_ok {w : World} {p q0 q1 bM n : Nat} {fp0 fp1 P Q : List Nat} {g : Nat → Option Int} {lim : Int} (H : SegB w p q0 q1 bM n fp0 fp1 P Q g lim) (s : Nat) (c : Int) (hs : s < 4194304) (hc : 0 ≤ c ∧ c ≤ 1099511627776) :
    Calls Try.prog 39 #[.pointer (some ⟨p, 0, none⟩), .int .u32 s, .int .i64 c] w fun e w' => e = .returned (.int .i64 0) ∧ w = w' := by
  have hc4 := cell_at H.box (o := 4) rfl
  have d1 : decide ((4194304 : Int) ≤ (s : Int)) = false := by rw [decide_eq_false_iff_not]; omega
  have d2 : decide (c < 0) = false := by rw [decide_eq_false_iff_not]; omega
  have d3 : decide ((1099511627776 : Int) < c) = false := by rw [decide_eq_false_iff_not]; omega
  clear H hs hc
  go_enter Try.func39, Try.ntmps39
  go_wp2
  go_ret
  exact ⟨rfl, rfl⟩

set_option maxRecDepth 100000 in
theorem segCheck_arg {w : World} {p q0 q1 bM n : Nat} {fp0 fp1 P Q : List Nat} {g : Nat → Option Int} {lim : Int} (H : SegB w p q0 q1 bM n fp0 fp1 P Q g lim) (s : Nat) (c : Int) (h : 4194304 ≤ s ∨ c < 0 ∨ 1099511627776 < c) :
    Calls Try.prog 39 #[.pointer (some ⟨p, 0, none⟩), .int .u32 s, .int .i64 c] w fun e w' => e = .returned (.int .i64 2) ∧ w = w' := by
  have hc4 := cell_at H.box (o := 4) rfl
  clear H
  by_cases h1 : 4194304 ≤ s
  · have d1 : decide ((4194304 : Int) ≤ (s : Int)) = true := by rw [decide_eq_true_iff]; omega
    clear h h1
    go_enter Try.func39, Try.ntmps39
    go_wp2
    go_ret
    exact ⟨rfl, rfl⟩
  · have d1 : decide ((4194304 : Int) ≤ (s : Int)) = false := by rw [decide_eq_false_iff_not]; omega
    by_cases h2 : c < 0
    · have d2 : decide (c < 0) = true := by rw [decide_eq_true_iff]; omega
      clear h h1 h2
      go_enter Try.func39, Try.ntmps39
      go_wp2
      go_ret
      exact ⟨rfl, rfl⟩
    · have d2 : decide (c < 0) = false := by rw [decide_eq_false_iff_not]; omega
      have d3 : decide ((1099511627776 : Int) < c) = true := by rw [decide_eq_true_iff]; omega
      clear h h1 h2
      go_enter Try.func39, Try.ntmps39
      go_wp2
      go_ret
      exact ⟨rfl, rfl⟩

theorem segOf_calls {w : World} {p q0 q1 bM n : Nat} {fp0 fp1 P Q : List Nat} {g : Nat → Option Int} {lim : Int} (H : SegB w p q0 q1 bM n fp0 fp1 P Q g lim) (s : Nat) (hs : s < 4194304) :
    Calls Try.prog 61 #[.pointer (some ⟨p, 0, none⟩), .int .u32 s] w fun e w' => e = .returned (.int .i64 (if s ∈ Q then 1 else 0)) ∧ w = w' := by
  have hc1 := cell_at H.box (o := 1) rfl
  have L1 := Lib.hid H.l1
  clear H
  by_cases hm : s ∈ Q
  · have hd := decide_eq_true hm
    rw [if_pos hm]
    clear hm
    go_enter Try.func61, Try.ntmps61
    go_wp2_with (go_at_call 21; refine (lruHas_calls L1.out s hs).mono ?_; rw [hd]; rintro e w' ⟨rfl, rfl⟩)
    go_ret
    exact ⟨rfl, rfl⟩
  · have hd := decide_eq_false hm
    rw [if_neg hm]
    clear hm
    go_enter Try.func61, Try.ntmps61
    go_wp2_with (go_at_call 21; refine (lruHas_calls L1.out s hs).mono ?_; rw [hd]; rintro e w' ⟨rfl, rfl⟩)
    go_ret
    exact ⟨rfl, rfl⟩
end Go.Proofs.Ytogidmjilbpacaa
