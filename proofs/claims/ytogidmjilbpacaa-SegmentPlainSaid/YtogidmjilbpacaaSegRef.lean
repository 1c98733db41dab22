/- Layer 16's reference: New, Fair, Cost, Find. -/
import Derived.Test.YtogidmjilbpacaaSegRd
namespace Go.Proofs.Ytogidmjilbpacaa
open Go.RowKit Go.Cub

/-- The value o is the order of the lists A and B. -/
def RO (w : World) (o : Value) (A B : List (Nat × Int)) (lim : Int) : Prop := ∃ v0 v1, o = .agg #[v0, v1, .int .i64 lim] ∧ RW w v0 A ∧ RW w v1 B
theorem RO.frm {w w1 : World} {o : Value} {A B : List (Nat × Int)} {lim : Int} {S : Nat → Prop} (h : RO w o A B lim) (hf : Frm S w w1) (hS : ∀ b, b < w.heap.size → ¬ S b) : RO w1 o A B lim := by
  obtain ⟨v0, v1, rfl, h0, h1⟩ := h
  exact ⟨v0, v1, rfl, h0.frm hf hS, h1.frm hf hS⟩

def sumW : List (Nat × Int) → Int
  | [] => 0
  | x :: xs => x.2 + sumW xs
theorem sumW_append : ∀ xs ys, sumW (xs ++ ys) = sumW xs + sumW ys
  | [], ys => by simp [sumW]
  | x :: xs, ys => by rw [List.cons_append, sumW, sumW, sumW_append xs ys]; omega
theorem sumW_wl (g : Nat → Option Int) : ∀ xs, sumW (wl g xs) = sumC g xs
  | [] => rfl
  | x :: xs => by rw [show wl g (x :: xs) = (x, (g x).getD 0) :: wl g xs from rfl, sumW, sumC, sumW_wl g xs]
def Fairs (xs : List (Nat × Int)) : Prop := ∀ x ∈ xs, 0 ≤ x.2 ∧ x.2 ≤ 1099511627776
theorem sumW_bound : ∀ {xs : List (Nat × Int)}, Fairs xs → 0 ≤ sumW xs ∧ sumW xs ≤ xs.length * 1099511627776
  | [], _ => by simp [sumW]
  | x :: xs, h => by
    have ih := sumW_bound (xs := xs) (fun y hy => h y (List.mem_cons_of_mem _ hy))
    have := h x (by simp)
    rw [sumW, List.length_cons]
    omega

set_option maxRecDepth 100000 in
theorem fair_ok {w : World} (s : Nat) (c : Int) (hs : s < 4194304) (hc : 0 ≤ c ∧ c ≤ 1099511627776) : Calls Try.prog 36 #[.int .u32 s, .int .i64 c] w fun e w' => e = .returned (.bool true) ∧ w = w' := by
  have d1 : decide ((s : Int) < 4194304) = true := by rw [decide_eq_true_iff]; omega
  have d2 : decide (0 ≤ c) = true := by rw [decide_eq_true_iff]; omega
  have d3 : decide (c ≤ 1099511627776) = true := by rw [decide_eq_true_iff]; omega
  clear hs hc
  go_enter Try.func36, Try.ntmps36
  go_wp2
  go_ret
  exact ⟨rfl, rfl⟩
set_option maxRecDepth 100000 in
theorem fair_no {w : World} (s : Nat) (c : Int) (h : 4194304 ≤ s ∨ c < 0 ∨ 1099511627776 < c) : Calls Try.prog 36 #[.int .u32 s, .int .i64 c] w fun e w' => e = .returned (.bool false) ∧ w = w' := by
  by_cases h1 : 4194304 ≤ s
  · have d1 : decide ((s : Int) < 4194304) = false := by rw [decide_eq_false_iff_not]; omega
    clear h h1
    go_enter Try.func36, Try.ntmps36
    go_wp2
    go_ret
    exact ⟨rfl, rfl⟩
  · have d1 : decide ((s : Int) < 4194304) = true := by rw [decide_eq_true_iff]; omega
    by_cases h2 : c < 0
    · have d2 : decide (0 ≤ c) = false := by rw [decide_eq_false_iff_not]; omega
      clear h h1 h2
      go_enter Try.func36, Try.ntmps36
      go_wp2
      go_ret
      exact ⟨rfl, rfl⟩
    · have d2 : decide (0 ≤ c) = true := by rw [decide_eq_true_iff]; omega
      have d3 : decide (c ≤ 1099511627776) = false := by rw [decide_eq_false_iff_not]; omega
      clear h h1 h2
      go_enter Try.func36, Try.ntmps36
      go_wp2
      go_ret
      exact ⟨rfl, rfl⟩

def RNewPost (w : World) (lim : Int) (f : Bool) (e : Ending) (w' : World) : Prop := ∃ o, e = .returned (.tuple #[o, .bool f]) ∧ RO w' o [] [] lim ∧ Frm (fun _ => False) w w'
theorem ro_nil (w : World) (lim : Int) : RO w (.agg #[.slice none 0 0, .slice none 0 0, .int .i64 lim]) [] [] lim := ⟨_, _, rfl, RW.nil _ _ _, RW.nil _ _ _⟩

set_option maxRecDepth 100000 in
theorem refNew_calls {w : World} (lim : Int) : Calls Try.prog 9 #[.int .i64 lim] w (RNewPost w lim (decide (-1 ≤ lim ∧ lim ≤ 1099511627776))) := by
  by_cases h1 : -1 ≤ lim
  · by_cases h2 : lim ≤ 1099511627776
    · rw [decide_eq_true (And.intro h1 h2)]
      have d1 := decide_eq_true h1
      have d2 := decide_eq_true h2
      clear h1 h2
      go_enter Try.func9, Try.ntmps9
      go_wp2
      refine bodyPost_ret (v := .tuple #[.agg #[.slice none 0 0, .slice none 0 0, .int .i64 lim], .bool true]) ?_ rfl ?_
      · simp [results, Try.f9, loadVar, go_sem]
      · exact ⟨_, rfl, ro_nil _ _, (Frm.refl _ w).alloc _⟩
    · rw [decide_eq_false (fun h => h2 h.2)]
      have d1 := decide_eq_true h1
      have d2 := decide_eq_false h2
      clear h1 h2
      go_enter Try.func9, Try.ntmps9
      go_wp2
      refine bodyPost_ret (v := .tuple #[.agg #[.slice none 0 0, .slice none 0 0, .int .i64 lim], .bool false]) ?_ rfl ?_
      · simp [results, Try.f9, loadVar, go_sem]
      · exact ⟨_, rfl, ro_nil _ _, (Frm.refl _ w).alloc _⟩
  · rw [decide_eq_false (fun h => h1 h.1)]
    have d1 := decide_eq_false h1
    clear h1
    go_enter Try.func9, Try.ntmps9
    go_wp2
    refine bodyPost_ret (v := .tuple #[.agg #[.slice none 0 0, .slice none 0 0, .int .i64 lim], .bool false]) ?_ rfl ?_
    · simp [results, Try.f9, loadVar, go_sem]
    · exact ⟨_, rfl, ro_nil _ _, (Frm.refl _ w).alloc _⟩

set_option maxRecDepth 100000 in
set_option maxHeartbeats 1000000 in
theorem refCost0_calls {w : World} {o : Value} {A B : List (Nat × Int)} {lim : Int} (H : RO w o A B lim) (hF : Fairs A) (hn : A.length ≤ 1000) : Calls Try.prog 34 #[o, .int .i64 0] w fun e w' => e = .returned (.int .i64 (sumW A)) ∧ Frm (fun _ => False) w w' := by
  obtain ⟨v0, v1, rfl, H0, H1⟩ := H
  have HA := Lib.hid H0
  obtain ⟨a0, c0, rfl, -⟩ := H0
  obtain ⟨a1, c1, rfl, -⟩ := H1
  obtain ⟨n, hl⟩ : ∃ n, n = A.length := ⟨_, rfl⟩
  have HL := Lib.hid hl
  rw [← hl] at hn ⊢
  have HF := Lib.hid hF
  obtain ⟨X, hX⟩ : ∃ X, X = w.heap.size := ⟨_, rfl⟩
  have HX := Lib.hid hX
  clear hl hF
  go_enter Try.func34, Try.ntmps34
  go_wp2
  rw [← hX]
  clear hX
  go_loopw [5, 6] (fun u i wr => ∃ k : Nat, k ≤ n ∧ i = .int .i64 k ∧ u = .int .i64 (sumW (A.take k)) ∧ wr.heap[X]? = some (.cells #[.slice a0 n c0, .slice a1 B.length c1, .int .i64 lim] 29 (0, 0)) ∧ Frm (fun _ => False) w wr) (fun _ i _ => n - (intOf i).toNat)
  case atStart => exact ⟨0, Nat.zero_le _, rfl, rfl, by rw [HX.out]; exact alloc_new _ _, (Frm.refl _ w).alloc _⟩
  case round =>
    obtain ⟨k, hk, rfl, rfl, hb, hf⟩ := hrel
    have g0 := cell_at hb (o := 0) rfl
    rcases Nat.lt_or_ge k n with hlt | hge
    · have hlt' : k < A.length := by rw [← HL.out]; exact hlt
      obtain ⟨_, _, q1, h1⟩ := HA.out.frm hf (fun _ _ h => h)
      injection q1 with q1 q1n q1c
      subst q1; subst q1c
      clear q1n
      obtain ⟨b1, o1, e1, g1, g1'⟩ := h1 k hlt'
      subst e1
      clear h1
      have htk : A.take (k + 1) = A.take k ++ [A[k]] := List.take_succ_eq_append_getElem hlt'
      have hx := HF.out _ (List.getElem_mem hlt')
      have hsb := sumW_bound (xs := A.take k) (fun x hx => HF.out x (List.mem_of_mem_take hx))
      have hlk : ((A.take k).length : Int) * 1099511627776 ≤ 1000 * 1099511627776 := by rw [List.length_take]; omega
      have hs : sumW (A.take (k + 1)) = sumW (A.take k) + A[k].2 := by rw [htk, sumW_append]; simp [sumW]
      generalize A[k] = x at g1 g1' htk hx hs
      obtain ⟨x, c⟩ := x
      simp only [] at g1 g1' hx hs
      generalize sumW (A.take k) = s0 at hs hsb ⊢
      have hs2 : -1099511627776000 ≤ s0 + c ∧ s0 + c ≤ 2199023255552000 := by omega
      have Hs := Lib.hid hs
      have Hb := Lib.hid hb
      have Hf := Lib.hid hf
      clear hf hs hb hlt' htk hlk g1
      go_wp2
      go_roundw
      case rel => exact ⟨k + 1, by omega, by go_num, by rw [Hs.out], Hb.out, Hf.out⟩
      case measure => simp only [intOf]; omega
    · have hkn : k = n := by omega
      subst hkn
      have ht : A.take k = A := by rw [HL.out, List.take_length]
      rw [ht]
      go_wp2
      go_ret
      exact ⟨rfl, hf⟩
set_option maxRecDepth 100000 in
set_option maxHeartbeats 1000000 in
theorem refCost1_calls {w : World} {o : Value} {A B : List (Nat × Int)} {lim : Int} (H : RO w o A B lim) (hF : Fairs B) (hn : B.length ≤ 1000) : Calls Try.prog 34 #[o, .int .i64 1] w fun e w' => e = .returned (.int .i64 (sumW B)) ∧ Frm (fun _ => False) w w' := by
  obtain ⟨v0, v1, rfl, H0, H1⟩ := H
  have HA := Lib.hid H1
  obtain ⟨a0, c0, rfl, -⟩ := H0
  obtain ⟨a1, c1, rfl, -⟩ := H1
  obtain ⟨n, hl⟩ : ∃ n, n = B.length := ⟨_, rfl⟩
  have HL := Lib.hid hl
  rw [← hl] at hn ⊢
  have HF := Lib.hid hF
  obtain ⟨X, hX⟩ : ∃ X, X = w.heap.size := ⟨_, rfl⟩
  have HX := Lib.hid hX
  clear hl hF
  go_enter Try.func34, Try.ntmps34
  go_wp2
  rw [← hX]
  clear hX
  go_loopw [5, 6] (fun u i wr => ∃ k : Nat, k ≤ n ∧ i = .int .i64 k ∧ u = .int .i64 (sumW (B.take k)) ∧ wr.heap[X]? = some (.cells #[.slice a0 A.length c0, .slice a1 n c1, .int .i64 lim] 29 (0, 0)) ∧ Frm (fun _ => False) w wr) (fun _ i _ => n - (intOf i).toNat)
  case atStart => exact ⟨0, Nat.zero_le _, rfl, rfl, by rw [HX.out]; exact alloc_new _ _, (Frm.refl _ w).alloc _⟩
  case round =>
    obtain ⟨k, hk, rfl, rfl, hb, hf⟩ := hrel
    have g0 := cell_at hb (o := 1) rfl
    rcases Nat.lt_or_ge k n with hlt | hge
    · have hlt' : k < B.length := by rw [← HL.out]; exact hlt
      obtain ⟨_, _, q1, h1⟩ := HA.out.frm hf (fun _ _ h => h)
      injection q1 with q1 q1n q1c
      subst q1; subst q1c
      clear q1n
      obtain ⟨b1, o1, e1, g1, g1'⟩ := h1 k hlt'
      subst e1
      clear h1
      have htk : B.take (k + 1) = B.take k ++ [B[k]] := List.take_succ_eq_append_getElem hlt'
      have hx := HF.out _ (List.getElem_mem hlt')
      have hsb := sumW_bound (xs := B.take k) (fun x hx => HF.out x (List.mem_of_mem_take hx))
      have hlk : ((B.take k).length : Int) * 1099511627776 ≤ 1000 * 1099511627776 := by rw [List.length_take]; omega
      have hs : sumW (B.take (k + 1)) = sumW (B.take k) + B[k].2 := by rw [htk, sumW_append]; simp [sumW]
      generalize B[k] = x at g1 g1' htk hx hs
      obtain ⟨x, c⟩ := x
      simp only [] at g1 g1' hx hs
      generalize sumW (B.take k) = s0 at hs hsb ⊢
      have hs2 : -1099511627776000 ≤ s0 + c ∧ s0 + c ≤ 2199023255552000 := by omega
      have Hs := Lib.hid hs
      have Hb := Lib.hid hb
      have Hf := Lib.hid hf
      clear hf hs hb hlt' htk hlk g1
      go_wp2
      go_roundw
      case rel => exact ⟨k + 1, by omega, by go_num, by rw [Hs.out], Hb.out, Hf.out⟩
      case measure => simp only [intOf]; omega
    · have hkn : k = n := by omega
      subst hkn
      have ht : B.take k = B := by rw [HL.out, List.take_length]
      rw [ht]
      go_wp2
      go_ret
      exact ⟨rfl, hf⟩

/-- what Find answers -/
def Found (A B : List (Nat × Int)) (s : Nat) (a b : Int) : Prop :=
  (∃ (k : Nat) (h : k < A.length), a = 0 ∧ b = k ∧ A[k].1 = s) ∨ (∃ (k : Nat) (h : k < B.length), a = 1 ∧ b = k ∧ B[k].1 = s ∧ ∀ x ∈ A, x.1 ≠ s) ∨ (a = -1 ∧ b = -1 ∧ (∀ x ∈ A, x.1 ≠ s) ∧ ∀ x ∈ B, x.1 ≠ s)

theorem not_take {L : List (Nat × Int)} {s k : Nat} (h : ∀ x ∈ L.take k, x.1 ≠ s) (hk : k < L.length) (hne : L[k].1 ≠ s) : ∀ x ∈ L.take (k + 1), x.1 ≠ s := by
  rw [List.take_succ_eq_append_getElem hk]
  intro x hx
  rw [List.mem_append] at hx
  rcases hx with hx | hx
  · exact h x hx
  · simp at hx; subst hx; exact hne

set_option maxRecDepth 100000 in
set_option maxHeartbeats 1000000 in
theorem refFind_calls {w : World} {o : Value} {A B : List (Nat × Int)} {lim : Int} (H : RO w o A B lim) (s : Nat) (hA : A.length ≤ 1000) (hB : B.length ≤ 1000) :
    Calls Try.prog 35 #[o, .int .u32 s] w fun e w' => ∃ a b, e = .returned (.tuple #[.int .i64 a, .int .i64 b]) ∧ Found A B s a b ∧ Frm (fun _ => False) w w' := by
  obtain ⟨v0, v1, rfl, H0, H1⟩ := H
  have H0' := Lib.hid H0
  have H1' := Lib.hid H1
  obtain ⟨a0, c0, rfl, -⟩ := H0
  obtain ⟨a1, c1, rfl, -⟩ := H1
  obtain ⟨X, hX⟩ : ∃ X, X = w.heap.size := ⟨_, rfl⟩
  have HX := Lib.hid hX
  obtain ⟨nA, hnA⟩ : ∃ n, n = A.length := ⟨_, rfl⟩
  obtain ⟨nB, hnB⟩ : ∃ n, n = B.length := ⟨_, rfl⟩
  rw [← hnA] at hA ⊢
  rw [← hnB] at hB ⊢
  have HnA := Lib.hid hnA
  have HnB := Lib.hid hnB
  clear hnA hnB
  go_enter Try.func35, Try.ntmps35
  go_wp2
  rw [← hX]
  clear hX
  go_loopw [6] (fun i wr => ∃ g : Nat, g ≤ 2 ∧ i = .int .i64 g ∧ (1 ≤ g → ∀ x ∈ A, x.1 ≠ s) ∧ (2 ≤ g → ∀ x ∈ B, x.1 ≠ s) ∧ wr.heap[X]? = some (.cells #[.slice a0 nA c0, .slice a1 nB c1, .int .i64 lim] 29 (0, 0)) ∧ Frm (fun _ => False) w wr) (fun i _ => 2 - (intOf i).toNat)
  case atStart => exact ⟨0, by omega, rfl, fun h => absurd h (by omega), fun h => absurd h (by omega), by rw [HX.out]; exact alloc_new _ _, (Frm.refl _ w).alloc _⟩
  case round =>
    obtain ⟨g, hg, rfl, hN0, hN1, hb, hf⟩ := hrel
    have hg3 : g = 0 ∨ g = 1 ∨ g = 2 := by omega
    have hb' := Lib.hid hb
    have hf' := Lib.hid hf
    have hN0' := Lib.hid hN0
    clear hf hN0
    rcases hg3 with rfl | rfl | rfl
    · clear hN1 hb
      go_wp2
      go_loopw [7] (fun i wr => ∃ k : Nat, k ≤ nA ∧ i = .int .i64 k ∧ (∀ x ∈ A.take k, x.1 ≠ s) ∧ wr.heap[X]? = some (.cells #[.slice a0 nA c0, .slice a1 nB c1, .int .i64 lim] 29 (0, 0)) ∧ Frm (fun _ => False) w wr) (fun i _ => nA - (intOf i).toNat)
      case atStart => exact ⟨0, Nat.zero_le _, rfl, fun x hx => (by cases hx), hb'.out, hf'.out⟩
      case round =>
        clear hb' hf'
        obtain ⟨k, hk, rfl, hno, hb, hf⟩ := hrel
        have g0 := cell_at hb (o := 0) rfl
        rcases Nat.lt_or_ge k nA with hlt | hge
        · have hlt' : k < A.length := by rw [← HnA.out]; exact hlt
          obtain ⟨_, _, q1, h1⟩ := H0'.out.frm hf (fun _ _ h => h)
          injection q1 with q1 q1n q1c
          subst q1; subst q1c
          clear q1n
          obtain ⟨b1, o1, e1, g1, -⟩ := h1 k hlt'
          subst e1
          clear h1
          have hnt := not_take hno hlt'
          have hfd : A[k].1 = s → Found A B s 0 k := fun h => .inl ⟨k, hlt', rfl, rfl, h⟩
          generalize A[k] = x at g1 hnt hfd
          obtain ⟨x, c⟩ := x
          simp only [] at g1 hnt hfd
          have Hb := Lib.hid hb
          have Hf := Lib.hid hf
          have Hk := Lib.hid hk
          clear hb hf hno hlt' hk
          by_cases hxs : x = s
          · subst hxs
            have Hfd := Lib.hid (hfd rfl)
            clear hfd hnt
            go_wp2
            go_ret2
            exact ⟨_, _, rfl, Hfd.out, Hf.out⟩
          · have hd : ((x : Int) == (s : Int)) = false := by simp; omega
            have Hnt := Lib.hid (hnt hxs)
            clear hfd hnt hxs
            go_wp2
            go_roundw
            case rel => exact ⟨k + 1, by omega, by go_num, Hnt.out, Hb.out, Hf.out⟩
            case measure => simp only [intOf]; omega
        · have hkn : k = nA := by omega
          subst hkn
          have Hno := Lib.hid (show ∀ x ∈ A, x.1 ≠ s by rw [HnA.out, List.take_length] at hno; exact hno)
          have Hb := Lib.hid hb
          have Hf := Lib.hid hf
          clear hno hb hf
          go_wp2
          go_roundw
          case rel => exact ⟨1, by omega, rfl, fun _ => Hno.out, fun h => absurd h (by omega), Hb.out, Hf.out⟩
          case measure => simp only [intOf]; omega
    · clear hN1 hb
      have HN := Lib.hid (hN0'.out (by omega))
      clear hN0'
      go_wp2
      go_loopw [7] (fun i wr => ∃ k : Nat, k ≤ nB ∧ i = .int .i64 k ∧ (∀ x ∈ B.take k, x.1 ≠ s) ∧ wr.heap[X]? = some (.cells #[.slice a0 nA c0, .slice a1 nB c1, .int .i64 lim] 29 (0, 0)) ∧ Frm (fun _ => False) w wr) (fun i _ => nB - (intOf i).toNat)
      case atStart => exact ⟨0, Nat.zero_le _, rfl, fun x hx => (by cases hx), hb'.out, hf'.out⟩
      case round =>
        clear hb' hf'
        obtain ⟨k, hk, rfl, hno, hb, hf⟩ := hrel
        have g0 := cell_at hb (o := 1) rfl
        rcases Nat.lt_or_ge k nB with hlt | hge
        · have hlt' : k < B.length := by rw [← HnB.out]; exact hlt
          obtain ⟨_, _, q1, h1⟩ := H1'.out.frm hf (fun _ _ h => h)
          injection q1 with q1 q1n q1c
          subst q1; subst q1c
          clear q1n
          obtain ⟨b1, o1, e1, g1, -⟩ := h1 k hlt'
          subst e1
          clear h1
          have hnt := not_take hno hlt'
          have hfd : B[k].1 = s → Found A B s 1 k := fun h => .inr (.inl ⟨k, hlt', rfl, rfl, h, HN.out⟩)
          generalize B[k] = x at g1 hnt hfd
          obtain ⟨x, c⟩ := x
          simp only [] at g1 hnt hfd
          have Hb := Lib.hid hb
          have Hf := Lib.hid hf
          have Hk := Lib.hid hk
          clear hb hf hno hlt' hk
          by_cases hxs : x = s
          · subst hxs
            have Hfd := Lib.hid (hfd rfl)
            clear hfd hnt
            go_wp2
            go_ret2
            exact ⟨_, _, rfl, Hfd.out, Hf.out⟩
          · have hd : ((x : Int) == (s : Int)) = false := by simp; omega
            have Hnt := Lib.hid (hnt hxs)
            clear hfd hnt hxs
            go_wp2
            go_roundw
            case rel => exact ⟨k + 1, by omega, by go_num, Hnt.out, Hb.out, Hf.out⟩
            case measure => simp only [intOf]; omega
        · have hkn : k = nB := by omega
          subst hkn
          have Hno := Lib.hid (show ∀ x ∈ B, x.1 ≠ s by rw [HnB.out, List.take_length] at hno; exact hno)
          have Hb := Lib.hid hb
          have Hf := Lib.hid hf
          clear hno hb hf
          go_wp2
          go_roundw
          case rel => exact ⟨2, by omega, rfl, fun _ => HN.out, fun _ => Hno.out, Hb.out, Hf.out⟩
          case measure => simp only [intOf]; omega
    · have HN0 := Lib.hid (hN0'.out (by omega))
      have HN1 := Lib.hid (hN1 (by omega))
      clear hN0' hN1 hb
      go_wp2
      go_ret2
      exact ⟨_, _, rfl, .inr (.inr ⟨rfl, rfl, HN0.out, HN1.out⟩), hf'.out⟩
end Go.Proofs.Ytogidmjilbpacaa
