/- Layer 16's reference: Same. -/
import Derived.Test.YtogidmjilbpacaaRd
import Derived.Test.YtogidmjilbpacaaSeg8
namespace Go.Proofs.Ytogidmjilbpacaa
open Go.RowKit Go.Cub

def RW (w : World) (v : Value) (xs : List (Nat × Int)) : Prop :=
  ∃ a cap, v = .slice a xs.length cap ∧ ∀ i (h : i < xs.length), ∃ b off, a = some ⟨b, off, none⟩ ∧ w.cell? ⟨b, off + i * 2, none⟩ = some (.int .u32 (xs[i].1 : Int)) ∧ w.cell? ⟨b, off + i * 2 + 1, none⟩ = some (.int .i64 xs[i].2)
theorem RW.frm {w w1 : World} {v : Value} {xs : List (Nat × Int)} {S : Nat → Prop} (h : RW w v xs) (hf : Frm S w w1) (hS : ∀ b, b < w.heap.size → ¬ S b) : RW w1 v xs := by
  obtain ⟨a, cap, rfl, h⟩ := h
  refine ⟨a, cap, rfl, fun i hi => ?_⟩
  obtain ⟨b, off, rfl, h1, h2⟩ := h i hi
  exact ⟨b, off, rfl, cell_frm hf hS h1, cell_frm hf hS h2⟩
theorem ws_get : ∀ (xs : List (Nat × Int)) (i : Nat) (h : i < xs.length), (ws xs)[i * 2]? = some (.int .u32 (xs[i].1 : Int)) ∧ (ws xs)[i * 2 + 1]? = some (.int .i64 xs[i].2)
  | x :: xs, 0, _ => ⟨rfl, rfl⟩
  | x :: xs, i + 1, h => by
    have := ws_get xs i (by simpa using h)
    rw [show ws (x :: xs) = .int .u32 (x.1 : Int) :: .int .i64 x.2 :: ws xs from rfl, show (i + 1) * 2 = i * 2 + 1 + 1 by omega]
    simpa using this
theorem RW.own {w : World} {base : Nat} {v : Value} {xs : List (Nat × Int)} (h : SlW w base v xs) : RW w v xs := by
  obtain ⟨h1, h2 | ⟨g, cap, cur, hv, hg, hh, hn, hc, hs, ht⟩⟩ := h
  · have : xs = [] := List.length_eq_zero_iff.1 h2.2
    subst this; exact ⟨none, 0, h2.1, fun i hi => by cases hi⟩
  · refine ⟨_, cap, hv, fun i hi => ⟨g, 0, rfl, ?_, ?_⟩⟩
    · rw [Nat.zero_add]
      refine cell_at hh ?_
      have h3 : (cur.toList.take (xs.length * 2))[i * 2]? = (ws xs)[i * 2]? := by rw [ht]
      rw [List.getElem?_take_of_lt (by omega)] at h3
      rw [← Array.getElem?_toList, h3, (ws_get xs i hi).1]
    · rw [Nat.zero_add]
      refine cell_at hh ?_
      have h3 : (cur.toList.take (xs.length * 2))[i * 2 + 1]? = (ws xs)[i * 2 + 1]? := by rw [ht]
      rw [List.getElem?_take_of_lt (by omega)] at h3
      rw [← Array.getElem?_toList, h3, (ws_get xs i hi).2]
theorem RW.nil (w : World) (a : Option Addr) (c : Nat) : RW w (.slice a 0 c) [] := ⟨a, c, rfl, fun i hi => by cases hi⟩

set_option maxHeartbeats 1000000 in
theorem same16_calls {w : World} {va vb : Value} {xs : List (Nat × Int)} (HA : RW w va xs) (HB : RW w vb xs) (hn : xs.length ≤ 1000000) :
    Calls Try.prog 33 #[va, vb] w fun e w' => e = .returned (.bool true) ∧ Frm (fun _ => False) w w' := by
  have HA' := Lib.hid HA
  have HB' := Lib.hid HB
  obtain ⟨aa, ca, rfl, -⟩ := HA
  obtain ⟨ab, cb, rfl, -⟩ := HB
  obtain ⟨n, hl⟩ : ∃ n, n = xs.length := ⟨_, rfl⟩
  have HL := Lib.hid hl
  rw [← hl] at hn ⊢
  clear hl
  go_enter Try.func33, Try.ntmps33
  go_wp2
  go_loopw [5] (fun i wr => ∃ k : Nat, k ≤ n ∧ i = .int .i64 k ∧ Frm (fun _ => False) w wr) (fun i _ => n - (intOf i).toNat)
  case atStart => exact ⟨0, Nat.zero_le _, rfl, Frm.refl _ _⟩
  case round =>
    obtain ⟨k, hk, rfl, hf⟩ := hrel
    rcases Nat.lt_or_ge k n with hlt | hge
    · have hlt' : k < xs.length := by rw [← HL.out]; exact hlt
      obtain ⟨_, c1, q1, h1⟩ := HA'.out.frm hf (fun _ _ h => h)
      obtain ⟨_, c2, q2, h2⟩ := HB'.out.frm hf (fun _ _ h => h)
      injection q1 with q1 q1n q1c
      injection q2 with q2 q2n q2c
      subst q1; subst q2; subst q1c; subst q2c
      clear q1n q2n
      obtain ⟨b1, o1, e1, g1, g1'⟩ := h1 k hlt'
      obtain ⟨b2, o2, e2, g2, g2'⟩ := h2 k hlt'
      clear h1 h2
      subst e1
      subst e2
      generalize xs[k] = x at g1 g2 g1' g2'
      obtain ⟨x, c⟩ := x
      simp only [] at g1 g2 g1' g2'
      have Hf := Lib.hid hf
      clear hf hlt'
      go_wp2
      refine wp_region_plan 9 (fun _ => True) [] (.block 0 (.block 2 (.block 4 (.block 7 (.block 8 (.block 10 (.block 12 (.block 15 (.block 16 (.skip)))))))))) rfl rfl (by kernel_rfl) trivial ?_
      repeat (first | (refine plan_free rfl rfl (fun K hK => ?_); (go_simp; (try go_bits); (try (go_ite <;> go_prune <;> (try go_simp)))); refine hK _ (fun W hW => ?_) ?_ <;> clear hK K; (· ((go_simp; (try go_bits); (try (go_ite <;> go_prune <;> (try go_simp)))); (first | done | rfl | (simp (disch := omega) only [IntWalk.u32_in]; done) | (simp (disch := omega) only [IntWalk.i64_in]; done) | (simp (disch := omega) only [IntWalk.wrap64_in]; done))))) | (refine plan_tight rfl rfl (fun K hK => ?_); (go_simp; (try go_bits); (try (go_ite <;> go_prune <;> (try go_simp)))); refine hK _ ?_; clear hK K))
      refine plan_done ?_
      go_wp2
      go_roundw
      case rel => exact ⟨k + 1, by omega, by go_num, Hf.out.drew⟩
      case measure => simp only [intOf]; omega
    · have hkn : k = n := by omega
      subst hkn
      go_wp2
      go_ret
      exact ⟨rfl, hf⟩
end Go.Proofs.Ytogidmjilbpacaa
