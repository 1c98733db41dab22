/- Slices that are read: of numbers, of slots. The references' 'Same'. -/
import Derived.Test.YtogidmjilbpacaaLk7
import Derived.Test.YtogidmjilbpacaaPlan
namespace Go.Proofs.Ytogidmjilbpacaa
open Go.RowKit Go.Cub

/-- The slice v reads as the numbers xs. -/
def RU (w : World) (v : Value) (xs : List Nat) : Prop :=
  ∃ a cap, v = .slice a xs.length cap ∧ ∀ i (h : i < xs.length), ∃ b off, a = some ⟨b, off, none⟩ ∧ w.cell? ⟨b, off + i, none⟩ = some (.int .u32 (xs[i] : Int))
def RI (w : World) (v : Value) (xs : List Int) : Prop :=
  ∃ a cap, v = .slice a xs.length cap ∧ ∀ i (h : i < xs.length), ∃ b off, a = some ⟨b, off, none⟩ ∧ w.cell? ⟨b, off + i, none⟩ = some (.int .i64 xs[i])

theorem cell_frm {w w1 : World} {S : Nat → Prop} (hf : Frm S w w1) (hS : ∀ b, b < w.heap.size → ¬ S b) {a : Addr} {v : Value} (h : w.cell? a = some v) : w1.cell? a = some v := by
  have hlt : a.block < w.heap.size := by
    cases hb : w.heap[a.block]? with
    | none => simp [World.cell?, hb] at h
    | some o => exact lt_of_some hb
  rw [← h]
  simp only [World.cell?, hf.block a.block hlt (hS a.block hlt)]
theorem RU.frm {w w1 : World} {v : Value} {xs : List Nat} {S : Nat → Prop} (h : RU w v xs) (hf : Frm S w w1) (hS : ∀ b, b < w.heap.size → ¬ S b) : RU w1 v xs := by
  obtain ⟨a, cap, rfl, h⟩ := h
  refine ⟨a, cap, rfl, fun i hi => ?_⟩
  obtain ⟨b, off, rfl, h1⟩ := h i hi
  exact ⟨b, off, rfl, cell_frm hf hS h1⟩
theorem RI.frm {w w1 : World} {v : Value} {xs : List Int} {S : Nat → Prop} (h : RI w v xs) (hf : Frm S w w1) (hS : ∀ b, b < w.heap.size → ¬ S b) : RI w1 v xs := by
  obtain ⟨a, cap, rfl, h⟩ := h
  refine ⟨a, cap, rfl, fun i hi => ?_⟩
  obtain ⟨b, off, rfl, h1⟩ := h i hi
  exact ⟨b, off, rfl, cell_frm hf hS h1⟩
theorem RU.own {w : World} {base : Nat} {v : Value} {xs : List Nat} (h : SlU w base v xs) : RU w v xs := by
  rcases SlU.cases h with ⟨hv, hx0⟩ | ⟨b, cap, cur, hv, -, -, -, -, hc⟩
  · subst hx0; exact ⟨none, 0, hv, fun i hi => by cases hi⟩
  · exact ⟨_, cap, hv, fun i hi => ⟨b, 0, rfl, by rw [Nat.zero_add]; exact hc i hi⟩⟩
/-- .. but for the blocks of S -/
theorem RU.frm' {w w1 : World} {base : Nat} {v : Value} {xs : List Nat} {S : Nat → Prop} (h : SlU w base v xs) (hf : Frm S w w1) (hS : ∀ b, v.ownBlock = some b → ¬ S b) : RU w1 v xs := RU.own (own_frm h hf hS)
theorem RU.nil (w : World) (a : Option Addr) (c : Nat) : RU w (.slice a 0 c) [] := ⟨a, c, rfl, fun i hi => by cases hi⟩
theorem RI.nil (w : World) (a : Option Addr) (c : Nat) : RI w (.slice a 0 c) [] := ⟨a, c, rfl, fun i hi => by cases hi⟩
theorem RU.lit (w : World) (xs : List Nat) (c : Nat) : RU (w.alloc (.cells (us xs).toArray 34 (0, 0))) (.slice (some ⟨w.heap.size, 0, none⟩) xs.length c) xs :=
  ⟨_, c, rfl, fun i hi => ⟨_, 0, rfl, by rw [Nat.zero_add]; exact cell_at (alloc_new _ _) (by simp [us, hi])⟩⟩
theorem RI.lit (w : World) (xs : List Int) (c : Nat) : RI (w.alloc (.cells (is xs).toArray 3 (0, 0))) (.slice (some ⟨w.heap.size, 0, none⟩) xs.length c) xs :=
  ⟨_, c, rfl, fun i hi => ⟨_, 0, rfl, by rw [Nat.zero_add]; exact cell_at (alloc_new _ _) (by simp [is, hi])⟩⟩

set_option maxHeartbeats 1000000 in
theorem same14_calls {w : World} {va vb : Value} {xs : List Nat} (HA : RU w va xs) (HB : RU w vb xs) (hn : xs.length ≤ 1000000) :
    Calls Try.prog 48 #[va, vb] w fun e w' => e = .returned (.bool true) ∧ Frm (fun _ => False) w w' := by
  have HA' := Lib.hid HA
  have HB' := Lib.hid HB
  obtain ⟨aa, ca, rfl, -⟩ := HA
  obtain ⟨ab, cb, rfl, -⟩ := HB
  obtain ⟨n, hl⟩ : ∃ n, n = xs.length := ⟨_, rfl⟩
  have HL := Lib.hid hl
  rw [← hl] at hn ⊢
  clear hl
  go_enter Try.func48, Try.ntmps48
  go_wp2
  go_loopw [5] (fun i wr => ∃ k : Nat, k ≤ n ∧ i = .int .i64 k ∧ Frm (fun _ => False) w wr) (fun i _ => n - (intOf i).toNat)
  case atStart => exact ⟨0, Nat.zero_le _, rfl, Frm.refl _ _⟩
  case round =>
    obtain ⟨k, hk, rfl, hf⟩ := hrel
    rcases Nat.lt_or_ge k n with hlt | hge
    · have hlt' : k < xs.length := by rw [← HL.out]; exact hlt
      obtain ⟨_, c1, q1, h1⟩ := HA'.out.frm hf (fun _ _ h => h)
      obtain ⟨_, c2, q2, h2⟩ := HB'.out.frm hf (fun _ _ h => h)
      injection q1 with q1 q1n q1c
      injection q2 with q2 q2n q2c
      subst q1; subst q2; subst q1c; subst q2c
      clear q1n q2n
      obtain ⟨b1, o1, e1, g1⟩ := h1 k hlt'
      obtain ⟨b2, o2, e2, g2⟩ := h2 k hlt'
      clear h1 h2
      subst e1
      subst e2
      generalize xs[k] = x at g1 g2
      have Hf := Lib.hid hf
      clear hf hlt'
      go_wp2
      refine wp_region_plan 9 (fun _ => True) [] (.block 0 (.block 2 (.block 4 (.block 7 (.block 8 (.block 10 (.block 12 (.block 15 (.block 16 (.skip)))))))))) rfl rfl (by kernel_rfl) trivial ?_
      repeat (first | (refine plan_free rfl rfl (fun K hK => ?_); (go_simp; (try go_bits); (try (go_ite <;> go_prune <;> (try go_simp)))); refine hK _ (fun W hW => ?_) ?_ <;> clear hK K; (· ((go_simp; (try go_bits); (try (go_ite <;> go_prune <;> (try go_simp)))); (first | done | rfl | (simp (disch := omega) only [IntWalk.u32_in]; done) | (simp (disch := omega) only [IntWalk.i64_in]; done) | (simp (disch := omega) only [IntWalk.wrap64_in]; done))))) | (refine plan_tight rfl rfl (fun K hK => ?_); (go_simp; (try go_bits); (try (go_ite <;> go_prune <;> (try go_simp)))); refine hK _ ?_; clear hK K))
      refine plan_done ?_
      go_wp2
      go_roundw
      case rel => exact ⟨k + 1, by omega, by go_num, Hf.out.drew⟩
      case measure => simp only [intOf]; omega
    · have hkn : k = n := by omega
      subst hkn
      go_wp2
      go_ret
      exact ⟨rfl, hf⟩
theorem same15_calls {w : World} {va vb : Value} {xs : List Nat} (HA : RU w va xs) (HB : RU w vb xs) (hn : xs.length ≤ 1000000) :
    Calls Try.prog 23 #[va, vb] w fun e w' => e = .returned (.bool true) ∧ Frm (fun _ => False) w w' := by
  have HA' := Lib.hid HA
  have HB' := Lib.hid HB
  obtain ⟨aa, ca, rfl, -⟩ := HA
  obtain ⟨ab, cb, rfl, -⟩ := HB
  have Hn := Lib.hid hn
  clear hn
  go_enter Try.func23, Try.ntmps23
  go_wp2_with (go_at_call 48; refine (same14_calls HA'.out HB'.out Hn.out).mono ?_)
  rintro e w1 ⟨rfl, hf⟩
  go_wp2
  go_ret
  exact ⟨rfl, hf⟩
end Go.Proofs.Ytogidmjilbpacaa
