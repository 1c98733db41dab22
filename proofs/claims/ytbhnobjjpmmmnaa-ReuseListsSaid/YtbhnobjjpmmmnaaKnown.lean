/- Layer 37: the law's helpers: Ints, Same, given, least, known. -/
import Derived.Test.YtbhnobjjpmmmnaaStack
import Derived.Test.YtbhnobjjpmmmnaaLeast
namespace Go.Proofs.Ytbhnobjjpmmmnaa
open Go.RowKit Go.Cub

def RdI (w : World) (v : Value) (n : Nat) (c : Nat → Int) : Prop :=
  ∃ a cap, v = .slice a n cap ∧ ∀ i, i < n → ∃ b off, a = some ⟨b, off, none⟩ ∧ w.cell? ⟨b, off + i, none⟩ = some (.int .i64 (c i))
theorem RdI.of_row {w : World} {b n cap : Nat} {c : Nat → Int} (h : Row w b .i64 c n) : RdI w (.slice (some ⟨b, 0, none⟩) n cap) n c :=
  ⟨_, cap, rfl, fun i hi => ⟨b, 0, rfl, by rw [Nat.zero_add]; exact h.cell hi⟩⟩
theorem RdI.frm {w w1 : World} {v : Value} {n : Nat} {c : Nat → Int} {S : Nat → Prop} (h : RdI w v n c) (hf : Frm S w w1) (hS : ∀ b, b < w.heap.size → ¬ S b) : RdI w1 v n c := by
  obtain ⟨a, cap, rfl, h⟩ := h
  refine ⟨a, cap, rfl, fun i hi => ?_⟩
  obtain ⟨b, off, rfl, h1⟩ := h i hi
  refine ⟨b, off, rfl, ?_⟩
  have hlt : b < w.heap.size := by
    cases hb : w.heap[b]? with
    | none => simp [World.cell?, hb] at h1
    | some o => exact lt_of_some hb
  rw [← h1]
  simp only [World.cell?, hf.block b hlt (hS b hlt)]
theorem RdU.of_own {w : World} {base : Nat} {v : Value} {xs : List Nat} (h : SlU w base v xs) (hx : ∀ x ∈ xs, x < 4294967296) : RdU w v xs.length (fun i => nth xs i 0) := by
  rcases SlU.cases h with ⟨hv, hx0⟩ | ⟨b, cap, cur, hv, -, -, -, -, hc⟩
  · subst hx0; exact ⟨none, 0, hv, fun i hi => by cases hi⟩
  · refine ⟨_, cap, hv, fun i hi => ⟨b, 0, rfl, ?_, ?_⟩⟩
    · simp only []
      rw [Nat.zero_add, hc i hi, nth_lt _ hi]
    · simp only []
      rw [nth_lt _ hi]; exact hx _ (List.getElem_mem hi)
theorem RdU.of_row {w : World} {b n cap : Nat} {c : Nat → Nat} (h : RowN w b .u32 c n) (hc : ∀ i, i < n → c i < 4294967296) : RdU w (.slice (some ⟨b, 0, none⟩) n cap) n c :=
  ⟨_, cap, rfl, fun i hi => ⟨b, 0, rfl, by rw [Nat.zero_add]; exact h.cell hi, hc i hi⟩⟩

set_option maxHeartbeats 1000000 in
theorem eqI_calls {w : World} {va vb : Value} {n : Nat} {a b : Nat → Int} (HA : RdI w va n a) (HB : RdI w vb n b) (hn : n ≤ 100000) (he : ∀ i, i < n → a i = b i) :
    Calls Try.prog 11 #[va, vb] w fun e w' => e = .returned (.bool true) ∧ Frm (fun _ => False) w w' := by
  have HA' := Lib.hid HA
  have HB' := Lib.hid HB
  obtain ⟨aa, ca, rfl, -⟩ := HA
  obtain ⟨ab, cb, rfl, -⟩ := HB
  have HE := Lib.hid he
  clear he
  go_enter Try.func11, Try.ntmps11
  go_wp2
  go_loopw [5] (fun i wr => ∃ k : Nat, k ≤ n ∧ i = .int .i64 k ∧ Frm (fun _ => False) w wr) (fun i _ => n - (intOf i).toNat)
  case atStart => exact ⟨0, Nat.zero_le _, rfl, Frm.refl _ _⟩
  case round =>
    obtain ⟨k, hk, rfl, hf⟩ := hrel
    rcases Nat.lt_or_ge k n with hlt | hge
    · obtain ⟨_, c1, q1, h1⟩ := HA'.out.frm hf (fun _ _ h => h)
      obtain ⟨_, c2, q2, h2⟩ := HB'.out.frm hf (fun _ _ h => h)
      injection q1 with q1 q1n q1c
      injection q2 with q2 q2n q2c
      subst q1; subst q2; subst q1c; subst q2c
      clear q1n q2n
      obtain ⟨b1, o1, e1, g1⟩ := h1 k hlt
      obtain ⟨b2, o2, e2, g2⟩ := h2 k hlt
      rw [← HE.out k hlt] at g2
      clear h1 h2
      subst e1
      subst e2
      generalize a k = x at g1 g2
      have Hf := Lib.hid hf
      clear hf
      go_wp2
      refine wp_region_plan 9 (fun _ => True) [] (.block 0 (.block 2 (.block 4 (.block 7 (.block 8 (.block 10 (.block 12 (.block 15 (.block 16 (.skip)))))))))) rfl rfl (by kernel_rfl) trivial ?_
      repeat (first | (refine plan_free rfl rfl (fun K hK => ?_); (go_simp; (try go_bits); (try (go_ite <;> go_prune <;> (try go_simp)))); refine hK _ (fun W hW => ?_) ?_ <;> clear hK K; (· ((go_simp; (try go_bits); (try (go_ite <;> go_prune <;> (try go_simp)))); (first | done | rfl | (simp (disch := omega) only [IntWalk.u32_in]; done) | (simp (disch := omega) only [IntWalk.i64_in]; done) | (simp (disch := omega) only [IntWalk.wrap64_in]; done))))) | (refine plan_tight rfl rfl (fun K hK => ?_); (go_simp; (try go_bits); (try (go_ite <;> go_prune <;> (try go_simp)))); refine hK _ ?_; clear hK K))
      refine plan_done ?_
      go_wp2
      go_roundw
      case rel => exact ⟨k + 1, by omega, by go_num, Hf.out.drew⟩
      case measure => simp only [intOf]; omega
    · have hkn : k = n := by omega
      subst hkn
      go_wp2
      go_ret
      exact ⟨rfl, hf⟩

set_option maxHeartbeats 1000000 in
theorem eqU_calls {w : World} {va vb : Value} {n : Nat} {a b : Nat → Nat} (HA : RdU w va n a) (HB : RdU w vb n b) (hn : n ≤ 100000) (he : ∀ i, i < n → a i = b i) :
    Calls Try.prog 20 #[va, vb] w fun e w' => e = .returned (.bool true) ∧ Frm (fun _ => False) w w' := by
  have HA' := Lib.hid HA
  have HB' := Lib.hid HB
  obtain ⟨aa, ca, rfl, -⟩ := HA
  obtain ⟨ab, cb, rfl, -⟩ := HB
  have HE := Lib.hid he
  clear he
  go_enter Try.func20, Try.ntmps20
  go_wp2
  go_loopw [5] (fun i wr => ∃ k : Nat, k ≤ n ∧ i = .int .i64 k ∧ Frm (fun _ => False) w wr) (fun i _ => n - (intOf i).toNat)
  case atStart => exact ⟨0, Nat.zero_le _, rfl, Frm.refl _ _⟩
  case round =>
    obtain ⟨k, hk, rfl, hf⟩ := hrel
    rcases Nat.lt_or_ge k n with hlt | hge
    · obtain ⟨_, c1, q1, h1⟩ := HA'.out.frm hf (fun _ _ h => h)
      obtain ⟨_, c2, q2, h2⟩ := HB'.out.frm hf (fun _ _ h => h)
      injection q1 with q1 q1n q1c
      injection q2 with q2 q2n q2c
      subst q1; subst q2; subst q1c; subst q2c
      clear q1n q2n
      obtain ⟨b1, o1, e1, g1, u1⟩ := h1 k hlt
      obtain ⟨b2, o2, e2, g2, u2⟩ := h2 k hlt
      rw [← HE.out k hlt] at g2
      clear h1 h2 u1 u2
      subst e1
      subst e2
      generalize a k = x at g1 g2
      have Hf := Lib.hid hf
      clear hf
      go_wp2
      refine wp_region_plan 9 (fun _ => True) [] (.block 0 (.block 2 (.block 4 (.block 7 (.block 8 (.block 10 (.block 12 (.block 15 (.block 16 (.skip)))))))))) rfl rfl (by kernel_rfl) trivial ?_
      repeat (first | (refine plan_free rfl rfl (fun K hK => ?_); (go_simp; (try go_bits); (try (go_ite <;> go_prune <;> (try go_simp)))); refine hK _ (fun W hW => ?_) ?_ <;> clear hK K; (· ((go_simp; (try go_bits); (try (go_ite <;> go_prune <;> (try go_simp)))); (first | done | rfl | (simp (disch := omega) only [IntWalk.u32_in]; done) | (simp (disch := omega) only [IntWalk.i64_in]; done) | (simp (disch := omega) only [IntWalk.wrap64_in]; done))))) | (refine plan_tight rfl rfl (fun K hK => ?_); (go_simp; (try go_bits); (try (go_ite <;> go_prune <;> (try go_simp)))); refine hK _ ?_; clear hK K))
      refine plan_done ?_
      go_wp2
      go_roundw
      case rel => exact ⟨k + 1, by omega, by go_num, Hf.out.drew⟩
      case measure => simp only [intOf]; omega
    · have hkn : k = n := by omega
      subst hkn
      go_wp2
      go_ret
      exact ⟨rfl, hf⟩

/-- the examples of the chapter -/
def gx : Nat → Nat := fun i => nth [1, 2, 3, 1, 1, 3, 2, 4, 1] i 0

theorem given_calls {w : World} : Calls Try.prog 19 #[] w fun e w' => ∃ v, e = .returned v ∧ RdU w' v 9 gx ∧ Frm (fun _ => False) w w' := by
  go_enter Try.func19, Try.ntmps19
  go_wp2
  go_ret
  refine ⟨_, rfl, RdU.of_row (c := gx) ⟨_, _, alloc_new _ _, fun o ho => ?_⟩ (fun i hi => ?_), (Frm.refl _ w).alloc _⟩
  · have : o = 0 ∨ o = 1 ∨ o = 2 ∨ o = 3 ∨ o = 4 ∨ o = 5 ∨ o = 6 ∨ o = 7 ∨ o = 8 := by omega
    rcases this with rfl | rfl | rfl | rfl | rfl | rfl | rfl | rfl | rfl <;> rfl
  · have : i = 0 ∨ i = 1 ∨ i = 2 ∨ i = 3 ∨ i = 4 ∨ i = 5 ∨ i = 6 ∨ i = 7 ∨ i = 8 := by omega
    rcases this with rfl | rfl | rfl | rfl | rfl | rfl | rfl | rfl | rfl <;> decide

theorem gx_cn : cn (dist gx) 9 = 4 := by decide
theorem gx_dist (i : Nat) (h : i < 9) : dist gx i = ([-1, -1, -1, 2, 0, 1, 2, -1, 3] : List Int).getD i 0 := by
  have : i = 0 ∨ i = 1 ∨ i = 2 ∨ i = 3 ∨ i = 4 ∨ i = 5 ∨ i = 6 ∨ i = 7 ∨ i = 8 := by omega
  rcases this with rfl | rfl | rfl | rfl | rfl | rfl | rfl | rfl | rfl <;> decide
theorem gx_bl (i : Nat) (h : i < 5) : bl (dist gx) 9 i = ([0, 1, 2, 4, 5] : List Int).getD i 0 := by
  have : i = 0 ∨ i = 1 ∨ i = 2 ∨ i = 3 ∨ i = 4 := by omega
  rcases this with rfl | rfl | rfl | rfl | rfl <;> decide
theorem gx_stack : stackOf gx 9 = [1, 4, 2, 3] := by decide

/-- what Least answers for the examples -/
def lv (t : Int) : Int × Int := if t < 0 then (0, 2) else if t ≤ 0 then (0, 0) else if t ≤ 1 then (1, 0) else if t ≤ 2 then (2, 0) else if t ≤ 4 then (3, 0) else if t ≤ 5 then (4, 0) else (0, 9)
theorem least_given {w : World} {t : Int} {e : Ending} {w' : World} (h : LeastPost w 9 gx t e w') : e = .returned (.tuple #[.int .i64 (lv t).1, .int .i64 (lv t).2]) ∧ Frm (fun _ => False) w w' := by
  obtain ⟨hf, h⟩ := h
  refine ⟨?_, hf⟩
  have h0 := gx_bl 0 (by decide)
  have h1 := gx_bl 1 (by decide)
  have h2 := gx_bl 2 (by decide)
  have h3 := gx_bl 3 (by decide)
  have h4 := gx_bl 4 (by decide)
  simp at h0 h1 h2 h3 h4
  rw [gx_cn] at h
  rcases h with ⟨ht, rfl⟩ | ⟨ht, ha, rfl⟩ | ⟨ht, i, hi, ha, hb, rfl⟩
  · simp [lv, ht]
  · have := ha 4 (by decide)
    rw [h4] at this
    have e : lv t = (0, 9) := by
      unfold lv
      rw [if_neg (by omega), if_neg (by omega), if_neg (by omega), if_neg (by omega), if_neg (by omega), if_neg (by omega)]
    rw [e]
  · have h5 : i = 0 ∨ i = 1 ∨ i = 2 ∨ i = 3 ∨ i = 4 := by omega
    have e : lv t = ((i : Int), 0) := by
      rcases h5 with rfl | rfl | rfl | rfl | rfl
      · rw [h0] at hb
        unfold lv
        rw [if_neg (by omega), if_pos (by omega)]; rfl
      · have a0 := ha 0 (by decide)
        rw [h0] at a0; rw [h1] at hb
        unfold lv
        rw [if_neg (by omega), if_neg (by omega), if_pos (by omega)]; rfl
      · have a0 := ha 1 (by decide)
        rw [h1] at a0; rw [h2] at hb
        unfold lv
        rw [if_neg (by omega), if_neg (by omega), if_neg (by omega), if_pos (by omega)]; rfl
      · have a0 := ha 2 (by decide)
        rw [h2] at a0; rw [h3] at hb
        unfold lv
        rw [if_neg (by omega), if_neg (by omega), if_neg (by omega), if_neg (by omega), if_pos (by omega)]; rfl
      · have a0 := ha 3 (by decide)
        rw [h3] at a0; rw [h4] at hb
        unfold lv
        rw [if_neg (by omega), if_neg (by omega), if_neg (by omega), if_neg (by omega), if_neg (by omega), if_pos (by omega)]; rfl
    rw [e]

theorem leastOk_calls {w : World} (t a b : Int) (h : lv t = (a, b)) : Calls Try.prog 21 #[.int .i64 t, .int .i64 a, .int .i64 b] w fun e w' => e = .returned (.bool true) ∧ Frm (fun _ => False) w w' := by
  go_enter Try.func21, Try.ntmps21
  go_wp2_with (go_at_call 19; refine given_calls.mono ?_)
  rintro e w1 ⟨v, rfl, hR, hf1⟩
  go_wp2_with (go_at_call 9; refine (least_calls hR (by decide) t).mono ?_)
  intro e w2 hl
  obtain ⟨rfl, hf2⟩ := least_given hl
  rw [h]
  go_wp2
  go_ret
  exact ⟨rfl, hf1.trans hf2 (fun _ _ h => h)⟩

theorem lit_int (w : World) (L : List Int) : Row (w.alloc (.cells (is L).toArray 3 (0, 0))) w.heap.size .i64 (fun i => L.getD i 0) L.length :=
  ⟨_, _, alloc_new _ _, fun o ho => by simp [is, ho, List.getD]⟩
theorem lit_u32 (w : World) (L : List Nat) : RowN (w.alloc (.cells (us L).toArray 24 (0, 0))) w.heap.size .u32 (fun i => nth L i 0) L.length :=
  ⟨_, _, alloc_new _ _, fun o ho => by simp [us, ho, nth, List.getD]⟩

set_option maxHeartbeats 2000000 in
theorem known_calls {w : World} : Calls Try.prog 6 #[] w fun e w' => e = .returned (.bool true) ∧ Frm (fun _ => False) w w' := by
  go_enter Try.func6, Try.ntmps6
  go_wp2_with (go_at_call 19; refine given_calls.mono ?_)
  rintro e w1 ⟨v1, rfl, hR1, hf1⟩
  go_wp2_with (go_at_call 7; refine (dist_calls hR1 (by decide)).mono ?_)
  rintro e w2 ⟨b2, rfl, hR2, -, hf2⟩
  go_wp2_with (go_at_call 19; refine given_calls.mono ?_)
  rintro e w3 ⟨v3, rfl, hR3, hf3⟩
  go_wp2_with (go_at_call 8; refine (hits_calls hR3 (by decide)).mono ?_)
  rintro e w4 ⟨b4, cap4, rfl, hR4, -, -, hf4⟩
  rw [gx_cn] at hR4 ⊢
  go_wp2_with (go_at_call 19; refine given_calls.mono ?_)
  rintro e w5 ⟨v5, rfl, hR5, hf5⟩
  go_wp2_with (go_at_call 10; refine (stack_calls hR5 (by decide)).mono ?_)
  rintro e w6 ⟨v6, rfl, hR6, hf6⟩
  rw [gx_stack] at hR6
  have hR2' := (((hR2.frm hf3 id).frm hf4 id).frm hf5 id).frm hf6 id
  have hR4' := (hR4.frm hf5 id).frm hf6 id
  have hU6 := RdU.of_own hR6 (by decide)
  have hF : Frm (fun _ => False) w w6 := ((((hf1.trans hf2 (fun _ _ h => h)).trans hf3 (fun _ _ h => h)).trans hf4 (fun _ _ h => h)).trans hf5 (fun _ _ h => h)).trans hf6 (fun _ _ h => h)
  clear hR1 hR2 hR3 hR4 hR5 hR6 hf1 hf2 hf3 hf4 hf5 hf6
  go_wp2_with (go_at_call 11; refine (eqI_calls (RdI.of_row (hR2'.alloc _)) (RdI.of_row (lit_int _ [-1, -1, -1, 2, 0, 1, 2, -1, 3])) (by decide) gx_dist).mono ?_)
  rintro e w7 ⟨rfl, hf7⟩
  have hF7 := (hF.alloc _).trans hf7 (fun _ _ h => h)
  have hR47 := (hR4'.alloc _).frm hf7 id
  have hU67 := (hU6.frm ((Frm.refl (fun _ => False) _).alloc _) (fun _ _ h => h)).frm hf7 (fun _ _ h => h)
  go_wp2_with (go_at_call 11; refine (eqI_calls (RdI.of_row (hR47.alloc _)) (RdI.of_row (lit_int _ [0, 1, 2, 4, 5])) (by decide) gx_bl).mono ?_)
  rintro e w8 ⟨rfl, hf8⟩
  have hF8 := (hF7.alloc _).trans hf8 (fun _ _ h => h)
  have hU68 := (hU67.frm ((Frm.refl (fun _ => False) _).alloc _) (fun _ _ h => h)).frm hf8 (fun _ _ h => h)
  go_wp2_with (go_at_call 20; refine (eqU_calls (hU68.frm ((Frm.refl (fun _ => False) _).alloc _) (fun _ _ h => h)) (RdU.of_row (lit_u32 _ [1, 4, 2, 3]) (by decide)) (by decide) (fun _ _ => rfl)).mono ?_)
  rintro e w9 ⟨rfl, hf9⟩
  have hF9 := (hF8.alloc _).trans hf9 (fun _ _ h => h)
  clear hF hF7 hF8 hf7 hf8 hf9 hR2' hR4' hU6 hR47 hU67 hU68
  go_wp2_with (go_at_call 21; refine (leastOk_calls 0 0 0 (by decide)).mono ?_)
  rintro e w10 ⟨rfl, hf⟩
  have hF10 := hF9.trans hf (fun _ _ h => h)
  clear hf hF9
  go_wp2_with (go_at_call 21; refine (leastOk_calls 1 1 0 (by decide)).mono ?_)
  rintro e w11 ⟨rfl, hf⟩
  have hF11 := hF10.trans hf (fun _ _ h => h)
  clear hf hF10
  go_wp2_with (go_at_call 21; refine (leastOk_calls 3 3 0 (by decide)).mono ?_)
  rintro e w12 ⟨rfl, hf⟩
  have hF12 := hF11.trans hf (fun _ _ h => h)
  clear hf hF11
  go_wp2_with (go_at_call 21; refine (leastOk_calls 5 4 0 (by decide)).mono ?_)
  rintro e w13 ⟨rfl, hf⟩
  have hF13 := hF12.trans hf (fun _ _ h => h)
  clear hf hF12
  go_wp2_with (go_at_call 21; refine (leastOk_calls 6 0 9 (by decide)).mono ?_)
  rintro e w14 ⟨rfl, hf⟩
  have hF14 := hF13.trans hf (fun _ _ h => h)
  clear hf hF13
  go_wp2_with (go_at_call 21; refine (leastOk_calls (-1) 0 2 (by decide)).mono ?_)
  rintro e w15 ⟨rfl, hf⟩
  have hF15 := hF14.trans hf (fun _ _ h => h)
  clear hf hF14
  go_wp2
  go_ret
  exact ⟨rfl, hF15⟩
end Go.Proofs.Ytbhnobjjpmmmnaa
