/- Law 16's helpers: weighed, lists, uses, limits, stands. -/
import Derived.Test.YtogidmjilbpacaaSegRd
namespace Go.Proofs.Ytogidmjilbpacaa
open Go.RowKit Go.Cub

def fl (xs : List (Nat × Int)) : List Int := xs.flatMap fun x => [(x.1 : Int), x.2]
theorem fl_length (xs : List (Nat × Int)) : (fl xs).length = xs.length * 2 := by
  induction xs with
  | nil => rfl
  | cons x xs ih => rw [show fl (x :: xs) = [(x.1 : Int), x.2] ++ fl xs by simp [fl], List.length_append, ih, List.length_cons]; simp; omega
theorem fl_get : ∀ (xs : List (Nat × Int)) (i : Nat) (h : i < xs.length), (fl xs)[i * 2]? = some (xs[i].1 : Int) ∧ (fl xs)[i * 2 + 1]? = some xs[i].2
  | x :: xs, 0, _ => ⟨rfl, rfl⟩
  | x :: xs, i + 1, h => by
    have := fl_get xs i (by simpa using h)
    rw [show fl (x :: xs) = (x.1 : Int) :: x.2 :: fl xs from rfl, show (i + 1) * 2 = i * 2 + 1 + 1 by omega]
    simpa using this

set_option maxRecDepth 100000 in
set_option maxHeartbeats 4000000 in
theorem weighed_calls {w : World} {v : Value} {xs : List (Nat × Int)} (H : RI w v (fl xs)) (hx : ∀ x ∈ xs, x.1 < 4294967296) (hn : xs.length ≤ 100000) : Calls Try.prog 59 #[v] w (ListPost w xs) := by
  obtain ⟨i0, hi, hz0, hz1, hz2⟩ := info_parts info_weighed
  have HH := Lib.hid H
  obtain ⟨a, ca, rfl, -⟩ := H
  obtain ⟨n, hl⟩ : ∃ n, n = (fl xs).length := ⟨_, rfl⟩
  have hl2 := fl_length xs
  rw [← hl] at hl2
  have HL := Lib.hid hl
  have HX := Lib.hid hx
  rw [← hl]
  clear hl hx
  obtain ⟨m, hm⟩ : ∃ m, m = xs.length := ⟨_, rfl⟩
  rw [← hm] at hl2 hn
  have Hm := Lib.hid hm
  have Hl2 := Lib.hid hl2
  clear hm hl2
  go_enter Try.func59, Try.ntmps59
  go_wp2
  go_loopw [3, 4] (fun u i wr => ∃ k j : Nat, k ≤ m ∧ j = k * 2 ∧ i = .int .i64 j ∧ SlW wr w.heap.size u (xs.take k) ∧ Frm (fun _ => False) w wr) (fun _ i _ => n + 2 - (intOf i).toNat)
  case atStart => exact ⟨0, 0, Nat.zero_le _, rfl, rfl, World.ownsRow_nil _ _ _ _, Frm.refl _ _⟩
  case round =>
    obtain ⟨k, j, hk, hj, rfl, hS, hf⟩ := hrel
    have hl2 := Hl2.out
    have hjb : j ≤ 200000 := by omega
    rcases Nat.lt_or_ge k m with hlt | hge
    · have hlt' : k < xs.length := by rw [← Hm.out]; exact hlt
      obtain ⟨_, c1, q1, h1⟩ := HH.out.frm hf (fun _ _ h => h)
      injection q1 with q1 q1n q1c
      subst q1; subst q1c
      clear q1n
      obtain ⟨b1, o1, e1, g1⟩ := h1 j (by rw [fl_length]; omega)
      obtain ⟨_, _, e2, g2⟩ := h1 (j + 1) (by rw [fl_length]; omega)
      clear h1
      subst e1
      injection e2 with e2
      injection e2 with e2a e2b
      subst e2a; subst e2b
      have f1 := (fl_get xs k hlt').1
      have f2 := (fl_get xs k hlt').2
      rw [← hj] at f1 f2
      rw [List.getElem?_eq_getElem (by rw [fl_length]; omega)] at f1 f2
      injection f1 with f1
      injection f2 with f2
      rw [f1] at g1
      rw [f2] at g2
      have hxk := HX.out _ (List.getElem_mem hlt')
      have htk : xs.take (k + 1) = xs.take k ++ [xs[k]] := List.take_succ_eq_append_getElem hlt'
      generalize xs[k] = x at g1 g2 hxk htk
      obtain ⟨x, c⟩ := x
      simp only [] at g1 g2 hxk
      have hnj : (j : Int) + 1 < n := by omega
      have hS' : wr.ownsRow w.heap.size 50 2 u3 k (ws (xs.take k)) := by
        have := hS
        unfold SlW at this
        rw [List.length_take, Nat.min_eq_left (by omega)] at this
        exact this
      have Hf := Lib.hid hf
      have HS := Lib.hid hS'
      have Htk := Lib.hid htk
      have hxz : (0 : Int) ≤ x ∧ (x : Int) ≤ 4294967295 := by omega
      have hnj' : (j : Int) < n := by omega
      have hjm : j + 2 ≤ n := by omega
      have Hj := Lib.hid hj
      have Hk := Lib.hid hlt
      clear hf f1 f2 hS hS' htk hj hl2 hlt hlt' hk
      go_wp2
      refine wp_region_plan 15 (fun W ↦ W.cell? ⟨b1, o1 + j, none⟩ = some (.int .i64 (x : Int)) ∧ W.cell? ⟨b1, o1 + (j + 1), none⟩ = some (.int .i64 c)) [12, 13] (.block 0 (.block 2 (.block 4 (.block 6 (.block 8 (.block 10 (.block 12 (.block 14 (.block 16 (.block 18 (.block 20 (.block 22 (.loop (.seq (.block 12 (.loop (.seq (.block 13 (.block 28 (.skip))) (.skip)))) (.skip))))))))))))))) rfl rfl (by kernel_rfl) ?_ ?_
      · exact ⟨g1, g2⟩
      repeat (first | (refine plan_free rfl rfl (fun K hK => ?_); (go_simp; (try go_bits); (try (go_ite <;> go_prune <;> (try go_simp)))); refine hK _ (fun W hW => ?_) ?_ <;> clear hK K; (· ((go_simp; (try go_bits); (try (go_ite <;> go_prune <;> (try go_simp)))); (first | done | rfl | (simp (disch := omega) only [IntWalk.u32_in]; done) | (simp (disch := omega) only [IntWalk.i64_in]; done) | (simp (disch := omega) only [IntWalk.wrap64_in]; done))))) | (refine plan_tight rfl rfl (fun K hK => ?_); (go_simp; (try go_bits); (try (go_ite <;> go_prune <;> (try go_simp)))); refine hK _ ?_; clear hK K))
      refine plan_one rfl ?_
      go_wp2
      have hal : Frm (fun _ => False) wr (wr.alloc (.cells #[.int .u32 (x : Int), .int .i64 c] 50 (0, 0))) := (Frm.refl _ wr).alloc _
      refine ⟨⟨cell_frm hal (fun _ _ h => h) g1, cell_frm hal (fun _ _ h => h) g2⟩, ?_⟩
      refine plan_one rfl ?_
      have hown2 : ((wr.alloc (.cells #[.int .u32 (x : Int), .int .i64 c] 50 (0, 0))).drew).ownsRow w.heap.size 50 2 u3 k (ws (xs.take k)) := own_frm HS.out hal.drew (fun _ _ h => h)
      have hnew : ∀ (j : Nat) (u : Value), [Value.int .u32 (x : Int), .int .i64 c][j]? = some u → ((wr.alloc (.cells #[.int .u32 (x : Int), .int .i64 c] 50 (0, 0))).drew).cell? (({ block := wr.heap.size, off := 0, spot := none } : Addr).add j) = some u := two_cell_at
      generalize hW5 : World.drew _ = W5 at hown2 hnew ⊢
      have hf5 : Frm (fun _ => False) w W5 := by rw [← hW5]; exact (Hf.out.alloc _).drew
      have g15 : W5.cell? ⟨b1, o1 + j, none⟩ = some (.int .i64 (x : Int)) := by rw [← hW5]; exact cell_frm hal.drew (fun _ _ h => h) g1
      have g25 : W5.cell? ⟨b1, o1 + (j + 1), none⟩ = some (.int .i64 c) := by rw [← hW5]; exact cell_frm hal.drew (fun _ _ h => h) g2
      have hb1 : b1 < w.heap.size := by
        obtain ⟨_, _, q1, h1⟩ := HH.out
        obtain ⟨b', o', e1, g1⟩ := h1 j (by rw [← HL.out]; omega)
        injection q1 with q1
        rw [← q1] at e1
        injection e1 with e1
        injection e1 with e1
        subst e1
        cases hb : w.heap[b1]? with
        | none => simp [World.cell?, hb] at g1
        | some o => exact lt_of_some hb
      have hk1 : k ≤ 200000 := by have := Hk.out; omega
      have hs5 := hf5.size
      clear hW5 g1 g2 hal
      refine wpList_append2 _ rfl _ _ 26 rfl w.heap.size 50 i0 (.agg #[.int .u32 0, .int .i64 0]) 2 16 Try.underlying26 hi hz0 hz1 hz2 rfl (by decide) _ _ _ rfl hown2 ⟨wr.heap.size, 0, none⟩ 1 1 [.int .u32 x, .int .i64 c] rfl rfl hnew (two_cell_w x c) (by unfold maxLen; omega) (by omega) hs5 ?_
      intro v' W6 hown' hgrow hblk
      have hG : Frm (fun b => u3.ownBlock = some b) W5 W6 := Frm.grown hgrow fun _ _ hb => hb
      have hge5 : ∀ b, u3.ownBlock = some b → w.heap.size ≤ b := fun b hb => own_ge hown2 hb
      have hcell : ∀ o u, W5.cell? ⟨b1, o, none⟩ = some u → W6.cell? ⟨b1, o, none⟩ = some u := fun o u h => by
        rw [← h]
        simp only [World.cell?, hG.block b1 (by omega) (fun h => by have := hge5 _ h; omega)]
      have g16 := hcell _ _ g15
      have g26 := hcell _ _ g25
      have Hf6 := Lib.hid (hf5.trans hG (fun b hb h => by have := hge5 _ h; omega))
      have Hown := Lib.hid hown'
      clear g15 g25 hown2 hnew hown' hgrow hblk hG hge5 hcell
      go_wp2
      repeat (first | (refine plan_free rfl rfl (fun K hK => ?_); (go_simp; (try go_bits); (try (go_ite <;> go_prune <;> (try go_simp)))); refine hK _ (fun W hW => ?_) ?_ <;> clear hK K; (· ((go_simp; (try go_bits); (try (go_ite <;> go_prune <;> (try go_simp)))); (first | done | rfl | (simp (disch := omega) only [IntWalk.u32_in]; done) | (simp (disch := omega) only [IntWalk.i64_in]; done) | (simp (disch := omega) only [IntWalk.wrap64_in]; done))))) | (refine plan_tight rfl rfl (fun K hK => ?_); (go_simp; (try go_bits); (try (go_ite <;> go_prune <;> (try go_simp)))); refine hK _ ?_; clear hK K))
      refine plan_done ?_
      go_wp2
      go_roundw
      case rel =>
        refine ⟨k + 1, j + 2, by have := Hk.out; omega, by have := Hj.out; omega, by go_num, ?_, Hf6.out⟩
        rw [Htk.out]
        refine SlW.snoc ?_
        rw [List.length_take, Nat.min_eq_left (by have := Hk.out; have := Hm.out; omega)]
        exact Hown.out
      case measure => simp only [intOf]; omega
    · have hkn : k = m := by omega
      subst hkn
      have hnj : decide ((j : Int) + 1 < n) = false := by rw [decide_eq_false_iff_not]; omega
      have HS := Lib.hid hS
      clear hS hj hl2
      go_wp2
      go_ret
      exact ⟨_, rfl, by have := HS.out; rw [Hm.out, List.take_length] at this; exact this, hf⟩
end Go.Proofs.Ytogidmjilbpacaa
