/- slices.Reverse on a slice of the call's own. -/
import Derived.Test.YtbhnobjjpmmmnaaApp
import Derived.Test.YtbhnobjjpmmmnaaLk7
namespace Go.Proofs.Ytbhnobjjpmmmnaa
open Go.RowKit Go.Cub

theorem SlU.set {w : World} {base b n cap : Nat} {xs : List Nat} (h : SlU w base (.slice (some ⟨b, 0, none⟩) n cap) xs) (o y : Nat) : SlU (w.setCell ⟨b, o, none⟩ (.int .u32 (y : Int))) base (.slice (some ⟨b, 0, none⟩) n cap) (xs.set o y) := by
  obtain ⟨h1, h2 | ⟨g, cap', cur, hv, hg, hh, hn, hc, hs, ht⟩⟩ := h
  · cases h2.1
  · injection hv with e1 e2 e3
    injection e1 with e1
    injection e1 with e1
    subst e1; subst e2; subst e3
    refine ⟨by simp [us], .inr ⟨b, cap, cur.setIfInBounds o (.int .u32 (y : Int)), by rw [List.length_set], hg, set_same hh _ _, by rw [List.length_set]; exact hn, hc, by rw [Array.size_setIfInBounds]; exact hs, ?_⟩⟩
    rw [Array.toList_setIfInBounds, List.length_set]
    rw [show us (xs.set o y) = (us xs).set o (.int .u32 (y : Int)) by simp [us, List.map_set], ← ht, List.take_set]

/-- the list when the first i and the last i have changed places -/
def rv (xs : List Nat) (i : Nat) : List Nat := (List.range xs.length).map fun o => if o < i ∨ xs.length - 1 - i < o then nth xs (xs.length - 1 - o) 0 else nth xs o 0
theorem rv_length (xs : List Nat) (i : Nat) : (rv xs i).length = xs.length := by simp [rv]
theorem rv_get (xs : List Nat) (i : Nat) {o : Nat} (h : o < xs.length) : (rv xs i)[o]? = some (if o < i ∨ xs.length - 1 - i < o then nth xs (xs.length - 1 - o) 0 else nth xs o 0) := by
  simp [rv, h]
theorem rv_zero (xs : List Nat) : rv xs 0 = xs := by
  apply List.ext_getElem?
  intro o
  by_cases h : o < xs.length
  · rw [rv_get _ _ h, if_neg (by omega), nth_lt _ h, List.getElem?_eq_getElem h]
  · rw [List.getElem?_eq_none (by rw [rv_length]; omega), List.getElem?_eq_none (by omega)]
theorem rv_last (xs : List Nat) {i : Nat} (hi : xs.length ≤ 2 * i + 1) : rv xs i = xs.reverse := by
  apply List.ext_getElem?
  intro o
  by_cases h : o < xs.length
  · rw [rv_get _ _ h, List.getElem?_reverse h]
    by_cases h2 : o < i ∨ xs.length - 1 - i < o
    · rw [if_pos h2, nth_lt _ (by omega), List.getElem?_eq_getElem (by omega)]
    · rw [if_neg h2, nth_lt _ h, List.getElem?_eq_getElem (by omega)]
      have : o = xs.length - 1 - o := by omega
      congr 2
  · rw [List.getElem?_eq_none (by rw [rv_length]; omega), List.getElem?_eq_none (by simp; omega)]
theorem rv_step (xs : List Nat) {i : Nat} (hi : 2 * i + 1 < xs.length) : ((rv xs i).set i (nth xs (xs.length - 1 - i) 0)).set (xs.length - 1 - i) (nth xs i 0) = rv xs (i + 1) := by
  apply List.ext_getElem?
  intro o
  by_cases h : o < xs.length
  · rw [rv_get _ _ h]
    by_cases e1 : o = xs.length - 1 - i
    · subst e1
      rw [List.getElem?_set_self (by rw [List.length_set, rv_length]; exact h), if_pos (by omega)]
      congr 2; omega
    · rw [List.getElem?_set_ne (fun e => e1 e.symm)]
      by_cases e2 : o = i
      · subst e2
        rw [List.getElem?_set_self (by rw [rv_length]; exact h), if_pos (by omega)]
      · rw [List.getElem?_set_ne (fun e => e2 e.symm), rv_get _ _ h]
        by_cases h2 : o < i ∨ xs.length - 1 - i < o
        · rw [if_pos h2, if_pos (by omega)]
        · rw [if_neg h2, if_neg (by omega)]
  · rw [List.getElem?_eq_none (by simp [rv_length]; omega), List.getElem?_eq_none (by rw [rv_length]; omega)]
theorem rv_i (xs : List Nat) {i : Nat} (hi : 2 * i + 1 < xs.length) : (rv xs i)[i]? = some (nth xs i 0) := by
  rw [rv_get _ _ (by omega), if_neg (by omega)]
theorem rv_j (xs : List Nat) {i : Nat} (hi : 2 * i + 1 < xs.length) : (rv xs i)[xs.length - 1 - i]? = some (nth xs (xs.length - 1 - i) 0) := by
  rw [rv_get _ _ (by omega), if_neg (by omega)]

theorem SlU.at {w : World} {base b n cap : Nat} {xs : List Nat} (h : SlU w base (.slice (some ⟨b, 0, none⟩) n cap) xs) {o y : Nat} (ho : xs[o]? = some y) : w.cell? ⟨b, o, none⟩ = some (.int .u32 (y : Int)) ∧ w.frozen? ⟨b, o, none⟩ = false := by
  obtain ⟨h1, h2 | ⟨g, cap', cur, hv, hg, hh, hn, hc, hs, ht⟩⟩ := h
  · cases h2.1
  · injection hv with e1 e2 e3
    injection e1 with e1
    injection e1 with e1
    subst e1; subst e2; subst e3
    refine ⟨cell_at hh ?_, free_at hh _⟩
    have hj : o < xs.length := by
      rcases Nat.lt_or_ge o xs.length with h' | h'
      · exact h'
      · rw [List.getElem?_eq_none h'] at ho; cases ho
    have h3 : (cur.toList.take (xs.length * 1))[o]? = (us xs)[o]? := by rw [ht]
    rw [Nat.mul_one, List.getElem?_take_of_lt hj] at h3
    rw [← Array.getElem?_toList, h3]
    simp [us, ho]

set_option maxHeartbeats 2000000 in
theorem reverse_calls {w : World} {base : Nat} {v : Value} {xs : List Nat} (H : SlU w base v xs) (hn : xs.length ≤ 4194304) :
    Calls Try.prog 26 #[v] w fun e w' => e = .returned (.tuple #[]) ∧ SlU w' base v xs.reverse ∧ Frm (fun b => v.ownBlock = some b) w w' := by
  rcases SlU.cases H with ⟨hv, hx⟩ | ⟨b, cap, cur, hv, hb, hh, hcap, hsz, hcs⟩
  · subst hv; subst hx
    have HH := Lib.hid H
    clear H
    go_enter Try.func26, Try.ntmps26
    go_wp2
    go_loopw [2, 3] (fun x y wr => x = .int .i64 0 ∧ y = .int .i64 (-1) ∧ wr = w) (fun _ _ _ => 0)
    case atStart => exact ⟨rfl, rfl, rfl⟩
    case round =>
      obtain ⟨rfl, rfl, rfl⟩ := hrel
      go_wp2
      go_end0
      exact ⟨rfl, HH.out, Frm.refl _ _⟩
  · subst hv
    obtain ⟨n, hxn⟩ : ∃ n, n = xs.length := ⟨_, rfl⟩
    have Hxn := Lib.hid hxn
    have HH := Lib.hid (show SlU w base (.slice (some ⟨b, 0, none⟩) n cap) xs by rw [hxn]; exact H)
    rw [← hxn] at hn hcap ⊢
    clear hxn H hh hcs hsz
    go_enter Try.func26, Try.ntmps26
    go_wp2
    go_loopw [2, 3] (fun x y wr => ∃ i : Nat, 2 * i ≤ n + 1 ∧ x = .int .i64 i ∧ y = .int .i64 ((n : Int) - 1 - i) ∧ SlU wr base (.slice (some ⟨b, 0, none⟩) n cap) (rv xs i) ∧ Frm (fun k => k = b) w wr) (fun x _ _ => n + 1 - (intOf x).toNat)
    case atStart => exact ⟨0, by omega, rfl, by congr 1; omega, by rw [rv_zero]; exact HH.out, Frm.refl _ _⟩
    case round =>
      obtain ⟨i, hi, rfl, rfl, hS, hf⟩ := hrel
      rcases Nat.lt_or_ge (2 * i + 1) n with hlt | hge
      · have hlx : 2 * i + 1 < xs.length := by rw [← Hxn.out]; exact hlt
        obtain ⟨j, hj⟩ : ∃ j : Nat, (n : Int) - 1 - i = (j : Int) := ⟨n - 1 - i, by omega⟩
        have hj2 : xs.length - 1 - i = j := by rw [← Hxn.out]; omega
        have g1 := hS.at (rv_i xs hlx)
        have g2 := hS.at (rv_j xs hlx)
        have hst := rv_step xs hlx
        rw [hj2] at g2 hst
        have hij : i < j ∧ j < n := by omega
        obtain ⟨g1, r1⟩ := g1
        obtain ⟨g2, r2⟩ := g2
        generalize nth xs i 0 = y1 at g1 hst
        generalize nth xs j 0 = y2 at g2 hst
        have Hst := Lib.hid hst
        have Hj := Lib.hid hj
        rw [hj]
        clear hst hj2 hj hlx
        have hne : ¬ i = j := by omega
        go_wp2
        refine wp_region_plan 16 (fun _ => True) [13, 15] (.block 0 (.block 2 (.block 4 (.block 6 (.block 8 (.block 10 (.block 12 (.block 15 (.block 16 (.block 18 (.block 20 (.block 23 (.block 24 (.loop (.seq (.block 13 (.block 28 (.loop (.seq (.block 15 (.skip)) (.skip))))) (.skip)))))))))))))))) rfl rfl (by kernel_rfl) trivial ?_
        repeat (first | (refine plan_free rfl rfl (fun K hK => ?_); (go_simp; (try go_bits); (try (go_ite <;> go_prune <;> (try go_simp)))); refine hK _ (fun W hW => ?_) ?_ <;> clear hK K; (· ((go_simp; (try go_bits); (try (go_ite <;> go_prune <;> (try go_simp)))); (first | done | rfl | (simp (disch := omega) only [IntWalk.u32_in]; done) | (simp (disch := omega) only [IntWalk.i64_in]; done) | (simp (disch := omega) only [IntWalk.wrap64_in]; done))))) | (refine plan_tight rfl rfl (fun K hK => ?_); (go_simp; (try go_bits); (try (go_ite <;> go_prune <;> (try go_simp)))); refine hK _ ?_; clear hK K))
        refine plan_one rfl ?_
        go_wp2
        repeat (first | (refine plan_free rfl rfl (fun K hK => ?_); (go_simp; (try go_bits); (try (go_ite <;> go_prune <;> (try go_simp)))); refine hK _ (fun W hW => ?_) ?_ <;> clear hK K; (· ((go_simp; (try go_bits); (try (go_ite <;> go_prune <;> (try go_simp)))); (first | done | rfl | (simp (disch := omega) only [IntWalk.u32_in]; done) | (simp (disch := omega) only [IntWalk.i64_in]; done) | (simp (disch := omega) only [IntWalk.wrap64_in]; done))))) | (refine plan_tight rfl rfl (fun K hK => ?_); (go_simp; (try go_bits); (try (go_ite <;> go_prune <;> (try go_simp)))); refine hK _ ?_; clear hK K))
        refine plan_one rfl ?_
        go_wp2
        refine plan_done ?_
        generalize hw3 : World.drew _ = w3
        have H3 : SlU w3 base (.slice (some ⟨b, 0, none⟩) n cap) (rv xs (i + 1)) := by
          rw [← hw3, ← Hst.out]
          exact (hS.set i y2).set j y1
        have F3 : Frm (fun k => k = b) w w3 := by
          rw [← hw3]; exact ((hf.setCell (fun _ => rfl) _).setCell (fun _ => rfl) _).drew
        have H3 := Lib.hid H3
        have F3 := Lib.hid F3
        clear hw3 hS hf g1 g2 r1 r2
        go_wp2
        go_roundw
        case rel => exact ⟨i + 1, by omega, by go_num, by have := Hj.out; congr 1; omega, H3.out, F3.out⟩
        case measure => simp only [intOf]; omega
      · go_wp2
        go_end0
        refine ⟨rfl, ?_, hf.mono (fun k _ h => by subst h; rfl)⟩
        rw [← rv_last xs (i := i) (by rw [← Hxn.out]; omega)]
        exact hS
end Go.Proofs.Ytbhnobjjpmmmnaa
