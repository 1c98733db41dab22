/- Layer 14: New. -/
import Derived.Test.YtogidmjilbpacaaLk4
import Derived.Deep.LoopGhost
namespace Go.Proofs.Ytogidmjilbpacaa
open Go.RowKit Go.Cub

/-- It returns a new field with these lists, and no error; nothing that was there has turned. -/
def GivesLk (w : World) (nd hd : Nat) (L : Nat → List Nat) (e : Ending) (w' : World) : Prop :=
  ∃ p bF bL, e = .returned (.tuple #[.pointer (some ⟨p, 0, none⟩), .int .i64 0]) ∧ Lk w' p bF bL nd hd L ∧ w.heap.size ≤ p ∧ w.heap.size ≤ bF ∧ w.heap.size ≤ bL ∧ Frm (fun _ => False) w w'

set_option maxRecDepth 100000 in
theorem made_nodes (m : Nat) (hm : m ≤ 4198400) : ∃ Z : Array Value, (∀ w, (Instr.makeSlice 110 (.int .i64 (m : Int)) (.int .i64 (m : Int))).run Try.prog w = .ok (.slice (some ⟨w.heap.size, 0, none⟩) m m) (w.alloc (.cells Z 116 (0, 0)))) ∧
    ∀ o, o < 3 * m → Z[o]? = some (.int .u32 0) := by
  have hinfo : (Try.prog.info? 116).map (fun i => (i.zero, i.size, i.bytes)) = some (some (.agg #[.int .u32 0, .int .u32 0, .int .u32 0]), 3, 12) := by kernel_rfl
  obtain ⟨i0, hi, hz0, hz1, hz2⟩ := info_parts hinfo
  refine ⟨madeCells #[.int .u32 0, .int .u32 0, .int .u32 0] (m * 3), fun w => ?_, fun o ho => ?_⟩
  · have := run_make (P := Try.prog) w 110 116 i0 _ Try.underlying110 hi hz0 .i64 .i64 m m (by omega) (by omega) (by rw [hz2]; omega) (by omega)
    rw [this, hz1]
    simp [Value.cells]
  · have h3 : o % 3 < 3 := Nat.mod_lt _ (by decide)
    have ho' : o < m * 3 := by omega
    simp only [madeCells, Array.getElem?_map, Array.getElem?_range, ho', if_true, Option.map_some]
    congr 1
    show (#[Value.int .u32 0, Value.int .u32 0, Value.int .u32 0][o % 3]!) = _
    generalize o % 3 = r at h3
    match r, h3 with
    | 0, _ => rfl
    | 1, _ => rfl
    | 2, _ => rfl

theorem made_ints (m : Nat) (hm : m ≤ 16777216) : ∃ Z : Array Value, (∀ w, (Instr.makeSlice 77 (.int .i64 (m : Int)) (.int .i64 (m : Int))).run Try.prog w = .ok (.slice (some ⟨w.heap.size, 0, none⟩) m m) (w.alloc (.cells Z 3 (0, 0)))) ∧
    ∀ o, o < m → Z[o]? = some (.int .i64 0) := by
  obtain ⟨i0, hi, hz0, hz1, hz2⟩ := info_parts info_int
  refine ⟨madeCells #[.int .i64 0] (m * 1), fun w => ?_, fun o ho => ?_⟩
  · have := run_make (P := Try.prog) w 77 3 i0 _ Try.underlying77 hi hz0 .i64 .i64 m m (by omega) (by omega) (by rw [hz2]; omega) (by omega)
    rw [this, hz1]
    simp [Value.cells]
  · rw [Nat.mul_one]
    simp [madeCells, ho, Nat.mod_one]

/-- The world behind the three new blocks, in the two orders. -/
theorem new_world1 (w : World) {nd hd m : Nat} (hm : m = nd + hd) (h2 : nd ≤ 4194304) (h4 : hd ≤ 4096) {Z1 Z2 : Array Value} (hz1 : ∀ o, o < 3 * m → Z1[o]? = some (.int .u32 0)) (hz2 : ∀ o, o < hd → Z2[o]? = some (.int .i64 0)) :
    LkAt (((w.alloc (.cells Z1 116 (0, 0))).alloc (.cells Z2 3 (0, 0))).alloc (.cells #[.slice (some ⟨w.heap.size, 0, none⟩) m m, .int .i64 nd, .slice (some ⟨w.heap.size + 1, 0, none⟩) hd hd] 112 (0, 0))).drew
      (w.heap.size + 1 + 1) w.heap.size (w.heap.size + 1) nd hd (fun _ => 0) (fun _ => 0) ∧
    Frm (fun _ => False) w (((w.alloc (.cells Z1 116 (0, 0))).alloc (.cells Z2 3 (0, 0))).alloc (.cells #[.slice (some ⟨w.heap.size, 0, none⟩) m m, .int .i64 nd, .slice (some ⟨w.heap.size + 1, 0, none⟩) hd hd] 112 (0, 0))).drew := by
  subst hm
  have a1 := alloc_new w (.cells Z1 116 (0, 0))
  have a2 := alloc_new (w.alloc (.cells Z1 116 (0, 0))) (.cells Z2 3 (0, 0))
  have a3 := alloc_new ((w.alloc (.cells Z1 116 (0, 0))).alloc (.cells Z2 3 (0, 0))) (.cells #[.slice (some ⟨w.heap.size, 0, none⟩) (nd + hd) (nd + hd), .int .i64 nd, .slice (some ⟨w.heap.size + 1, 0, none⟩) hd hd] 112 (0, 0))
  have a1 := alloc_old (alloc_old a1 (.cells Z2 3 (0, 0))) (.cells #[.slice (some ⟨w.heap.size, 0, none⟩) (nd + hd) (nd + hd), .int .i64 nd, .slice (some ⟨w.heap.size + 1, 0, none⟩) hd hd] 112 (0, 0))
  have a2 := alloc_old a2 (.cells #[.slice (some ⟨w.heap.size, 0, none⟩) (nd + hd) (nd + hd), .int .i64 nd, .slice (some ⟨w.heap.size + 1, 0, none⟩) hd hd] 112 (0, 0))
  simp only [World.size_alloc] at a2 a3
  exact ⟨⟨⟨_, _, a3⟩, ⟨_, _, a1, hz1⟩, ⟨_, _, a2, hz2⟩, by omega, by omega, by omega, h2, h4⟩, ((((Frm.refl _ w).alloc _).alloc _).alloc _).drew⟩
theorem new_world2 (w : World) {nd hd m : Nat} (hm : m = nd + hd) (h2 : nd ≤ 4194304) (h4 : hd ≤ 4096) {Z1 Z2 : Array Value} (hz1 : ∀ o, o < 3 * m → Z1[o]? = some (.int .u32 0)) (hz2 : ∀ o, o < hd → Z2[o]? = some (.int .i64 0)) :
    LkAt (((w.alloc (.cells Z2 3 (0, 0))).alloc (.cells Z1 116 (0, 0))).alloc (.cells #[.slice (some ⟨w.heap.size + 1, 0, none⟩) m m, .int .i64 nd, .slice (some ⟨w.heap.size, 0, none⟩) hd hd] 112 (0, 0))).drew
      (w.heap.size + 1 + 1) (w.heap.size + 1) w.heap.size nd hd (fun _ => 0) (fun _ => 0) ∧
    Frm (fun _ => False) w (((w.alloc (.cells Z2 3 (0, 0))).alloc (.cells Z1 116 (0, 0))).alloc (.cells #[.slice (some ⟨w.heap.size + 1, 0, none⟩) m m, .int .i64 nd, .slice (some ⟨w.heap.size, 0, none⟩) hd hd] 112 (0, 0))).drew := by
  subst hm
  have a1 := alloc_new w (.cells Z2 3 (0, 0))
  have a2 := alloc_new (w.alloc (.cells Z2 3 (0, 0))) (.cells Z1 116 (0, 0))
  have a3 := alloc_new ((w.alloc (.cells Z2 3 (0, 0))).alloc (.cells Z1 116 (0, 0))) (.cells #[.slice (some ⟨w.heap.size + 1, 0, none⟩) (nd + hd) (nd + hd), .int .i64 nd, .slice (some ⟨w.heap.size, 0, none⟩) hd hd] 112 (0, 0))
  have a1 := alloc_old (alloc_old a1 (.cells Z1 116 (0, 0))) (.cells #[.slice (some ⟨w.heap.size + 1, 0, none⟩) (nd + hd) (nd + hd), .int .i64 nd, .slice (some ⟨w.heap.size, 0, none⟩) hd hd] 112 (0, 0))
  have a2 := alloc_old a2 (.cells #[.slice (some ⟨w.heap.size + 1, 0, none⟩) (nd + hd) (nd + hd), .int .i64 nd, .slice (some ⟨w.heap.size, 0, none⟩) hd hd] 112 (0, 0))
  simp only [World.size_alloc] at a2 a3
  exact ⟨⟨⟨_, _, a3⟩, ⟨_, _, a2, hz1⟩, ⟨_, _, a1, hz2⟩, by omega, by omega, by omega, h2, h4⟩, ((((Frm.refl _ w).alloc _).alloc _).alloc _).drew⟩

set_option maxHeartbeats 1000000 in
theorem new_calls {w : World} (nd hd : Nat) (h1 : 1 ≤ nd) (h2 : nd ≤ 4194304) (h3 : 1 ≤ hd) (h4 : hd ≤ 4096) :
    Calls Try.prog 43 #[.int .i64 nd, .int .i64 hd] w (GivesLk w nd hd (fun _ => [])) := by
  obtain ⟨m, hm⟩ : ∃ m, m = nd + hd := ⟨_, rfl⟩
  obtain ⟨Z1, hZ1, hz1⟩ := made_nodes m (by omega)
  obtain ⟨Z2, hZ2, hz2⟩ := made_ints hd (by omega)
  have hmi : (nd : Int) + (hd : Int) = (m : Int) := by omega
  have Hz1 := Lib.hid hz1
  have Hz2 := Lib.hid hz2
  have d1 : decide ((nd : Int) < 1) = false := by simp; omega
  have d2 : decide ((4194304 : Int) < nd) = false := by simp; omega
  have d3 : decide ((hd : Int) < 1) = false := by simp; omega
  have d4 : decide ((4096 : Int) < hd) = false := by simp; omega
  have Hm := Lib.hid hm
  clear hz1 hz2 hm
  go_enter Try.func43, Try.ntmps43
  go_wp2
  refine wp_region_plan 10 (fun _ => True) [3, 6, 8] (.block 0 (.block 2 (.block 4 (.block 8 (.block 10 (.loop (.seq (.block 3 (.loop (.seq (.block 6 (.block 14 (.loop (.seq (.block 8 (.block 18 (.skip))) (.skip))))) (.skip)))) (.seq (.block 6 (.loop (.seq (.block 3 (.block 14 (.loop (.seq (.block 8 (.block 18 (.skip))) (.skip))))) (.skip)))) (.skip))))))))) rfl rfl (by kernel_rfl) trivial ?_
  repeat (first | (refine plan_free rfl rfl (fun K hK => ?_); (go_simp; (try go_bits); (try (go_ite <;> go_prune <;> (try go_simp)))); refine hK _ (fun W hW => ?_) ?_ <;> clear hK K; (· ((go_simp; (try go_bits); (try (go_ite <;> go_prune <;> (try go_simp)))); (first | done | rfl | (simp (disch := omega) only [IntWalk.u32_in]; done) | (simp (disch := omega) only [IntWalk.i64_in]; done) | (simp (disch := omega) only [IntWalk.wrap64_in]; done))))) | (refine plan_tight rfl rfl (fun K hK => ?_); (go_simp; (try go_bits); (try (go_ite <;> go_prune <;> (try go_simp)))); refine hK _ ?_; clear hK K))
  refine plan_two rfl rfl ?_ ?_
  · go_wp2
    refine plan_one rfl ?_
    go_wp2
    repeat (first | (refine plan_free rfl rfl (fun K hK => ?_); (go_simp; (try go_bits); (try (go_ite <;> go_prune <;> (try go_simp)))); refine hK _ (fun W hW => ?_) ?_ <;> clear hK K; (· ((go_simp; (try go_bits); (try (go_ite <;> go_prune <;> (try go_simp)))); (first | done | rfl | (simp (disch := omega) only [IntWalk.u32_in]; done) | (simp (disch := omega) only [IntWalk.i64_in]; done) | (simp (disch := omega) only [IntWalk.wrap64_in]; done))))) | (refine plan_tight rfl rfl (fun K hK => ?_); (go_simp; (try go_bits); (try (go_ite <;> go_prune <;> (try go_simp)))); refine hK _ ?_; clear hK K))
    refine plan_one rfl ?_
    go_wp2
    repeat (first | (refine plan_free rfl rfl (fun K hK => ?_); (go_simp; (try go_bits); (try (go_ite <;> go_prune <;> (try go_simp)))); refine hK _ (fun W hW => ?_) ?_ <;> clear hK K; (· ((go_simp; (try go_bits); (try (go_ite <;> go_prune <;> (try go_simp)))); (first | done | rfl | (simp (disch := omega) only [IntWalk.u32_in]; done) | (simp (disch := omega) only [IntWalk.i64_in]; done) | (simp (disch := omega) only [IntWalk.wrap64_in]; done))))) | (refine plan_tight rfl rfl (fun K hK => ?_); (go_simp; (try go_bits); (try (go_ite <;> go_prune <;> (try go_simp)))); refine hK _ ?_; clear hK K))
    refine plan_done ?_
    obtain ⟨H1, R1⟩ := new_world1 w Hm.out h2 h4 Hz1.out Hz2.out
    generalize hw1 : World.drew _ = w1 at H1 R1 ⊢
    clear hw1
    obtain ⟨p, hp⟩ : ∃ p, p = w.heap.size + 1 + 1 := ⟨_, rfl⟩
    obtain ⟨bL, hbL⟩ : ∃ p, p = w.heap.size + 1 := ⟨_, rfl⟩
    obtain ⟨bF, hbF⟩ : ∃ p, p = w.heap.size := ⟨_, rfl⟩
    rw [← hp, ← hbL, ← hbF] at H1 ⊢
    have hs : w.heap.size ≤ p ∧ w.heap.size ≤ bF ∧ w.heap.size ≤ bL := by omega
    clear hp hbL hbF
    go_wp2
    go_loopg [33] hd (fun g i wr => ∃ k c, k + g = hd ∧ i = .int .i64 k ∧ LkAt wr p bF bL nd hd c (fun _ => 0) ∧ (∀ j, j < k → c ((nd + j) * 3) = nd + j ∧ c ((nd + j) * 3 + 1) = nd + j ∧ c ((nd + j) * 3 + 2) = j + 1) ∧ (∀ x, x < nd → c (x * 3 + 2) = 0) ∧ Frm (fun _ => False) w wr)
    case atStart => exact ⟨0, fun _ => 0, by omega, rfl, H1, fun j hj => by omega, fun _ _ => rfl, R1⟩
    case round =>
      obtain ⟨k, c, hk, rfl, Hr, hc1, hc2, hfr⟩ := hrel
      obtain ⟨⟨cF, cL, h0⟩, hF, hL, n1, n2, n3, -, -⟩ := id Hr
      have hc0 := cell_at h0 (o := 0) rfl
      rcases Nat.lt_or_ge k hd with hlt | hge
      · obtain ⟨o, ho⟩ : ∃ o, o = nd + k := ⟨_, rfl⟩
        have ho2 : o < nd + hd := by omega
        have g0 := hF.cell (o := o * 3) (by omega)
        have g1 := hF.cell (o := o * 3 + 1) (by omega)
        have g2 := hF.cell (o := o * 3 + 2) (by omega)
        have r0 := hF.free
        have e1 : (o : Int) < m := by have := Hm.out; omega
        have m1 : ¬ bF = p := fun e => n1 e.symm
        rw [Hm.out.symm] at hc0
        have Ho := Lib.hid ho
        have Hc1 := Lib.hid hc1
        have Hc2 := Lib.hid hc2
        clear h0 hF hL ho hc1 hc2
        go_wp2_with (go_at_call 64; refine (ring_calls Hr k hlt o Ho.out).mono ?_; rintro e w' ⟨rfl, rfl⟩)
        generalize hw2 : World.setCell _ _ _ = w2
        have H2 : LkAt w2 p bF bL nd hd (upd (upd (upd c (o * 3) o) (o * 3 + 1) o) (o * 3 + 2) (k + 1)) (fun _ => 0) := by
          rw [← hw2]; exact ((Hr.setF _ _).setF _ _).setF _ (k + 1)
        have R2 : Frm (fun _ => False) w w2 := by
          rw [← hw2]
          have hb := hs.2.1
          exact ((hfr.setCell (fun h => by simp at h; omega) _).setCell (fun h => by simp at h; omega) _).setCell (fun h => by simp at h; omega) _
        clear hw2
        go_wp2
        go_roundg (hd - (k + 1))
        case measure => omega
        case rel =>
          refine ⟨k + 1, _, by omega, by simp, H2, fun j hj => ?_, fun x hx => ?_, R2⟩
          · have ho := Ho.out
            by_cases e : j = k
            · subst e
              rw [← ho]
              exact ⟨by rw [upd_ne _ _ (by omega), upd_ne _ _ (by omega), upd_same], by rw [upd_ne _ _ (by omega), upd_same], by rw [upd_same]⟩
            · rw [upd_ne _ _ (by omega), upd_ne _ _ (by omega), upd_ne _ _ (by omega), upd_ne _ _ (by omega), upd_ne _ _ (by omega), upd_ne _ _ (by omega), upd_ne _ _ (by omega), upd_ne _ _ (by omega), upd_ne _ _ (by omega)]
              exact Hc1.out j (by omega)
          · have ho := Ho.out
            rw [upd_ne _ _ (by omega), upd_ne _ _ (by omega), upd_ne _ _ (by omega)]
            exact Hc2.out x hx
      · have hkk : k = hd := by omega
        clear h0 hF hL
        go_wp2
        go_ret2
        refine ⟨p, bF, bL, rfl, ⟨c, _, Hr, ?_⟩, hs.1, hs.2.1, hs.2.2, hfr⟩
        exact Rng.empty hc2 (fun h hh => (hc1 h (by omega)).2.2) (fun h hh => ⟨(hc1 h (by omega)).2.1, (hc1 h (by omega)).1⟩)
  · go_wp2
    refine plan_one rfl ?_
    go_wp2
    repeat (first | (refine plan_free rfl rfl (fun K hK => ?_); (go_simp; (try go_bits); (try (go_ite <;> go_prune <;> (try go_simp)))); refine hK _ (fun W hW => ?_) ?_ <;> clear hK K; (· ((go_simp; (try go_bits); (try (go_ite <;> go_prune <;> (try go_simp)))); (first | done | rfl | (simp (disch := omega) only [IntWalk.u32_in]; done) | (simp (disch := omega) only [IntWalk.i64_in]; done) | (simp (disch := omega) only [IntWalk.wrap64_in]; done))))) | (refine plan_tight rfl rfl (fun K hK => ?_); (go_simp; (try go_bits); (try (go_ite <;> go_prune <;> (try go_simp)))); refine hK _ ?_; clear hK K))
    refine plan_one rfl ?_
    go_wp2
    repeat (first | (refine plan_free rfl rfl (fun K hK => ?_); (go_simp; (try go_bits); (try (go_ite <;> go_prune <;> (try go_simp)))); refine hK _ (fun W hW => ?_) ?_ <;> clear hK K; (· ((go_simp; (try go_bits); (try (go_ite <;> go_prune <;> (try go_simp)))); (first | done | rfl | (simp (disch := omega) only [IntWalk.u32_in]; done) | (simp (disch := omega) only [IntWalk.i64_in]; done) | (simp (disch := omega) only [IntWalk.wrap64_in]; done))))) | (refine plan_tight rfl rfl (fun K hK => ?_); (go_simp; (try go_bits); (try (go_ite <;> go_prune <;> (try go_simp)))); refine hK _ ?_; clear hK K))
    refine plan_done ?_
    obtain ⟨H1, R1⟩ := new_world2 w Hm.out h2 h4 Hz1.out Hz2.out
    generalize hw1 : World.drew _ = w1 at H1 R1 ⊢
    clear hw1
    obtain ⟨p, hp⟩ : ∃ p, p = w.heap.size + 1 + 1 := ⟨_, rfl⟩
    obtain ⟨bF, hbF⟩ : ∃ p, p = w.heap.size + 1 := ⟨_, rfl⟩
    obtain ⟨bL, hbL⟩ : ∃ p, p = w.heap.size := ⟨_, rfl⟩
    rw [← hp, ← hbF, ← hbL] at H1 ⊢
    have hs : w.heap.size ≤ p ∧ w.heap.size ≤ bF ∧ w.heap.size ≤ bL := by omega
    clear hp hbL hbF
    go_wp2
    go_loopg [33] hd (fun g i wr => ∃ k c, k + g = hd ∧ i = .int .i64 k ∧ LkAt wr p bF bL nd hd c (fun _ => 0) ∧ (∀ j, j < k → c ((nd + j) * 3) = nd + j ∧ c ((nd + j) * 3 + 1) = nd + j ∧ c ((nd + j) * 3 + 2) = j + 1) ∧ (∀ x, x < nd → c (x * 3 + 2) = 0) ∧ Frm (fun _ => False) w wr)
    case atStart => exact ⟨0, fun _ => 0, by omega, rfl, H1, fun j hj => by omega, fun _ _ => rfl, R1⟩
    case round =>
      obtain ⟨k, c, hk, rfl, Hr, hc1, hc2, hfr⟩ := hrel
      obtain ⟨⟨cF, cL, h0⟩, hF, hL, n1, n2, n3, -, -⟩ := id Hr
      have hc0 := cell_at h0 (o := 0) rfl
      rcases Nat.lt_or_ge k hd with hlt | hge
      · obtain ⟨o, ho⟩ : ∃ o, o = nd + k := ⟨_, rfl⟩
        have ho2 : o < nd + hd := by omega
        have g0 := hF.cell (o := o * 3) (by omega)
        have g1 := hF.cell (o := o * 3 + 1) (by omega)
        have g2 := hF.cell (o := o * 3 + 2) (by omega)
        have r0 := hF.free
        have e1 : (o : Int) < m := by have := Hm.out; omega
        have m1 : ¬ bF = p := fun e => n1 e.symm
        rw [Hm.out.symm] at hc0
        have Ho := Lib.hid ho
        have Hc1 := Lib.hid hc1
        have Hc2 := Lib.hid hc2
        clear h0 hF hL ho hc1 hc2
        go_wp2_with (go_at_call 64; refine (ring_calls Hr k hlt o Ho.out).mono ?_; rintro e w' ⟨rfl, rfl⟩)
        generalize hw2 : World.setCell _ _ _ = w2
        have H2 : LkAt w2 p bF bL nd hd (upd (upd (upd c (o * 3) o) (o * 3 + 1) o) (o * 3 + 2) (k + 1)) (fun _ => 0) := by
          rw [← hw2]; exact ((Hr.setF _ _).setF _ _).setF _ (k + 1)
        have R2 : Frm (fun _ => False) w w2 := by
          rw [← hw2]
          have hb := hs.2.1
          exact ((hfr.setCell (fun h => by simp at h; omega) _).setCell (fun h => by simp at h; omega) _).setCell (fun h => by simp at h; omega) _
        clear hw2
        go_wp2
        go_roundg (hd - (k + 1))
        case measure => omega
        case rel =>
          refine ⟨k + 1, _, by omega, by simp, H2, fun j hj => ?_, fun x hx => ?_, R2⟩
          · have ho := Ho.out
            by_cases e : j = k
            · subst e
              rw [← ho]
              exact ⟨by rw [upd_ne _ _ (by omega), upd_ne _ _ (by omega), upd_same], by rw [upd_ne _ _ (by omega), upd_same], by rw [upd_same]⟩
            · rw [upd_ne _ _ (by omega), upd_ne _ _ (by omega), upd_ne _ _ (by omega), upd_ne _ _ (by omega), upd_ne _ _ (by omega), upd_ne _ _ (by omega), upd_ne _ _ (by omega), upd_ne _ _ (by omega), upd_ne _ _ (by omega)]
              exact Hc1.out j (by omega)
          · have ho := Ho.out
            rw [upd_ne _ _ (by omega), upd_ne _ _ (by omega), upd_ne _ _ (by omega)]
            exact Hc2.out x hx
      · have hkk : k = hd := by omega
        clear h0 hF hL
        go_wp2
        go_ret2
        refine ⟨p, bF, bL, rfl, ⟨c, _, Hr, ?_⟩, hs.1, hs.2.1, hs.2.2, hfr⟩
        exact Rng.empty hc2 (fun h hh => (hc1 h (by omega)).2.2) (fun h hh => ⟨(hc1 h (by omega)).2.1, (hc1 h (by omega)).1⟩)
end Go.Proofs.Ytogidmjilbpacaa
