/- Layer 16: List. -/
import Derived.Test.YtogidmjilbpacaaSeg7
import Derived.Test.YtogidmjilbpacaaPlanIn
import Derived.Test.YtogidmjilbpacaaLk7
namespace Go.Proofs.Ytogidmjilbpacaa
open Go.RowKit Go.Cub

theorem info_weighed : (Try.prog.info? 50).map (fun i => (i.zero, i.size, i.bytes)) = some (some (.agg #[.int .u32 0, .int .i64 0]), 2, 16) := by kernel_rfl

/-- slots with costs as cells -/
def ws (xs : List (Nat × Int)) : List Value := xs.flatMap fun x => [.int .u32 (x.1 : Int), .int .i64 x.2]
theorem ws_append (xs ys : List (Nat × Int)) : ws (xs ++ ys) = ws xs ++ ws ys := by simp [ws]
theorem ws_length (xs : List (Nat × Int)) : (ws xs).length = xs.length * 2 := by
  induction xs with
  | nil => rfl
  | cons x xs ih => rw [show ws (x :: xs) = [.int .u32 (x.1 : Int), .int .i64 x.2] ++ ws xs by simp [ws], List.length_append, ih, List.length_cons]; simp; omega
def SlW (w : World) (base : Nat) (v : Value) (xs : List (Nat × Int)) : Prop := w.ownsRow base 50 2 v xs.length (ws xs)
theorem SlW.snoc {w : World} {base : Nat} {v : Value} {xs : List (Nat × Int)} {x : Nat × Int} (h : w.ownsRow base 50 2 v (xs.length + 1) (ws xs ++ [.int .u32 (x.1 : Int), .int .i64 x.2])) : SlW w base v (xs ++ [x]) := by
  unfold SlW
  rw [ws_append, List.length_append]
  simpa [ws] using h
theorem two_cell_w (x : Nat) (c : Int) (u : Value) (h : u ∈ [Value.int .u32 (x : Int), Value.int .i64 c]) : u.oneCell' = true := by
  simp at h; rcases h with rfl | rfl <;> rfl
theorem two_cell_at {w : World} {u v : Value} {t : TypeId} (j : Nat) (z : Value) (h : [u, v][j]? = some z) : (w.alloc (.cells #[u, v] t (0, 0))).cell? (({ block := w.heap.size, off := 0, spot := none } : Addr).add j) = some z := by
  rw [add_zero_off]
  match j, h with
  | 0, h => simp at h; subst h; exact cell_at (alloc_new _ _) rfl
  | 1, h => simp at h; subst h; exact cell_at (alloc_new _ _) rfl

/-- a list of slots with their costs -/
def wl (g : Nat → Option Int) (xs : List Nat) : List (Nat × Int) := xs.map fun x => (x, (g x).getD 0)
theorem wl_length (g : Nat → Option Int) (xs : List Nat) : (wl g xs).length = xs.length := by simp [wl]

theorem own_some {b g n c : Nat} (h : (Value.slice (some ⟨g, 0, none⟩) n c).ownBlock = some b) : g = b := by injection h

theorem SlW.shape {w : World} {base : Nat} {v : Value} {xs : List (Nat × Int)} (h : SlW w base v xs) : ∃ a cap, v = .slice a xs.length cap := by
  rcases h.2 with ⟨hv, hx⟩ | ⟨g, cap, cur, hv, -⟩
  · rw [hx]; exact ⟨_, _, hv⟩
  · exact ⟨_, _, hv⟩

def ListPost (w : World) (xs : List (Nat × Int)) (e : Ending) (w' : World) : Prop := ∃ v, e = .returned v ∧ SlW w' w.heap.size v xs ∧ Frm (fun _ => False) w w'

section
variable {w w1 : World} {p q0 q1 bM n : Nat} {fp fp0 fp1 P Q : List Nat} {g : Nat → Option Int} {lim : Int}

set_option maxRecDepth 100000 in
theorem segList_no (H : SegF w fp p n P Q g lim) (k : Int) (h : k < 0 ∨ 1 < k) : Calls Try.prog 18 #[.pointer (some ⟨p, 0, none⟩), .int .i64 k] w fun e w' => e = .returned (.slice none 0 0) ∧ Frm (fun _ => False) w w' := by
  have HF := Lib.hid H
  have Hk := Lib.hid h
  clear H h
  go_enter Try.func18, Try.ntmps18
  go_wp2_with (go_at_call 37; refine (segHas_no (HF.out.frm ((Frm.refl (fun _ => False) w).alloc _) (fun _ _ h => h)) k Hk.out).mono ?_; rintro e w' ⟨rfl, rfl⟩)
  go_ret
  exact ⟨rfl, (Frm.refl _ w).alloc _⟩

attribute [local go_sem] Oper.semAt_some in
set_option maxRecDepth 100000 in
set_option maxHeartbeats 4000000 in
theorem segList_in (H : SegF w fp p n P Q g lim) (k : Int) (o : Nat) (hk : (k = 0 ∧ o = 0) ∨ (k = 1 ∧ o = 1)) (q : Nat) (fpx xs : List Nat) (hq : w.cell? ⟨p, o, none⟩ = some (.pointer (some ⟨q, 0, none⟩))) (hL : LruF w fpx q xs) (hx : ∀ x ∈ xs, (g x).isSome = true) :
    Calls Try.prog 18 #[.pointer (some ⟨p, 0, none⟩), .int .i64 k] w (ListPost w (wl g xs)) := by
  have HF := Lib.hid H
  have HL := Lib.hid hL
  have Hx := Lib.hid hx
  have Hk := Lib.hid hk
  obtain ⟨i0, hi, hz0, hz1, hz2⟩ := info_parts info_weighed
  obtain ⟨q0, q1, bM, fp0, fp1, hfp, H⟩ := H
  have HB := Lib.hid H
  have hplt := lt_of_some H.box
  clear H hL hx hfp
  obtain ⟨X, hX⟩ : ∃ X, X = w.heap.size := ⟨_, rfl⟩
  (refine calls_of_marks Try.func18 rfl ?_; simp only [Try.ntmps18, List.size_toArray, List.length_cons, List.length_nil, Nat.reduceAdd, Nat.reduceSub, Array.replicate_succ, Array.replicate_zero, List.push_toArray, List.append_toArray, List.nil_append, List.cons_append])
  clear Hk
  rcases hk with ⟨rfl, rfl⟩ | ⟨rfl, rfl⟩
  · have hal : ∀ o1 o2, Frm (fun _ => False) w ((w.alloc o1).alloc o2) := fun o1 o2 => ((Frm.refl _ w).alloc _).alloc _
    go_wp2_with (first | (go_at_call 37; refine (segHas_yes (HF.out.frm ((Frm.refl (fun _ => False) w).alloc _) (fun _ _ h => h)) 0 (.inl rfl)).mono ?_; rintro e w' ⟨rfl, rfl⟩) | (go_at_call 25; refine (lruAll_calls (HL.out.frm (hal _ _) (fun _ _ h => h))).mono ?_))
    rintro e w3 ⟨It, vi, rfl, hIt, hf3⟩
    go_wp2
    obtain ⟨bO, hbO⟩ : ∃ b, b = w.heap.size + 1 := ⟨_, rfl⟩
    obtain ⟨bX, hbX⟩ : ∃ b, b = w.heap.size := ⟨_, rfl⟩
    rw [← hbO, ← hbX]
    have hO3 : w3.heap[bO]? = some (.cells #[.slice none 0 0] 26 (0, 0)) := hf3.heap (by rw [hbO]; have := alloc_new (w.alloc (Obj.cells #[Value.pointer (some { block := p, off := 0 })] 22 (0, 0))) (.cells #[.slice none 0 0] 26 (0, 0)); simpa using this) (fun h => h)
    have hX3 : w3.heap[bX]? = some (.cells #[.pointer (some ⟨p, 0, none⟩)] 22 (0, 0)) := hf3.heap (by rw [hbX]; exact alloc_old (alloc_new _ _) _) (fun h => h)
    have hF3 : Frm (fun _ => False) w w3 := (hal _ _).trans hf3 (fun _ _ h => h)
    have hsz3 := hF3.size
    have Hlt := Lib.hid (show bX ≠ bO ∧ bX < w3.heap.size ∧ (∀ b, vi.ownBlock = some b → b < w3.heap.size ∧ b ≠ bO) ∧ p < w.heap.size from
      ⟨by omega, lt_of_some hX3, fun b hb => ⟨own_lt hIt.own hb, fun e => by have := own_ge hIt.own hb; simp at this; omega⟩, hplt⟩)
    have hbO3 := lt_of_some hO3
    have hXO : bX ≠ bO := by omega
    have Hlen := Lib.hid HL.out.facts.2.2
    have HbO := Lib.hid (show w.heap.size ≤ bO by omega)
    clear hbO hbX hq hplt
    refine wp_range (gf := 72) (lb := #[.pointer (some ⟨It, 0, none⟩)]) (N := xs.length) (encs := fun j => #[.int .u32 (nth xs j 0 : Nat)]) (Kp := fun W W' => ∀ b, vi.ownBlock = some b → KeepB b W W')
      rfl ?eg (fun _ => rfl) (fun W hW => all1_iter (hIt.bk hW) Hlen.out) (fun A B C D h1 h2 h3 b hb => KeepB.bk h1 (h2 b hb) h3)
      (fun j W => ∃ vO, W.heap[bO]? = some (.cells #[vO] 26 (0, 0)) ∧ SlW W w3.heap.size vO ((wl g xs).take j) ∧ W.heap[bX]? = some (.cells #[.pointer (some ⟨p, 0, none⟩)] 22 (0, 0)) ∧ Frm (fun _ => False) w W ∧ w3.heap.size ≤ W.heap.size)
      (fun _ _ => False) ?hI (fun _ _ _ h _ => h) ⟨_, hO3, World.ownsRow_nil _ _ _ _, hX3, hF3, Nat.le_refl _⟩ ?hround ?hdone (fun _ _ _ _ h _ => h.elim)
    case eg => intro args w; rfl
    case hI =>
      rintro j W W' ⟨vO, h1, h2, h3, h5, h6⟩ hb
      exact ⟨vO, hb.cells h1, hb.owns h2, hb.cells h3, hb.frm h5 hsz3, Nat.le_trans h6 hb.size⟩
    case hround =>
      rintro l j W hj ⟨vO, h1, h2, h3, h5, h6⟩
      obtain ⟨s, hs⟩ : ∃ s, s = nth xs j 0 := ⟨_, rfl⟩
      rw [← hs]
      have hsm : s ∈ xs := by rw [hs, nth_lt _ hj]; exact List.getElem_mem hj
      obtain ⟨c, hc⟩ : ∃ c, g s = some c := by
        have := Hx.out s hsm
        cases hh : g s with
        | none => rw [hh] at this; cases this
        | some c => exact ⟨c, rfl⟩
      have hgs : (g s).getD 0 = c := by rw [hc]; rfl
      have hm : (wl g xs).take (j + 1) = (wl g xs).take j ++ [(s, c)] := by
        have hj' : j < (wl g xs).length := by rw [wl_length]; exact hj
        rw [List.take_succ_eq_append_getElem hj']
        congr 2
        simp only [wl, List.getElem_map]
        rw [show xs[j] = s by rw [hs, nth_lt _ hj], hgs]
      have hwf := wf_u32 (HL.out.facts.2.1 s hsm)
      have Hm := Lib.hid hm
      clear hs hm hc
      simp only []
      gi_wp2
      refine ⟨KeepsFrom.refl _ _, fun W2 hW2 => ?_⟩
      have h1 := hW2.cells h1
      have h2 : SlW W2 w3.heap.size vO ((wl g xs).take j) := hW2.owns h2
      have h3 := hW2.cells h3
      have h5 := hW2.frm h5 hsz3
      have hs2 := hW2.size
      obtain ⟨aO, capO, hvO⟩ := h2.shape
      rw [show ((wl g xs).take j).length = j by simp [wl]; omega] at hvO
      subst hvO
      have hB2 := HB.out.frm h5 (fun h => h) (fun h => h) (fun _ _ h => h) (fun _ _ h => h)
      have gO := cell_at h1 (o := 0) rfl
      have gX := cell_at h3 (o := 0) rfl
      have g4 := cell_at hB2.box (o := 4) rfl
      have gK := GMap.look1 (hB2.map.frm (Frm.refl (fun _ => False) W2).drew (fun h => h)) Try.underlying34 Try.underlying66 Try.underlying3 (zero_int _) s hwf
      rw [hgs] at gK
      clear hB2
      gi_wp2
      refine wpIn_region_plan 12 (fun W ↦ W.cell? ⟨bX, 0, none⟩ = some (.pointer (some ⟨p, 0, none⟩)) ∧ W.cell? ⟨p, 4, none⟩ = some (.map (some bM)) ∧ (Instr.lookup 66 (.map (some bM)) (.int .u32 s) false).run Try.prog W = .ok (.int .i64 c) W) [0, 9, 10, 11] (.block 2 (.block 4 (.block 6 (.block 8 (.block 10 (.block 12 (.block 14 (.block 16 (.loop (.seq (.block 0 (.loop (.seq (.block 9 (.loop (.seq (.block 10 (.loop (.seq (.block 11 .skip) .skip))) .skip))) .skip))) (.seq (.block 9 (.loop (.seq (.block 0 (.loop (.seq (.block 10 (.loop (.seq (.block 11 .skip) .skip))) .skip))) .skip))) .skip))))))))))) rfl rfl (by kernel_rfl) (by kernel_rfl) ?_ ?_
      · exact ⟨gX, g4, gK⟩
      repeat (first | (refine plan_free rfl rfl (fun K hK => ?_); (go_simp; (try go_bits); (try (go_ite <;> go_prune <;> (try go_simp)))); refine hK _ (fun W hW => ?_) ?_ <;> clear hK K; (· ((go_simp; (try go_bits); (try (go_ite <;> go_prune <;> (try go_simp)))); (first | done | rfl | (simp (disch := omega) only [IntWalk.u32_in]; done) | (simp (disch := omega) only [IntWalk.i64_in]; done) | (simp (disch := omega) only [IntWalk.wrap64_in]; done))))) | (refine plan_tight rfl rfl (fun K hK => ?_); (go_simp; (try go_bits); (try (go_ite <;> go_prune <;> (try go_simp)))); refine hK _ ?_; clear hK K))
      have hlenj : ((wl g xs).take j).length = j := by simp [wl]; omega
      have hjj : j ≤ 4194304 := by have := Hlen.out; omega
      have hown2 : W2.ownsRow w3.heap.size 50 2 (.slice aO j capO) j (ws ((wl g xs).take j)) := by
        have := h2
        unfold SlW at this
        rw [hlenj] at this
        exact this
      obtain ⟨W5, hW5⟩ : ∃ W5, W5 = (W2.alloc (.cells #[.int .u32 (s : Int), .int .i64 c] 50 (0, 0))).drew := ⟨_, rfl⟩
      have HnewC := Lib.hid (show ∀ (j : Nat) (u : Value), [Value.int .u32 (s : Int), .int .i64 c][j]? = some u → W5.cell? (({ block := W2.heap.size, off := 0, spot := none } : Addr).add j) = some u by rw [hW5]; exact two_cell_at)
      have HO5 := Lib.hid (show W5.heap[bO]? = some (.cells #[.slice aO j capO] 26 (0, 0)) by rw [hW5]; exact alloc_old h1 _)
      have HX5 := Lib.hid (show W5.heap[bX]? = some (.cells #[.pointer (some ⟨p, 0, none⟩)] 22 (0, 0)) by rw [hW5]; exact alloc_old h3 _)
      have Hown5 := Lib.hid (show W5.ownsRow w3.heap.size 50 2 (.slice aO j capO) j (ws ((wl g xs).take j)) by rw [hW5]; exact World.ownsRow.alloc hown2 _)
      have HF5 := Lib.hid (show Frm (fun _ => False) w W5 by rw [hW5]; exact (h5.alloc _).drew)
      have gO5 := cell_at HO5.out (o := 0) rfl
      have gX5 := cell_at HX5.out (o := 0) rfl
      have hB5 := HB.out.frm HF5.out (fun h => h) (fun h => h) (fun _ _ h => h) (fun _ _ h => h)
      have g45 := cell_at hB5.box (o := 4) rfl
      have gK5 := GMap.look1 hB5.map Try.underlying34 Try.underlying66 Try.underlying3 (zero_int _) s hwf
      rw [hgs] at gK5
      have HaF := Lib.hid (show (W2.alloc (.cells #[.int .u32 (s : Int), .int .i64 c] 50 (0, 0))).cell? ⟨bX, 0, none⟩ = some (.pointer (some ⟨p, 0, none⟩)) ∧ (W2.alloc (.cells #[.int .u32 (s : Int), .int .i64 c] 50 (0, 0))).cell? ⟨p, 4, none⟩ = some (.map (some bM)) ∧ (Instr.lookup 66 (.map (some bM)) (.int .u32 s) false).run Try.prog (W2.alloc (.cells #[.int .u32 (s : Int), .int .i64 c] 50 (0, 0))).drew = .ok (.int .i64 c) (W2.alloc (.cells #[.int .u32 (s : Int), .int .i64 c] 50 (0, 0))).drew from
        ⟨by have := gX5; rw [hW5] at this; exact this, by have := g45; rw [hW5] at this; exact this, by have := gK5; rw [hW5] at this; exact this⟩)
      have HK5 := Lib.hid (And.intro gX5 (And.intro g45 gK5))
      have hsz5 : w3.heap.size ≤ W5.heap.size := by rw [hW5]; show w3.heap.size ≤ (W2.alloc _).heap.size; simp; omega
      have HW5 := Lib.hid hW5
      clear h2 hown2 hlenj hW5 gO5 gX5 g45 gK5 hB5
      refine plan_two rfl rfl ?_ ?_
      · go_wp2
        refine plan_one rfl ?_
        go_wp2
        refine ⟨HaF.out, ?_⟩
        rw [← HW5.out]
        obtain ⟨gX5, g45, gK5⟩ := HK5.out
        have gO5 := cell_at HO5.out (o := 0) rfl
        refine plan_one rfl ?_
        refine wpList_append2 _ rfl _ _ 26 rfl w3.heap.size 50 i0 (.agg #[.int .u32 0, .int .i64 0]) 2 16 Try.underlying26 hi hz0 hz1 hz2 rfl (by decide) _ _ _ rfl Hown5.out ⟨W2.heap.size, 0, none⟩ 1 1 [.int .u32 s, .int .i64 c] rfl rfl HnewC.out (two_cell_w s c) (by unfold maxLen; omega) (by omega) (by omega) ?_
        intro v' W6 hown' hgrow hblk
        obtain ⟨g2, capN, hv'⟩ : ∃ g2 capN, v' = .slice (some ⟨g2, 0, none⟩) (j + 1) capN := by
          rcases hown'.2 with h | ⟨g, c, cur, hv, _⟩
          · exact absurd h.2 (by omega)
          · exact ⟨g, c, hv⟩
        subst hv'
        have hG : Frm (fun b => (Value.slice aO j capO).ownBlock = some b) W5 W6 := Frm.grown hgrow fun _ _ hb => hb
        have hge5 : ∀ b, (Value.slice aO j capO).ownBlock = some b → w3.heap.size ≤ b := fun b hb => own_ge Hown5.out hb
        have hlt := Hlt.out
        have hO6 := hG.heap HO5.out (fun h => by have := hge5 _ h; omega)
        have hX6 := hG.heap HX5.out (fun h => by have := hge5 _ h; omega)
        have gO6 := cell_at hO6 (o := 0) rfl
        have rO6 := free_at hO6 0
        have gX6 := cell_at hX6 (o := 0) rfl
        have hF6 : Frm (fun _ => False) w W6 := HF5.out.trans hG (fun b hb h => by have := hge5 _ h; have := Hlt.out.2.2.2; omega)
        have hB6 := HB.out.frm hF6 (fun h => h) (fun h => h) (fun _ _ h => h) (fun _ _ h => h)
        have g46 := cell_at hB6.box (o := 4) rfl
        have gK6 := GMap.look1 hB6.map Try.underlying34 Try.underlying66 Try.underlying3 (zero_int _) s hwf
        rw [hgs] at gK6
        have hg2 : w3.heap.size ≤ g2 := own_ge hown' rfl
        have HO6 := Lib.hid hO6
        have HX6 := Lib.hid hX6
        have Hown6 := Lib.hid hown'
        have HG := Lib.hid hG
        have Hge5 := Lib.hid hge5
        have HF6 := Lib.hid hF6
        clear hO6 hX6 hown' hG hgrow hblk hge5 hF6 hB6
        go_wp2
        refine plan_one rfl ?_
        have hneX : bX ≠ bO := Hlt.out.1
        have hneP : p ≠ bO := fun h => by have := Hlt.out.2.2.2; have := HbO.out; omega
        have hset : Frm (fun b => b = bO) W6 (W6.setCell ⟨bO, 0, none⟩ (.slice (some ⟨g2, 0, none⟩) (j + 1) capN)) := (Frm.refl (fun b => b = bO) W6).setCell (a := ⟨bO, 0, none⟩) (fun _ => rfl) _
        go_wp2
        refine ⟨?_, plan_done ?_⟩
        · have hB7 := HB.out.frm (HF6.out.trans hset (fun b hb h => by have := HbO.out; omega)) (fun h => h) (fun h => h) (fun _ _ h => h) (fun _ _ h => h)
          have gK7 := GMap.look1 hB7.map Try.underlying34 Try.underlying66 Try.underlying3 (zero_int _) s hwf
          rw [hgs] at gK7
          exact gK7
        have hlt := Hlt.out
        have hsW : W2.heap.size ≤ W5.heap.size := by rw [HW5.out]; show W2.heap.size ≤ (W2.alloc _).heap.size; simp
        have hF5 : ∀ (i : Nat) (o : Obj), W2.heap[i]? = some o → W5.heap[i]? = some o := fun i o h => by rw [HW5.out]; exact alloc_old h _
        have hG := HG.out
        refine (⟨⟨?_, ?_⟩, ?_, ?_⟩ : KeepsFrom _ _ _ ∧ _ ∧ _)
        · have := hG.size
          show W2.heap.size ≤ (W6.setCell _ _).heap.size
          simp [World.setCell]
          omega
        · intro i o hi ho hnc
          have h5 := hF5 i o ho
          have h6' := hG.heap h5 (fun h => by
            rcases Hown5.out.2 with hh | ⟨g', c, cur, hv, _, hc, _⟩
            · rw [hh.1] at h; cases h
            · rw [hv] at h
              have e : g' = i := by injection h
              subst e
              rw [hc] at h5
              injection h5 with h5
              rw [← h5] at hnc
              cases hnc)
          exact set_other h6' (show i ≠ bO by omega) _
        · intro b hb A t f hA
          have h2' := hW2.cells hA
          have h5 := hF5 b _ h2'
          have h6' := hG.heap h5 (fun h => by have := Hge5.out _ h; have := (hlt.2.2.1 b hb).1; omega)
          exact set_other h6' (show b ≠ bO from (hlt.2.2.1 b hb).2) _
        · refine ⟨_, set_same HO6.out 0 _, ?_, ?_, ?_, ?_⟩
          · rw [Hm.out]
            refine own_frm (SlW.snoc ?_) hset (fun b hb h => by have hb' := own_some hb; omega)
            rw [show ((wl g xs).take j).length = j by simp [wl]; omega]
            exact Hown6.out
          · exact set_other HX6.out hneX _
          · exact HF6.out.trans hset (fun b hb h => by have := HbO.out; omega)
          · have := hG.size
            show w3.heap.size ≤ (W6.setCell _ _).heap.size
            simp [World.setCell]
            omega
      · go_wp2
        refine ⟨HaF.out, ?_⟩
        rw [← HW5.out]
        obtain ⟨gX5, g45, gK5⟩ := HK5.out
        have gO5 := cell_at HO5.out (o := 0) rfl
        refine plan_one rfl ?_
        go_wp2
        refine plan_one rfl ?_
        refine wpList_append2 _ rfl _ _ 26 rfl w3.heap.size 50 i0 (.agg #[.int .u32 0, .int .i64 0]) 2 16 Try.underlying26 hi hz0 hz1 hz2 rfl (by decide) _ _ _ rfl Hown5.out ⟨W2.heap.size, 0, none⟩ 1 1 [.int .u32 s, .int .i64 c] rfl rfl HnewC.out (two_cell_w s c) (by unfold maxLen; omega) (by omega) (by omega) ?_
        intro v' W6 hown' hgrow hblk
        obtain ⟨g2, capN, hv'⟩ : ∃ g2 capN, v' = .slice (some ⟨g2, 0, none⟩) (j + 1) capN := by
          rcases hown'.2 with h | ⟨g, c, cur, hv, _⟩
          · exact absurd h.2 (by omega)
          · exact ⟨g, c, hv⟩
        subst hv'
        have hG : Frm (fun b => (Value.slice aO j capO).ownBlock = some b) W5 W6 := Frm.grown hgrow fun _ _ hb => hb
        have hge5 : ∀ b, (Value.slice aO j capO).ownBlock = some b → w3.heap.size ≤ b := fun b hb => own_ge Hown5.out hb
        have hlt := Hlt.out
        have hO6 := hG.heap HO5.out (fun h => by have := hge5 _ h; omega)
        have hX6 := hG.heap HX5.out (fun h => by have := hge5 _ h; omega)
        have gO6 := cell_at hO6 (o := 0) rfl
        have rO6 := free_at hO6 0
        have gX6 := cell_at hX6 (o := 0) rfl
        have hF6 : Frm (fun _ => False) w W6 := HF5.out.trans hG (fun b hb h => by have := hge5 _ h; have := Hlt.out.2.2.2; omega)
        have hB6 := HB.out.frm hF6 (fun h => h) (fun h => h) (fun _ _ h => h) (fun _ _ h => h)
        have g46 := cell_at hB6.box (o := 4) rfl
        have gK6 := GMap.look1 hB6.map Try.underlying34 Try.underlying66 Try.underlying3 (zero_int _) s hwf
        rw [hgs] at gK6
        have hg2 : w3.heap.size ≤ g2 := own_ge hown' rfl
        have HO6 := Lib.hid hO6
        have HX6 := Lib.hid hX6
        have Hown6 := Lib.hid hown'
        have HG := Lib.hid hG
        have Hge5 := Lib.hid hge5
        have HF6 := Lib.hid hF6
        clear hO6 hX6 hown' hG hgrow hblk hge5 hF6 hB6
        go_wp2
        refine plan_one rfl ?_
        have hneX : bX ≠ bO := Hlt.out.1
        have hneP : p ≠ bO := fun h => by have := Hlt.out.2.2.2; have := HbO.out; omega
        have hset : Frm (fun b => b = bO) W6 (W6.setCell ⟨bO, 0, none⟩ (.slice (some ⟨g2, 0, none⟩) (j + 1) capN)) := (Frm.refl (fun b => b = bO) W6).setCell (a := ⟨bO, 0, none⟩) (fun _ => rfl) _
        go_wp2
        refine ⟨?_, plan_done ?_⟩
        · have hB7 := HB.out.frm (HF6.out.trans hset (fun b hb h => by have := HbO.out; omega)) (fun h => h) (fun h => h) (fun _ _ h => h) (fun _ _ h => h)
          have gK7 := GMap.look1 hB7.map Try.underlying34 Try.underlying66 Try.underlying3 (zero_int _) s hwf
          rw [hgs] at gK7
          exact gK7
        have hlt := Hlt.out
        have hsW : W2.heap.size ≤ W5.heap.size := by rw [HW5.out]; show W2.heap.size ≤ (W2.alloc _).heap.size; simp
        have hF5 : ∀ (i : Nat) (o : Obj), W2.heap[i]? = some o → W5.heap[i]? = some o := fun i o h => by rw [HW5.out]; exact alloc_old h _
        have hG := HG.out
        refine (⟨⟨?_, ?_⟩, ?_, ?_⟩ : KeepsFrom _ _ _ ∧ _ ∧ _)
        · have := hG.size
          show W2.heap.size ≤ (W6.setCell _ _).heap.size
          simp [World.setCell]
          omega
        · intro i o hi ho hnc
          have h5 := hF5 i o ho
          have h6' := hG.heap h5 (fun h => by
            rcases Hown5.out.2 with hh | ⟨g', c, cur, hv, _, hc, _⟩
            · rw [hh.1] at h; cases h
            · rw [hv] at h
              have e : g' = i := by injection h
              subst e
              rw [hc] at h5
              injection h5 with h5
              rw [← h5] at hnc
              cases hnc)
          exact set_other h6' (show i ≠ bO by omega) _
        · intro b hb A t f hA
          have h2' := hW2.cells hA
          have h5 := hF5 b _ h2'
          have h6' := hG.heap h5 (fun h => by have := Hge5.out _ h; have := (hlt.2.2.1 b hb).1; omega)
          exact set_other h6' (show b ≠ bO from (hlt.2.2.1 b hb).2) _
        · refine ⟨_, set_same HO6.out 0 _, ?_, ?_, ?_, ?_⟩
          · rw [Hm.out]
            refine own_frm (SlW.snoc ?_) hset (fun b hb h => by have hb' := own_some hb; omega)
            rw [show ((wl g xs).take j).length = j by simp [wl]; omega]
            exact Hown6.out
          · exact set_other HX6.out hneX _
          · exact HF6.out.trans hset (fun b hb h => by have := HbO.out; omega)
          · have := hG.size
            show w3.heap.size ≤ (W6.setCell _ _).heap.size
            simp [World.setCell]
            omega
    case hdone =>
      rintro D W hD ⟨vO, h1, h2, h3, h5, h6⟩ hDd
      rw [← wl_length g xs, List.take_length] at h2
      have gO := cell_at h1 (o := 0) rfl
      simp only []
      go_wp2
      refine bodyPostM_ret (B := D) [D] rfl (by simp) (fun D' hD' => by simp at hD'; subst hD'; exact ⟨Nat.le_refl _, hDd⟩) (fun W' => results_tmp rfl _ _ _) (fun W' hb => ?_)
      exact ⟨vO, rfl, own_base (hb.owns h2) hsz3, hb.frm h5 (by omega)⟩
  · have hal : ∀ o1 o2, Frm (fun _ => False) w ((w.alloc o1).alloc o2) := fun o1 o2 => ((Frm.refl _ w).alloc _).alloc _
    go_wp2_with (first | (go_at_call 37; refine (segHas_yes (HF.out.frm ((Frm.refl (fun _ => False) w).alloc _) (fun _ _ h => h)) 1 (.inr rfl)).mono ?_; rintro e w' ⟨rfl, rfl⟩) | (go_at_call 25; refine (lruAll_calls (HL.out.frm (hal _ _) (fun _ _ h => h))).mono ?_))
    rintro e w3 ⟨It, vi, rfl, hIt, hf3⟩
    go_wp2
    obtain ⟨bO, hbO⟩ : ∃ b, b = w.heap.size + 1 := ⟨_, rfl⟩
    obtain ⟨bX, hbX⟩ : ∃ b, b = w.heap.size := ⟨_, rfl⟩
    rw [← hbO, ← hbX]
    have hO3 : w3.heap[bO]? = some (.cells #[.slice none 0 0] 26 (0, 0)) := hf3.heap (by rw [hbO]; have := alloc_new (w.alloc (Obj.cells #[Value.pointer (some { block := p, off := 0 })] 22 (0, 0))) (.cells #[.slice none 0 0] 26 (0, 0)); simpa using this) (fun h => h)
    have hX3 : w3.heap[bX]? = some (.cells #[.pointer (some ⟨p, 0, none⟩)] 22 (0, 0)) := hf3.heap (by rw [hbX]; exact alloc_old (alloc_new _ _) _) (fun h => h)
    have hF3 : Frm (fun _ => False) w w3 := (hal _ _).trans hf3 (fun _ _ h => h)
    have hsz3 := hF3.size
    have Hlt := Lib.hid (show bX ≠ bO ∧ bX < w3.heap.size ∧ (∀ b, vi.ownBlock = some b → b < w3.heap.size ∧ b ≠ bO) ∧ p < w.heap.size from
      ⟨by omega, lt_of_some hX3, fun b hb => ⟨own_lt hIt.own hb, fun e => by have := own_ge hIt.own hb; simp at this; omega⟩, hplt⟩)
    have hbO3 := lt_of_some hO3
    have hXO : bX ≠ bO := by omega
    have Hlen := Lib.hid HL.out.facts.2.2
    have HbO := Lib.hid (show w.heap.size ≤ bO by omega)
    clear hbO hbX hq hplt
    refine wp_range (gf := 72) (lb := #[.pointer (some ⟨It, 0, none⟩)]) (N := xs.length) (encs := fun j => #[.int .u32 (nth xs j 0 : Nat)]) (Kp := fun W W' => ∀ b, vi.ownBlock = some b → KeepB b W W')
      rfl ?eg (fun _ => rfl) (fun W hW => all1_iter (hIt.bk hW) Hlen.out) (fun A B C D h1 h2 h3 b hb => KeepB.bk h1 (h2 b hb) h3)
      (fun j W => ∃ vO, W.heap[bO]? = some (.cells #[vO] 26 (0, 0)) ∧ SlW W w3.heap.size vO ((wl g xs).take j) ∧ W.heap[bX]? = some (.cells #[.pointer (some ⟨p, 0, none⟩)] 22 (0, 0)) ∧ Frm (fun _ => False) w W ∧ w3.heap.size ≤ W.heap.size)
      (fun _ _ => False) ?hI (fun _ _ _ h _ => h) ⟨_, hO3, World.ownsRow_nil _ _ _ _, hX3, hF3, Nat.le_refl _⟩ ?hround ?hdone (fun _ _ _ _ h _ => h.elim)
    case eg => intro args w; rfl
    case hI =>
      rintro j W W' ⟨vO, h1, h2, h3, h5, h6⟩ hb
      exact ⟨vO, hb.cells h1, hb.owns h2, hb.cells h3, hb.frm h5 hsz3, Nat.le_trans h6 hb.size⟩
    case hround =>
      rintro l j W hj ⟨vO, h1, h2, h3, h5, h6⟩
      obtain ⟨s, hs⟩ : ∃ s, s = nth xs j 0 := ⟨_, rfl⟩
      rw [← hs]
      have hsm : s ∈ xs := by rw [hs, nth_lt _ hj]; exact List.getElem_mem hj
      obtain ⟨c, hc⟩ : ∃ c, g s = some c := by
        have := Hx.out s hsm
        cases hh : g s with
        | none => rw [hh] at this; cases this
        | some c => exact ⟨c, rfl⟩
      have hgs : (g s).getD 0 = c := by rw [hc]; rfl
      have hm : (wl g xs).take (j + 1) = (wl g xs).take j ++ [(s, c)] := by
        have hj' : j < (wl g xs).length := by rw [wl_length]; exact hj
        rw [List.take_succ_eq_append_getElem hj']
        congr 2
        simp only [wl, List.getElem_map]
        rw [show xs[j] = s by rw [hs, nth_lt _ hj], hgs]
      have hwf := wf_u32 (HL.out.facts.2.1 s hsm)
      have Hm := Lib.hid hm
      clear hs hm hc
      simp only []
      gi_wp2
      refine ⟨KeepsFrom.refl _ _, fun W2 hW2 => ?_⟩
      have h1 := hW2.cells h1
      have h2 : SlW W2 w3.heap.size vO ((wl g xs).take j) := hW2.owns h2
      have h3 := hW2.cells h3
      have h5 := hW2.frm h5 hsz3
      have hs2 := hW2.size
      obtain ⟨aO, capO, hvO⟩ := h2.shape
      rw [show ((wl g xs).take j).length = j by simp [wl]; omega] at hvO
      subst hvO
      have hB2 := HB.out.frm h5 (fun h => h) (fun h => h) (fun _ _ h => h) (fun _ _ h => h)
      have gO := cell_at h1 (o := 0) rfl
      have gX := cell_at h3 (o := 0) rfl
      have g4 := cell_at hB2.box (o := 4) rfl
      have gK := GMap.look1 (hB2.map.frm (Frm.refl (fun _ => False) W2).drew (fun h => h)) Try.underlying34 Try.underlying66 Try.underlying3 (zero_int _) s hwf
      rw [hgs] at gK
      clear hB2
      gi_wp2
      refine wpIn_region_plan 12 (fun W ↦ W.cell? ⟨bX, 0, none⟩ = some (.pointer (some ⟨p, 0, none⟩)) ∧ W.cell? ⟨p, 4, none⟩ = some (.map (some bM)) ∧ (Instr.lookup 66 (.map (some bM)) (.int .u32 s) false).run Try.prog W = .ok (.int .i64 c) W) [0, 9, 10, 11] (.block 2 (.block 4 (.block 6 (.block 8 (.block 10 (.block 12 (.block 14 (.block 16 (.loop (.seq (.block 0 (.loop (.seq (.block 9 (.loop (.seq (.block 10 (.loop (.seq (.block 11 .skip) .skip))) .skip))) .skip))) (.seq (.block 9 (.loop (.seq (.block 0 (.loop (.seq (.block 10 (.loop (.seq (.block 11 .skip) .skip))) .skip))) .skip))) .skip))))))))))) rfl rfl (by kernel_rfl) (by kernel_rfl) ?_ ?_
      · exact ⟨gX, g4, gK⟩
      repeat (first | (refine plan_free rfl rfl (fun K hK => ?_); (go_simp; (try go_bits); (try (go_ite <;> go_prune <;> (try go_simp)))); refine hK _ (fun W hW => ?_) ?_ <;> clear hK K; (· ((go_simp; (try go_bits); (try (go_ite <;> go_prune <;> (try go_simp)))); (first | done | rfl | (simp (disch := omega) only [IntWalk.u32_in]; done) | (simp (disch := omega) only [IntWalk.i64_in]; done) | (simp (disch := omega) only [IntWalk.wrap64_in]; done))))) | (refine plan_tight rfl rfl (fun K hK => ?_); (go_simp; (try go_bits); (try (go_ite <;> go_prune <;> (try go_simp)))); refine hK _ ?_; clear hK K))
      have hlenj : ((wl g xs).take j).length = j := by simp [wl]; omega
      have hjj : j ≤ 4194304 := by have := Hlen.out; omega
      have hown2 : W2.ownsRow w3.heap.size 50 2 (.slice aO j capO) j (ws ((wl g xs).take j)) := by
        have := h2
        unfold SlW at this
        rw [hlenj] at this
        exact this
      obtain ⟨W5, hW5⟩ : ∃ W5, W5 = (W2.alloc (.cells #[.int .u32 (s : Int), .int .i64 c] 50 (0, 0))).drew := ⟨_, rfl⟩
      have HnewC := Lib.hid (show ∀ (j : Nat) (u : Value), [Value.int .u32 (s : Int), .int .i64 c][j]? = some u → W5.cell? (({ block := W2.heap.size, off := 0, spot := none } : Addr).add j) = some u by rw [hW5]; exact two_cell_at)
      have HO5 := Lib.hid (show W5.heap[bO]? = some (.cells #[.slice aO j capO] 26 (0, 0)) by rw [hW5]; exact alloc_old h1 _)
      have HX5 := Lib.hid (show W5.heap[bX]? = some (.cells #[.pointer (some ⟨p, 0, none⟩)] 22 (0, 0)) by rw [hW5]; exact alloc_old h3 _)
      have Hown5 := Lib.hid (show W5.ownsRow w3.heap.size 50 2 (.slice aO j capO) j (ws ((wl g xs).take j)) by rw [hW5]; exact World.ownsRow.alloc hown2 _)
      have HF5 := Lib.hid (show Frm (fun _ => False) w W5 by rw [hW5]; exact (h5.alloc _).drew)
      have gO5 := cell_at HO5.out (o := 0) rfl
      have gX5 := cell_at HX5.out (o := 0) rfl
      have hB5 := HB.out.frm HF5.out (fun h => h) (fun h => h) (fun _ _ h => h) (fun _ _ h => h)
      have g45 := cell_at hB5.box (o := 4) rfl
      have gK5 := GMap.look1 hB5.map Try.underlying34 Try.underlying66 Try.underlying3 (zero_int _) s hwf
      rw [hgs] at gK5
      have HaF := Lib.hid (show (W2.alloc (.cells #[.int .u32 (s : Int), .int .i64 c] 50 (0, 0))).cell? ⟨bX, 0, none⟩ = some (.pointer (some ⟨p, 0, none⟩)) ∧ (W2.alloc (.cells #[.int .u32 (s : Int), .int .i64 c] 50 (0, 0))).cell? ⟨p, 4, none⟩ = some (.map (some bM)) ∧ (Instr.lookup 66 (.map (some bM)) (.int .u32 s) false).run Try.prog (W2.alloc (.cells #[.int .u32 (s : Int), .int .i64 c] 50 (0, 0))).drew = .ok (.int .i64 c) (W2.alloc (.cells #[.int .u32 (s : Int), .int .i64 c] 50 (0, 0))).drew from
        ⟨by have := gX5; rw [hW5] at this; exact this, by have := g45; rw [hW5] at this; exact this, by have := gK5; rw [hW5] at this; exact this⟩)
      have HK5 := Lib.hid (And.intro gX5 (And.intro g45 gK5))
      have hsz5 : w3.heap.size ≤ W5.heap.size := by rw [hW5]; show w3.heap.size ≤ (W2.alloc _).heap.size; simp; omega
      have HW5 := Lib.hid hW5
      clear h2 hown2 hlenj hW5 gO5 gX5 g45 gK5 hB5
      refine plan_two rfl rfl ?_ ?_
      · go_wp2
        refine plan_one rfl ?_
        go_wp2
        refine ⟨HaF.out, ?_⟩
        rw [← HW5.out]
        obtain ⟨gX5, g45, gK5⟩ := HK5.out
        have gO5 := cell_at HO5.out (o := 0) rfl
        refine plan_one rfl ?_
        refine wpList_append2 _ rfl _ _ 26 rfl w3.heap.size 50 i0 (.agg #[.int .u32 0, .int .i64 0]) 2 16 Try.underlying26 hi hz0 hz1 hz2 rfl (by decide) _ _ _ rfl Hown5.out ⟨W2.heap.size, 0, none⟩ 1 1 [.int .u32 s, .int .i64 c] rfl rfl HnewC.out (two_cell_w s c) (by unfold maxLen; omega) (by omega) (by omega) ?_
        intro v' W6 hown' hgrow hblk
        obtain ⟨g2, capN, hv'⟩ : ∃ g2 capN, v' = .slice (some ⟨g2, 0, none⟩) (j + 1) capN := by
          rcases hown'.2 with h | ⟨g, c, cur, hv, _⟩
          · exact absurd h.2 (by omega)
          · exact ⟨g, c, hv⟩
        subst hv'
        have hG : Frm (fun b => (Value.slice aO j capO).ownBlock = some b) W5 W6 := Frm.grown hgrow fun _ _ hb => hb
        have hge5 : ∀ b, (Value.slice aO j capO).ownBlock = some b → w3.heap.size ≤ b := fun b hb => own_ge Hown5.out hb
        have hlt := Hlt.out
        have hO6 := hG.heap HO5.out (fun h => by have := hge5 _ h; omega)
        have hX6 := hG.heap HX5.out (fun h => by have := hge5 _ h; omega)
        have gO6 := cell_at hO6 (o := 0) rfl
        have rO6 := free_at hO6 0
        have gX6 := cell_at hX6 (o := 0) rfl
        have hF6 : Frm (fun _ => False) w W6 := HF5.out.trans hG (fun b hb h => by have := hge5 _ h; have := Hlt.out.2.2.2; omega)
        have hB6 := HB.out.frm hF6 (fun h => h) (fun h => h) (fun _ _ h => h) (fun _ _ h => h)
        have g46 := cell_at hB6.box (o := 4) rfl
        have gK6 := GMap.look1 hB6.map Try.underlying34 Try.underlying66 Try.underlying3 (zero_int _) s hwf
        rw [hgs] at gK6
        have hg2 : w3.heap.size ≤ g2 := own_ge hown' rfl
        have HO6 := Lib.hid hO6
        have HX6 := Lib.hid hX6
        have Hown6 := Lib.hid hown'
        have HG := Lib.hid hG
        have Hge5 := Lib.hid hge5
        have HF6 := Lib.hid hF6
        clear hO6 hX6 hown' hG hgrow hblk hge5 hF6 hB6
        go_wp2
        refine plan_one rfl ?_
        have hneX : bX ≠ bO := Hlt.out.1
        have hneP : p ≠ bO := fun h => by have := Hlt.out.2.2.2; have := HbO.out; omega
        have hset : Frm (fun b => b = bO) W6 (W6.setCell ⟨bO, 0, none⟩ (.slice (some ⟨g2, 0, none⟩) (j + 1) capN)) := (Frm.refl (fun b => b = bO) W6).setCell (a := ⟨bO, 0, none⟩) (fun _ => rfl) _
        go_wp2
        refine ⟨?_, plan_done ?_⟩
        · have hB7 := HB.out.frm (HF6.out.trans hset (fun b hb h => by have := HbO.out; omega)) (fun h => h) (fun h => h) (fun _ _ h => h) (fun _ _ h => h)
          have gK7 := GMap.look1 hB7.map Try.underlying34 Try.underlying66 Try.underlying3 (zero_int _) s hwf
          rw [hgs] at gK7
          exact gK7
        have hlt := Hlt.out
        have hsW : W2.heap.size ≤ W5.heap.size := by rw [HW5.out]; show W2.heap.size ≤ (W2.alloc _).heap.size; simp
        have hF5 : ∀ (i : Nat) (o : Obj), W2.heap[i]? = some o → W5.heap[i]? = some o := fun i o h => by rw [HW5.out]; exact alloc_old h _
        have hG := HG.out
        refine (⟨⟨?_, ?_⟩, ?_, ?_⟩ : KeepsFrom _ _ _ ∧ _ ∧ _)
        · have := hG.size
          show W2.heap.size ≤ (W6.setCell _ _).heap.size
          simp [World.setCell]
          omega
        · intro i o hi ho hnc
          have h5 := hF5 i o ho
          have h6' := hG.heap h5 (fun h => by
            rcases Hown5.out.2 with hh | ⟨g', c, cur, hv, _, hc, _⟩
            · rw [hh.1] at h; cases h
            · rw [hv] at h
              have e : g' = i := by injection h
              subst e
              rw [hc] at h5
              injection h5 with h5
              rw [← h5] at hnc
              cases hnc)
          exact set_other h6' (show i ≠ bO by omega) _
        · intro b hb A t f hA
          have h2' := hW2.cells hA
          have h5 := hF5 b _ h2'
          have h6' := hG.heap h5 (fun h => by have := Hge5.out _ h; have := (hlt.2.2.1 b hb).1; omega)
          exact set_other h6' (show b ≠ bO from (hlt.2.2.1 b hb).2) _
        · refine ⟨_, set_same HO6.out 0 _, ?_, ?_, ?_, ?_⟩
          · rw [Hm.out]
            refine own_frm (SlW.snoc ?_) hset (fun b hb h => by have hb' := own_some hb; omega)
            rw [show ((wl g xs).take j).length = j by simp [wl]; omega]
            exact Hown6.out
          · exact set_other HX6.out hneX _
          · exact HF6.out.trans hset (fun b hb h => by have := HbO.out; omega)
          · have := hG.size
            show w3.heap.size ≤ (W6.setCell _ _).heap.size
            simp [World.setCell]
            omega
      · go_wp2
        refine ⟨HaF.out, ?_⟩
        rw [← HW5.out]
        obtain ⟨gX5, g45, gK5⟩ := HK5.out
        have gO5 := cell_at HO5.out (o := 0) rfl
        refine plan_one rfl ?_
        go_wp2
        refine plan_one rfl ?_
        refine wpList_append2 _ rfl _ _ 26 rfl w3.heap.size 50 i0 (.agg #[.int .u32 0, .int .i64 0]) 2 16 Try.underlying26 hi hz0 hz1 hz2 rfl (by decide) _ _ _ rfl Hown5.out ⟨W2.heap.size, 0, none⟩ 1 1 [.int .u32 s, .int .i64 c] rfl rfl HnewC.out (two_cell_w s c) (by unfold maxLen; omega) (by omega) (by omega) ?_
        intro v' W6 hown' hgrow hblk
        obtain ⟨g2, capN, hv'⟩ : ∃ g2 capN, v' = .slice (some ⟨g2, 0, none⟩) (j + 1) capN := by
          rcases hown'.2 with h | ⟨g, c, cur, hv, _⟩
          · exact absurd h.2 (by omega)
          · exact ⟨g, c, hv⟩
        subst hv'
        have hG : Frm (fun b => (Value.slice aO j capO).ownBlock = some b) W5 W6 := Frm.grown hgrow fun _ _ hb => hb
        have hge5 : ∀ b, (Value.slice aO j capO).ownBlock = some b → w3.heap.size ≤ b := fun b hb => own_ge Hown5.out hb
        have hlt := Hlt.out
        have hO6 := hG.heap HO5.out (fun h => by have := hge5 _ h; omega)
        have hX6 := hG.heap HX5.out (fun h => by have := hge5 _ h; omega)
        have gO6 := cell_at hO6 (o := 0) rfl
        have rO6 := free_at hO6 0
        have gX6 := cell_at hX6 (o := 0) rfl
        have hF6 : Frm (fun _ => False) w W6 := HF5.out.trans hG (fun b hb h => by have := hge5 _ h; have := Hlt.out.2.2.2; omega)
        have hB6 := HB.out.frm hF6 (fun h => h) (fun h => h) (fun _ _ h => h) (fun _ _ h => h)
        have g46 := cell_at hB6.box (o := 4) rfl
        have gK6 := GMap.look1 hB6.map Try.underlying34 Try.underlying66 Try.underlying3 (zero_int _) s hwf
        rw [hgs] at gK6
        have hg2 : w3.heap.size ≤ g2 := own_ge hown' rfl
        have HO6 := Lib.hid hO6
        have HX6 := Lib.hid hX6
        have Hown6 := Lib.hid hown'
        have HG := Lib.hid hG
        have Hge5 := Lib.hid hge5
        have HF6 := Lib.hid hF6
        clear hO6 hX6 hown' hG hgrow hblk hge5 hF6 hB6
        go_wp2
        refine plan_one rfl ?_
        have hneX : bX ≠ bO := Hlt.out.1
        have hneP : p ≠ bO := fun h => by have := Hlt.out.2.2.2; have := HbO.out; omega
        have hset : Frm (fun b => b = bO) W6 (W6.setCell ⟨bO, 0, none⟩ (.slice (some ⟨g2, 0, none⟩) (j + 1) capN)) := (Frm.refl (fun b => b = bO) W6).setCell (a := ⟨bO, 0, none⟩) (fun _ => rfl) _
        go_wp2
        refine ⟨?_, plan_done ?_⟩
        · have hB7 := HB.out.frm (HF6.out.trans hset (fun b hb h => by have := HbO.out; omega)) (fun h => h) (fun h => h) (fun _ _ h => h) (fun _ _ h => h)
          have gK7 := GMap.look1 hB7.map Try.underlying34 Try.underlying66 Try.underlying3 (zero_int _) s hwf
          rw [hgs] at gK7
          exact gK7
        have hlt := Hlt.out
        have hsW : W2.heap.size ≤ W5.heap.size := by rw [HW5.out]; show W2.heap.size ≤ (W2.alloc _).heap.size; simp
        have hF5 : ∀ (i : Nat) (o : Obj), W2.heap[i]? = some o → W5.heap[i]? = some o := fun i o h => by rw [HW5.out]; exact alloc_old h _
        have hG := HG.out
        refine (⟨⟨?_, ?_⟩, ?_, ?_⟩ : KeepsFrom _ _ _ ∧ _ ∧ _)
        · have := hG.size
          show W2.heap.size ≤ (W6.setCell _ _).heap.size
          simp [World.setCell]
          omega
        · intro i o hi ho hnc
          have h5 := hF5 i o ho
          have h6' := hG.heap h5 (fun h => by
            rcases Hown5.out.2 with hh | ⟨g', c, cur, hv, _, hc, _⟩
            · rw [hh.1] at h; cases h
            · rw [hv] at h
              have e : g' = i := by injection h
              subst e
              rw [hc] at h5
              injection h5 with h5
              rw [← h5] at hnc
              cases hnc)
          exact set_other h6' (show i ≠ bO by omega) _
        · intro b hb A t f hA
          have h2' := hW2.cells hA
          have h5 := hF5 b _ h2'
          have h6' := hG.heap h5 (fun h => by have := Hge5.out _ h; have := (hlt.2.2.1 b hb).1; omega)
          exact set_other h6' (show b ≠ bO from (hlt.2.2.1 b hb).2) _
        · refine ⟨_, set_same HO6.out 0 _, ?_, ?_, ?_, ?_⟩
          · rw [Hm.out]
            refine own_frm (SlW.snoc ?_) hset (fun b hb h => by have hb' := own_some hb; omega)
            rw [show ((wl g xs).take j).length = j by simp [wl]; omega]
            exact Hown6.out
          · exact set_other HX6.out hneX _
          · exact HF6.out.trans hset (fun b hb h => by have := HbO.out; omega)
          · have := hG.size
            show w3.heap.size ≤ (W6.setCell _ _).heap.size
            simp [World.setCell]
            omega
    case hdone =>
      rintro D W hD ⟨vO, h1, h2, h3, h5, h6⟩ hDd
      rw [← wl_length g xs, List.take_length] at h2
      have gO := cell_at h1 (o := 0) rfl
      simp only []
      go_wp2
      refine bodyPostM_ret (B := D) [D] rfl (by simp) (fun D' hD' => by simp at hD'; subst hD'; exact ⟨Nat.le_refl _, hDd⟩) (fun W' => results_tmp rfl _ _ _) (fun W' hb => ?_)
      exact ⟨vO, rfl, own_base (hb.owns h2) hsz3, hb.frm h5 (by omega)⟩

theorem segList0 (H : SegF w fp p n P Q g lim) : Calls Try.prog 18 #[.pointer (some ⟨p, 0, none⟩), .int .i64 0] w (ListPost w (wl g P)) := by
  have H' := H
  obtain ⟨q0, q1, bM, fp0, fp1, hfp, H⟩ := H
  exact segList_in H' 0 0 (.inl ⟨rfl, rfl⟩) q0 fp0 P (cell_at H.box (o := 0) rfl) H.l0 (fun x hx => (H.dom x).2 (.inl hx))
theorem segList1 (H : SegF w fp p n P Q g lim) : Calls Try.prog 18 #[.pointer (some ⟨p, 0, none⟩), .int .i64 1] w (ListPost w (wl g Q)) := by
  have H' := H
  obtain ⟨q0, q1, bM, fp0, fp1, hfp, H⟩ := H
  exact segList_in H' 1 1 (.inr ⟨rfl, rfl⟩) q1 fp1 Q (cell_at H.box (o := 1) rfl) H.l1 (fun x hx => (H.dom x).2 (.inr hx))
end
end Go.Proofs.Ytogidmjilbpacaa
