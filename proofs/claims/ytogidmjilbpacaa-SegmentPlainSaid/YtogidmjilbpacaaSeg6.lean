/- Layer 16: New, Add, Use, Remove, Limit. -/
import Derived.Test.YtogidmjilbpacaaSeg5
namespace Go.Proofs.Ytogidmjilbpacaa
open Go.RowKit Go.Cub

section
variable {w w1 : World} {p q0 q1 bM n : Nat} {fp fp0 fp1 P Q : List Nat} {g : Nat → Option Int} {lim : Int}

theorem segF_check_ok (H : SegF w fp p n P Q g lim) (s : Nat) (c : Int) (hs : s < 4194304) (hc : 0 ≤ c ∧ c ≤ 1099511627776) :
    Calls Try.prog 39 #[.pointer (some ⟨p, 0, none⟩), .int .u32 s, .int .i64 c] w fun e w' => e = .returned (.int .i64 0) ∧ w = w' := by
  obtain ⟨q0, q1, bM, fp0, fp1, rfl, H⟩ := H
  exact segCheck_ok H s c hs hc
theorem segF_check_arg (H : SegF w fp p n P Q g lim) (s : Nat) (c : Int) (h : 4194304 ≤ s ∨ c < 0 ∨ 1099511627776 < c) :
    Calls Try.prog 39 #[.pointer (some ⟨p, 0, none⟩), .int .u32 s, .int .i64 c] w fun e w' => e = .returned (.int .i64 2) ∧ w = w' := by
  obtain ⟨q0, q1, bM, fp0, fp1, rfl, H⟩ := H
  exact segCheck_arg H s c h

def SNewPost (w : World) (lim : Int) (e : Ending) (w' : World) : Prop :=
  ∃ p fp, e = .returned (.tuple #[.pointer (some ⟨p, 0, none⟩), .int .i64 0]) ∧ SegF w' fp p 0 [] [] (fun _ => none) lim ∧ (∀ b ∈ fp, w.heap.size ≤ b) ∧ Frm (fun _ => False) w w'

set_option maxRecDepth 100000 in
set_option maxHeartbeats 1000000 in
theorem segNew_calls {w : World} (lim : Int) (h : -1 ≤ lim ∧ lim ≤ 1099511627776) : Calls Try.prog 8 #[.int .i64 lim] w (SNewPost w lim) := by
  have d1 : decide (lim < -1) = false := by rw [decide_eq_false_iff_not]; omega
  have d2 : decide ((1099511627776 : Int) < lim) = false := by rw [decide_eq_false_iff_not]; omega
  have Hl := Lib.hid h
  clear h
  have hmm := @run_makeMap Try.prog
  go_enter Try.func8, Try.ntmps8
  go_wp2_with (go_at_call 20; refine lruNew_calls.mono ?_)
  rintro e w1 ⟨q0, fp0, rfl, hL0, hg0, hf1⟩
  go_wp2_with (go_at_call 20; refine lruNew_calls.mono ?_)
  rintro e w2 ⟨q1, fp1, rfl, hL1, hg1, hf2⟩
  go_wp2
  go_ret2
  have hs1 := hf1.size
  have hs2 := hf2.size
  have h0 := hL0.lt
  have h1 := hL1.lt
  have hL0' := (hL0.frm hf2 (fun _ _ h => h))
  have hA : Frm (fun _ => False) w2 ((w2.alloc (.map #[] 0)).alloc (.cells #[.pointer (some ⟨q0, 0, none⟩), .pointer (some ⟨q1, 0, none⟩), .int .i64 0, .int .i64 0, .map (some w2.heap.size), .int .i64 lim] 68 (0, 0))) := ((Frm.refl _ w2).alloc _).alloc _
  refine ⟨_, (w2.heap.size + 1) :: w2.heap.size :: (fp0 ++ fp1), rfl, ⟨q0, q1, w2.heap.size, fp0, fp1, rfl, ?_⟩, ?_, (hf1.trans hf2 (fun _ _ h => h)).trans hA (fun _ _ h => h)⟩
  · refine ⟨?_, hL0'.frm hA (fun _ _ h => h), hL1.frm hA (fun _ _ h => h), (GMap.made _ _ _ _ _ _).alloc _, fun x => ?_, fun x hx => ?_, fun x c hx => ?_, fun h => ?_, fun h => ?_, by omega, fun h => ?_, fun h => ?_, fun b hb hb1 => ?_, by simp, by omega, Hl.out⟩
    · have := alloc_new (w2.alloc (.map #[] 0)) (.cells #[.pointer (some ⟨q0, 0, none⟩), .pointer (some ⟨q1, 0, none⟩), .int .i64 0, .int .i64 0, .map (some w2.heap.size), .int .i64 lim] 68 (0, 0))
      simpa [sumC] using this
    · simp
    · cases hx
    · cases hx
    · have := h0 _ h; omega
    · have := h1 _ h; omega
    · have := h0 _ h; omega
    · have := h1 _ h; omega
    · have := h0 _ hb; have := hg1 _ hb1; omega
  · intro b hb
    simp only [List.mem_cons, List.mem_append] at hb
    rcases hb with rfl | rfl | hb | hb
    · omega
    · omega
    · exact hg0 b hb
    · have := hg1 b hb; omega

set_option maxRecDepth 100000 in
theorem segNew_arg {w : World} (lim : Int) (h : lim < -1 ∨ 1099511627776 < lim) : Calls Try.prog 8 #[.int .i64 lim] w (fun e w' => e = .returned (.tuple #[.pointer none, .int .i64 2]) ∧ w = w') := by
  by_cases h1 : lim < -1
  · have d1 : decide (lim < -1) = true := decide_eq_true h1
    clear h
    go_enter Try.func8, Try.ntmps8
    go_wp2
    go_ret2
    exact ⟨rfl, rfl⟩
  · have d1 : decide (lim < -1) = false := decide_eq_false h1
    have d2 : decide ((1099511627776 : Int) < lim) = true := by rw [decide_eq_true_iff]; omega
    clear h h1
    go_enter Try.func8, Try.ntmps8
    go_wp2
    go_ret2
    exact ⟨rfl, rfl⟩

set_option maxRecDepth 100000 in
theorem segAdd_arg (H : SegF w fp p n P Q g lim) (s : Nat) (c : Int) (h : 4194304 ≤ s ∨ c < 0 ∨ 1099511627776 < c) :
    Calls Try.prog 14 #[.pointer (some ⟨p, 0, none⟩), .int .u32 s, .int .i64 c] w fun e w' => e = .returned (.int .i64 2) ∧ w = w' := by
  have HH := Lib.hid H
  have Hh := Lib.hid h
  clear H h
  go_enter Try.func14, Try.ntmps14
  go_wp2_with (go_at_call 39; refine (segF_check_arg HH.out s c Hh.out).mono ?_; rintro e w' ⟨rfl, rfl⟩)
  go_ret
  exact ⟨rfl, rfl⟩

set_option maxRecDepth 100000 in
theorem segAdd_busy (H : SegF w fp p n P Q g lim) (s : Nat) (c : Int) (hc : 0 ≤ c ∧ c ≤ 1099511627776) (c0 : Int) (hg : g s = some c0) :
    Calls Try.prog 14 #[.pointer (some ⟨p, 0, none⟩), .int .u32 s, .int .i64 c] w fun e w' => e = .returned (.int .i64 11) ∧ w = w' := by
  have hs := H.ok.slot s ((H.ok.dom s).1 (by rw [hg]; rfl))
  have hwf := wf_u32 hs
  have hc1 : (g s).getD 0 = c0 := by rw [hg]; rfl
  have hc2 : (g s).isSome = true := by rw [hg]; rfl
  have Hh := Lib.hid hs
  have Hc := Lib.hid hc
  obtain ⟨q0, q1, bM, fp0, fp1, rfl, H⟩ := H
  have g4 := cell_at H.box (o := 4) rfl
  have HH := Lib.hid H
  clear H hs hc hg
  go_enter Try.func14, Try.ntmps14
  go_wp2_with (first | (go_at_call 39; refine (segCheck_ok HH.out s c Hh.out Hc.out).mono ?_; rintro e w' ⟨rfl, rfl⟩) | (at_lookup; refine wpList_gmap_look _ rfl _ _ 66 rfl 34 3 .u32 .i64 Try.underlying34 Try.underlying66 Try.underlying3 (zero_int _) bM _ _ rfl HH.out.map s rfl hwf c0 true hc1 hc2 ?_))
  go_ret
  exact ⟨rfl, rfl⟩

set_option maxRecDepth 100000 in
theorem segAdd_ok (H : SegF w fp p n P Q g lim) (s : Nat) (hs : s < 4194304) (c : Int) (hc : 0 ≤ c ∧ c ≤ 1099511627776) (hg : g s = none) (hlen : P.length + Q.length < 1000) (hn : n < 1000000) :
    Calls Try.prog 14 #[.pointer (some ⟨p, 0, none⟩), .int .u32 s, .int .i64 c] w (GivesSeg w fp p (n + 1) (P ++ [s]) Q (upd g s (some c)) lim (.int .i64 0)) := by
  have hwf := wf_u32 hs
  have hc1 : (g s).getD 0 = 0 := by rw [hg]; rfl
  have hc2 : (g s).isSome = false := by rw [hg]; rfl
  have Hh := Lib.hid hs
  have Hc := Lib.hid hc
  have Hg := Lib.hid hg
  have Hlen := Lib.hid hlen
  have Hn := Lib.hid hn
  have HF := Lib.hid H
  obtain ⟨q0, q1, bM, fp0, fp1, hfp, H⟩ := H
  have g4 := cell_at H.box (o := 4) rfl
  have HH := Lib.hid H
  clear H hs hc hg hn hlen hfp
  go_enter Try.func14, Try.ntmps14
  go_wp2_with (first | (go_at_call 39; refine (segCheck_ok HH.out s c Hh.out Hc.out).mono ?_; rintro e w' ⟨rfl, rfl⟩) | (at_lookup; refine wpList_gmap_look _ rfl _ _ 66 rfl 34 3 .u32 .i64 Try.underlying34 Try.underlying66 Try.underlying3 (zero_int _) bM _ _ rfl HH.out.map s rfl hwf 0 false hc1 hc2 ?_) | (go_at_call 40; refine (segF_put0 HF.out s Hh.out c Hc.out Hg.out Hlen.out Hn.out).mono ?_))
  rintro e w1 ⟨rfl, h⟩
  go_wp2
  go_ret
  exact ⟨rfl, h⟩

set_option maxRecDepth 100000 in
theorem segRemove_arg (H : SegF w fp p n P Q g lim) (s : Nat) (h : 4194304 ≤ s) :
    Calls Try.prog 16 #[.pointer (some ⟨p, 0, none⟩), .int .u32 s] w fun e w' => e = .returned (.int .i64 2) ∧ w = w' := by
  have HH := Lib.hid H
  have Hh := Lib.hid h
  clear H h
  go_enter Try.func16, Try.ntmps16
  go_wp2_with (go_at_call 39; refine (segF_check_arg HH.out s 0 (.inl Hh.out)).mono ?_; rintro e w' ⟨rfl, rfl⟩)
  go_ret
  exact ⟨rfl, rfl⟩

set_option maxRecDepth 100000 in
theorem segRemove_none (H : SegF w fp p n P Q g lim) (s : Nat) (hs : s < 4194304) (hg : g s = none) :
    Calls Try.prog 16 #[.pointer (some ⟨p, 0, none⟩), .int .u32 s] w fun e w' => e = .returned (.int .i64 9) ∧ w = w' := by
  have HH := Lib.hid H
  have Hh := Lib.hid hs
  have Hg := Lib.hid hg
  clear H hs hg
  go_enter Try.func16, Try.ntmps16
  go_wp2_with (first | (go_at_call 39; refine (segF_check_ok HH.out s 0 Hh.out (by decide)).mono ?_; rintro e w' ⟨rfl, rfl⟩) | (go_at_call 41; refine (segF_take_none HH.out s Hh.out Hg.out).mono ?_; rintro e w' ⟨rfl, rfl⟩))
  go_ret
  exact ⟨rfl, rfl⟩

set_option maxRecDepth 100000 in
theorem segRemove_ok (H : SegF w fp p n P Q g lim) (s : Nat) (c : Int) (hg : g s = some c) :
    Calls Try.prog 16 #[.pointer (some ⟨p, 0, none⟩), .int .u32 s] w (fun e w' => e = .returned (.int .i64 0) ∧ SegF w' fp p n (P.erase s) (Q.erase s) (upd g s none) lim ∧ Frm (fun b => b ∈ fp) w w') := by
  have hs := H.ok.slot s ((H.ok.dom s).1 (by rw [hg]; rfl))
  have HH := Lib.hid H
  have Hh := Lib.hid hs
  have Hg := Lib.hid hg
  clear H hs hg
  go_enter Try.func16, Try.ntmps16
  go_wp2_with (first | (go_at_call 39; refine (segF_check_ok HH.out s 0 Hh.out (by decide)).mono ?_; rintro e w' ⟨rfl, rfl⟩) | (go_at_call 41; refine (segF_take HH.out s c Hg.out).mono ?_))
  rintro e w1 ⟨rfl, h⟩
  go_wp2
  go_ret
  exact ⟨rfl, h⟩

/-- What Use and Limit give: the slots that went, no error, and the list behind it. -/
def DemPostE (w : World) (fp : List Nat) (p n : Nat) (P Q : List Nat) (g : Nat → Option Int) (lim : Int) (e : Ending) (w' : World) : Prop :=
  ∃ v fp', e = .returned (.tuple #[v, .int .i64 0]) ∧ SlU w' w.heap.size v (Q.take (dn lim g Q)) ∧ SegF w' fp' p (n + dn lim g Q) (P ++ Q.take (dn lim g Q)) (Q.drop (dn lim g Q)) g lim ∧ Sub w fp fp' ∧ (∀ b, v.ownBlock = some b → b ∉ fp') ∧ Frm (fun b => b ∈ fp) w w'

set_option maxRecDepth 100000 in
theorem segLimit_arg (H : SegF w fp p n P Q g lim) (l : Int) (h : l < -1 ∨ 1099511627776 < l) :
    Calls Try.prog 17 #[.pointer (some ⟨p, 0, none⟩), .int .i64 l] w fun e w' => e = .returned (.tuple #[.slice none 0 0, .int .i64 2]) ∧ w = w' := by
  have HH := Lib.hid H
  by_cases h1 : l < -1
  · have d1 : decide (l < -1) = true := decide_eq_true h1
    clear h H
    go_enter Try.func17, Try.ntmps17
    go_wp2_with (go_at_call 39; refine (segF_check_ok HH.out 0 0 (by decide) (by decide)).mono ?_; rintro e w' ⟨rfl, rfl⟩)
    go_ret2
    exact ⟨rfl, rfl⟩
  · have d1 : decide (l < -1) = false := decide_eq_false h1
    have d2 : decide ((1099511627776 : Int) < l) = true := by rw [decide_eq_true_iff]; omega
    clear h H h1
    go_enter Try.func17, Try.ntmps17
    go_wp2_with (go_at_call 39; refine (segF_check_ok HH.out 0 0 (by decide) (by decide)).mono ?_; rintro e w' ⟨rfl, rfl⟩)
    go_ret2
    exact ⟨rfl, rfl⟩

set_option maxRecDepth 100000 in
set_option maxHeartbeats 1000000 in
theorem segLimit_ok (H : SegF w fp p n P Q g lim) (l : Int) (h : -1 ≤ l ∧ l ≤ 1099511627776) (hn : n + Q.length ≤ 1000000) :
    Calls Try.prog 17 #[.pointer (some ⟨p, 0, none⟩), .int .i64 l] w (DemPostE w fp p n P Q g l) := by
  have HH := Lib.hid H
  have d1 : decide (l < -1) = false := by rw [decide_eq_false_iff_not]; omega
  have d2 : decide ((1099511627776 : Int) < l) = false := by rw [decide_eq_false_iff_not]; omega
  have Hl := Lib.hid h
  have Hn := Lib.hid hn
  have Hp := Lib.hid H.self
  obtain ⟨q0, q1, bM, fp0, fp1, hfp, H⟩ := H
  have r5 := free_at H.box 5
  have g5 := cell_at H.box (o := 5) rfl
  have HB := Lib.hid H
  have Hfp := Lib.hid hfp
  clear h H hn hfp
  go_enter Try.func17, Try.ntmps17
  go_wp2_with (go_at_call 39; refine (segF_check_ok HH.out 0 0 (by decide) (by decide)).mono ?_; rintro e w' ⟨rfl, rfl⟩)
  obtain ⟨w2, hw2⟩ : ∃ w2, w2 = w.setCell ⟨p, 5, none⟩ (.int .i64 l) := ⟨_, rfl⟩
  rw [← hw2]
  have hf2 : Frm (fun b => b = p) w w2 := by rw [hw2]; exact (Frm.refl (fun b => b = p) w).setCell (a := ⟨p, 5, none⟩) (fun _ => rfl) _
  have hF2 : SegF w2 fp p n P Q g l := by
    have B := HB.out
    refine ⟨q0, q1, bM, fp0, fp1, Hfp.out, ?_, B.l0.frm hf2 (fun b hb h => B.a0 (by rw [← h]; exact hb)), B.l1.frm hf2 (fun b hb h => B.a1 (by rw [← h]; exact hb)), B.map.frm hf2 B.a2.symm, B.dom, B.dis, B.cost, B.a0, B.a1, B.a2, B.a3, B.a4, B.a5, B.len, B.cnt, Hl.out⟩
    rw [hw2]
    exact set_same B.box 5 _
  have HF2 := Lib.hid hF2
  have Hf2 := Lib.hid hf2
  clear hw2 hF2 hf2 g5 r5
  go_wp2_with (go_at_call 42; refine (demote_calls HF2.out Hn.out).mono ?_)
  rintro e w3 ⟨v, fp3, rfl, h1, h2, h3, h4, h5⟩
  go_wp2
  go_ret2
  have hs := Hf2.out.size
  exact ⟨v, fp3, rfl, own_base h1 hs, h2, (Sub.refl w fp).trans hs h3, h4, (Hf2.out.mono (T := fun b => b ∈ fp) (fun b _ h => by subst h; exact Hp.out)).trans h5 (fun _ _ h => h)⟩

set_option maxRecDepth 100000 in
theorem segUse_arg (H : SegF w fp p n P Q g lim) (s : Nat) (c : Int) (h : 4194304 ≤ s ∨ c < 0 ∨ 1099511627776 < c) :
    Calls Try.prog 15 #[.pointer (some ⟨p, 0, none⟩), .int .u32 s, .int .i64 c] w fun e w' => e = .returned (.tuple #[.slice none 0 0, .int .i64 2]) ∧ w = w' := by
  have HH := Lib.hid H
  have Hh := Lib.hid h
  clear H h
  go_enter Try.func15, Try.ntmps15
  go_wp2_with (go_at_call 39; refine (segF_check_arg HH.out s c Hh.out).mono ?_; rintro e w' ⟨rfl, rfl⟩)
  go_ret2
  exact ⟨rfl, rfl⟩

set_option maxRecDepth 100000 in
theorem segUse_none (H : SegF w fp p n P Q g lim) (s : Nat) (hs : s < 4194304) (c : Int) (hc : 0 ≤ c ∧ c ≤ 1099511627776) (hg : g s = none) :
    Calls Try.prog 15 #[.pointer (some ⟨p, 0, none⟩), .int .u32 s, .int .i64 c] w fun e w' => e = .returned (.tuple #[.slice none 0 0, .int .i64 9]) ∧ w = w' := by
  have HH := Lib.hid H
  have Hh := Lib.hid hs
  have Hc := Lib.hid hc
  have Hg := Lib.hid hg
  clear H hs hg hc
  go_enter Try.func15, Try.ntmps15
  go_wp2_with (first | (go_at_call 39; refine (segF_check_ok HH.out s c Hh.out Hc.out).mono ?_; rintro e w' ⟨rfl, rfl⟩) | (go_at_call 41; refine (segF_take_none HH.out s Hh.out Hg.out).mono ?_; rintro e w' ⟨rfl, rfl⟩))
  go_ret2
  exact ⟨rfl, rfl⟩

/-- the lists of an order in which a slot was used, before the demoting -/
def useP (lim : Int) (P : List Nat) (s : Nat) : List Nat := if lim = -1 then P.erase s ++ [s] else P.erase s
def useQ (lim : Int) (Q : List Nat) (s : Nat) : List Nat := if lim = -1 then Q.erase s else Q.erase s ++ [s]

theorem upd_upd (g : Nat → Option Int) (s : Nat) (a b : Option Int) : upd (upd g s a) s b = upd g s b := by
  funext x
  by_cases e : x = s
  · subst e; rw [upd_same, upd_same]
  · rw [upd_ne _ _ e, upd_ne _ _ e, upd_ne _ _ e]

set_option maxRecDepth 100000 in
set_option maxHeartbeats 1000000 in
theorem segUse_ok (H : SegF w fp p n P Q g lim) (s : Nat) (c : Int) (hc : 0 ≤ c ∧ c ≤ 1099511627776) (c0 : Int) (hg : g s = some c0) (hn : n + Q.length + 2 ≤ 1000000) :
    Calls Try.prog 15 #[.pointer (some ⟨p, 0, none⟩), .int .u32 s, .int .i64 c] w (DemPostE w fp p (n + 1) (useP lim P s) (useQ lim Q s) (upd g s (some c)) lim) := by
  have hok := H.ok
  have hm := (hok.dom s).1 (by rw [hg]; rfl)
  have hs := hok.slot s hm
  have hlt : (P.erase s).length + (Q.erase s).length < 1000 := by
    have h1 := List.length_erase_le (a := s) (l := P)
    have h2 := List.length_erase_le (a := s) (l := Q)
    have := hok.len
    rcases hm with hm | hm
    · have := List.length_erase_of_mem hm; have := List.length_pos_of_mem hm; omega
    · have := List.length_erase_of_mem hm; have := List.length_pos_of_mem hm; omega
  have hQl := List.length_erase_le (a := s) (l := Q)
  have HH := Lib.hid H
  have Hh := Lib.hid hs
  have Hc := Lib.hid hc
  have Hg := Lib.hid hg
  have Hn := Lib.hid hn
  have Hlt := Lib.hid hlt
  have HQl := Lib.hid hQl
  clear H hs hg hc hn hok hlt hm hQl
  by_cases hl : lim = -1
  · subst hl
    go_enter Try.func15, Try.ntmps15
    go_wp2_with (first | (go_at_call 39; refine (segF_check_ok HH.out s c Hh.out Hc.out).mono ?_; rintro e w' ⟨rfl, rfl⟩) | (go_at_call 41; refine (segF_take HH.out s c0 Hg.out).mono ?_))
    rintro e w1 ⟨rfl, hF1, hf1⟩
    obtain ⟨q0, q1, bM, fp0, fp1, hfp, B⟩ := hF1
    have g5 := cell_at B.box (o := 5) rfl
    have HF1 := Lib.hid (show SegF w1 fp p n (P.erase s) (Q.erase s) (upd g s none) (-1) from ⟨q0, q1, bM, fp0, fp1, hfp, B⟩)
    have Hf1 := Lib.hid hf1
    clear B hfp hf1
    go_wp2_with (go_at_call 40; refine (segF_put0 HF1.out s Hh.out c Hc.out (upd_same _ _ _) Hlt.out (by have := Hn.out; omega)).mono ?_)
    rintro e w2 ⟨rfl, fp2, hF2, hs2, hf2⟩
    rw [upd_upd] at hF2
    have HF2 := Lib.hid hF2
    have Hf2 := Lib.hid (Hf1.out.trans hf2 (fun _ _ h => h))
    have Hs2 := Lib.hid ((Sub.refl w fp).trans Hf1.out.size hs2)
    clear hF2 hs2 hf2 g5
    go_wp2_with (go_at_call 42; refine (demote_calls HF2.out (by have := Hn.out; have := HQl.out; omega)).mono ?_)
    rintro e w3 ⟨v, fp3, rfl, h1, h2, h3, h4, h5⟩
    go_wp2
    go_ret2
    have hsz := Hf2.out.size
    unfold DemPostE
    rw [show useP (-1) P s = P.erase s ++ [s] from if_pos rfl, show useQ (-1) Q s = Q.erase s from if_pos rfl]
    exact ⟨v, fp3, rfl, own_base h1 hsz, h2, Hs2.out.trans hsz h3, h4, Hf2.out.trans h5 (fun b hb h => by
      rcases Hs2.out b h with h | h
      · exact h
      · omega)⟩
  · have hb : (lim == -1) = false := by simpa using hl
    go_enter Try.func15, Try.ntmps15
    go_wp2_with (first | (go_at_call 39; refine (segF_check_ok HH.out s c Hh.out Hc.out).mono ?_; rintro e w' ⟨rfl, rfl⟩) | (go_at_call 41; refine (segF_take HH.out s c0 Hg.out).mono ?_))
    rintro e w1 ⟨rfl, hF1, hf1⟩
    obtain ⟨q0, q1, bM, fp0, fp1, hfp, B⟩ := hF1
    have g5 := cell_at B.box (o := 5) rfl
    have HF1 := Lib.hid (show SegF w1 fp p n (P.erase s) (Q.erase s) (upd g s none) lim from ⟨q0, q1, bM, fp0, fp1, hfp, B⟩)
    have Hf1 := Lib.hid hf1
    clear B hfp hf1
    go_wp2_with (go_at_call 40; refine (segF_put1 HF1.out s Hh.out c Hc.out (upd_same _ _ _) Hlt.out (by have := Hn.out; omega)).mono ?_)
    rintro e w2 ⟨rfl, fp2, hF2, hs2, hf2⟩
    rw [upd_upd] at hF2
    have HF2 := Lib.hid hF2
    have Hf2 := Lib.hid (Hf1.out.trans hf2 (fun _ _ h => h))
    have Hs2 := Lib.hid ((Sub.refl w fp).trans Hf1.out.size hs2)
    clear hF2 hs2 hf2 g5
    go_wp2_with (go_at_call 42; refine (demote_calls HF2.out (by have := Hn.out; have := HQl.out; simp; omega)).mono ?_)
    rintro e w3 ⟨v, fp3, rfl, h1, h2, h3, h4, h5⟩
    go_wp2
    go_ret2
    have hsz := Hf2.out.size
    unfold DemPostE
    rw [show useP lim P s = P.erase s from if_neg hl, show useQ lim Q s = Q.erase s ++ [s] from if_neg hl]
    exact ⟨v, fp3, rfl, own_base h1 hsz, h2, Hs2.out.trans hsz h3, h4, Hf2.out.trans h5 (fun b hb h => by
      rcases Hs2.out b h with h | h
      · exact h
      · omega)⟩
end
end Go.Proofs.Ytogidmjilbpacaa
