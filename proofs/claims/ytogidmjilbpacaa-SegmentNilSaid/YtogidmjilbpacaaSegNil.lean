/- SegmentNil: the results for nil and zero orders. -/
import Derived.Test.YtogidmjilbpacaaSegLaw2
import Derived.Test.YtogidmjilbpacaaSegKnown
namespace Go.Proofs.Ytogidmjilbpacaa
open Go.RowKit Go.Cub

/-- nil, or the address of a zero order -/
def NilSeg (w : World) (v : Value) : Prop :=
  ∃ o : Option Nat, v = .pointer (o.map fun b => ⟨b, 0, none⟩) ∧ ∀ b, o = some b → w.heap[b]? = some (.cells #[.pointer none, .pointer none, .int .i64 0, .int .i64 0, .map none, .int .i64 0] 68 (0, 0))
theorem NilSeg.frm {w w1 : World} {v : Value} (h : NilSeg w v) (hf : Frm (fun _ => False) w w1) : NilSeg w1 v := by
  obtain ⟨o, rfl, h⟩ := h
  exact ⟨o, rfl, fun b hb => hf.heap (h b hb) (fun h => h)⟩

section
variable {w : World} {v : Value}

set_option maxRecDepth 100000 in
theorem nilCheck (H : NilSeg w v) (s : Int) (c : Int) : Calls Try.prog 39 #[v, .int .u32 s, .int .i64 c] w fun e w' => e = .returned (.int .i64 1) ∧ w = w' := by
  obtain ⟨o, rfl, h⟩ := H
  cases o with
  | none =>
    clear h
    simp only [Option.map_none]
    go_enter Try.func39, Try.ntmps39
    go_wp2
    go_ret
    exact ⟨rfl, rfl⟩
  | some b =>
    have h4 := cell_at (h b rfl) (o := 4) rfl
    clear h
    simp only [Option.map_some]
    go_enter Try.func39, Try.ntmps39
    go_wp2
    go_ret
    exact ⟨rfl, rfl⟩

theorem nilAdd (H : NilSeg w v) (s : Int) (c : Int) : Calls Try.prog 14 #[v, .int .u32 s, .int .i64 c] w fun e w' => e = .returned (.int .i64 1) ∧ w = w' := by
  have HH := Lib.hid H
  clear H
  go_enter Try.func14, Try.ntmps14
  go_wp2_with (go_at_call 39; refine (nilCheck HH.out s c).mono ?_; rintro e w' ⟨rfl, rfl⟩)
  go_ret
  exact ⟨rfl, rfl⟩
theorem nilUse (H : NilSeg w v) (s : Int) (c : Int) : Calls Try.prog 15 #[v, .int .u32 s, .int .i64 c] w fun e w' => e = .returned (.tuple #[.slice none 0 0, .int .i64 1]) ∧ w = w' := by
  have HH := Lib.hid H
  clear H
  go_enter Try.func15, Try.ntmps15
  go_wp2_with (go_at_call 39; refine (nilCheck HH.out s c).mono ?_; rintro e w' ⟨rfl, rfl⟩)
  go_ret2
  exact ⟨rfl, rfl⟩
theorem nilRemove (H : NilSeg w v) (s : Int) : Calls Try.prog 16 #[v, .int .u32 s] w fun e w' => e = .returned (.int .i64 1) ∧ w = w' := by
  have HH := Lib.hid H
  clear H
  go_enter Try.func16, Try.ntmps16
  go_wp2_with (go_at_call 39; refine (nilCheck HH.out s 0).mono ?_; rintro e w' ⟨rfl, rfl⟩)
  go_ret
  exact ⟨rfl, rfl⟩
theorem nilLimit (H : NilSeg w v) (c : Int) : Calls Try.prog 17 #[v, .int .i64 c] w fun e w' => e = .returned (.tuple #[.slice none 0 0, .int .i64 1]) ∧ w = w' := by
  have HH := Lib.hid H
  clear H
  go_enter Try.func17, Try.ntmps17
  go_wp2_with (go_at_call 39; refine (nilCheck HH.out 0 0).mono ?_; rintro e w' ⟨rfl, rfl⟩)
  go_ret2
  exact ⟨rfl, rfl⟩
theorem nilOf (H : NilSeg w v) (s : Int) : Calls Try.prog 57 #[v, .int .u32 s] w fun e w' => e = .returned (.tuple #[.int .i64 0, .int .i64 0, .int .i64 1]) ∧ w = w' := by
  have HH := Lib.hid H
  clear H
  go_enter Try.func57, Try.ntmps57
  go_wp2_with (go_at_call 39; refine (nilCheck HH.out s 0).mono ?_; rintro e w' ⟨rfl, rfl⟩)
  go_ret3
  exact ⟨rfl, rfl⟩
theorem nilHas (H : NilSeg w v) (k : Int) : Calls Try.prog 37 #[v, .int .i64 k] w fun e w' => e = .returned (.bool false) ∧ w = w' := by
  have HH := Lib.hid H
  clear H
  go_enter Try.func37, Try.ntmps37
  go_wp2_with (go_at_call 39; refine (nilCheck HH.out 0 0).mono ?_; rintro e w' ⟨rfl, rfl⟩)
  go_ret
  exact ⟨rfl, rfl⟩
theorem nilCost (H : NilSeg w v) (k : Int) : Calls Try.prog 19 #[v, .int .i64 k] w fun e w' => e = .returned (.int .i64 0) ∧ w = w' := by
  have HH := Lib.hid H
  clear H
  go_enter Try.func19, Try.ntmps19
  go_wp2_with (go_at_call 37; refine (nilHas HH.out k).mono ?_; rintro e w' ⟨rfl, rfl⟩)
  go_ret
  exact ⟨rfl, rfl⟩
theorem nilLen (H : NilSeg w v) (k : Int) : Calls Try.prog 13 #[v, .int .i64 k] w fun e w' => e = .returned (.int .i64 0) ∧ w = w' := by
  have HH := Lib.hid H
  clear H
  go_enter Try.func13, Try.ntmps13
  go_wp2_with (go_at_call 37; refine (nilHas HH.out k).mono ?_; rintro e w' ⟨rfl, rfl⟩)
  go_ret
  exact ⟨rfl, rfl⟩
theorem nilList (H : NilSeg w v) (k : Int) : Calls Try.prog 18 #[v, .int .i64 k] w fun e w' => e = .returned (.slice none 0 0) ∧ Frm (fun _ => False) w w' := by
  have HH := Lib.hid H
  obtain ⟨o, rfl, -⟩ := H
  go_enter Try.func18, Try.ntmps18
  go_wp2_with (go_at_call 37; refine (nilHas (HH.out.frm ((Frm.refl (fun _ => False) w).alloc _)) k).mono ?_; rintro e w' ⟨rfl, rfl⟩)
  go_ret
  exact ⟨rfl, (Frm.refl _ w).alloc _⟩
theorem nilCopy (H : NilSeg w v) : Calls Try.prog 31 #[v] w fun e w' => e = .returned (.pointer none) ∧ w = w' := by
  have HH := Lib.hid H
  clear H
  go_enter Try.func31, Try.ntmps31
  go_wp2_with (go_at_call 39; refine (nilCheck HH.out 0 0).mono ?_; rintro e w' ⟨rfl, rfl⟩)
  go_ret
  exact ⟨rfl, rfl⟩
theorem nilRenumber (H : NilSeg w v) : Calls Try.prog 30 #[v, .slice none 0 0] w fun e w' => e = .returned (.int .i64 1) ∧ Frm (fun _ => False) w w' := by
  have HH := Lib.hid H
  obtain ⟨o, rfl, -⟩ := H
  have hal : ∀ o1 o2 o3, Frm (fun _ => False) w (((w.alloc o1).alloc o2).alloc o3) := fun o1 o2 o3 => (((Frm.refl _ w).alloc _).alloc _).alloc _
  go_enter Try.func30, Try.ntmps30
  go_wp2_with (go_at_call 39; refine (nilCheck (HH.out.frm (hal _ _ _)) 0 0).mono ?_; rintro e w' ⟨rfl, rfl⟩)
  refine bodyPost_ret (v := .int .i64 1) ?_ rfl ?_
  · simp [results, Try.f30, loadVar, go_sem]
  · exact ⟨rfl, hal _ _ _⟩
theorem nilUses (H : NilSeg w v) (s c : Int) : Calls Try.prog 27 #[v, .int .u32 s, .int .i64 c, .slice none 0 0, .int .i64 1] w (TrueSame w) := by
  have HU := Lib.hid (nilUse H s c)
  clear H
  go_enter Try.func27, Try.ntmps27
  go_wp2_with (first | (go_at_call 15; refine HU.out.mono ?_; rintro e w' ⟨rfl, rfl⟩) | (go_at_call 23; refine (same15_calls (RU.nil _ _ _) (RU.nil _ _ _) (by decide)).mono ?_))
  rintro e w2 ⟨rfl, hf2⟩
  go_wp2
  go_ret
  exact ⟨rfl, hf2⟩
theorem nilLimits (H : NilSeg w v) (c : Int) : Calls Try.prog 28 #[v, .int .i64 c, .slice none 0 0, .int .i64 1] w (TrueSame w) := by
  have HU := Lib.hid (nilLimit H c)
  clear H
  go_enter Try.func28, Try.ntmps28
  go_wp2_with (first | (go_at_call 17; refine HU.out.mono ?_; rintro e w' ⟨rfl, rfl⟩) | (go_at_call 23; refine (same15_calls (RU.nil _ _ _) (RU.nil _ _ _) (by decide)).mono ?_))
  rintro e w2 ⟨rfl, hf2⟩
  go_wp2
  go_ret
  exact ⟨rfl, hf2⟩
theorem nilStands (H : NilSeg w v) (s : Int) : Calls Try.prog 29 #[v, .int .u32 s, .int .i64 0, .int .i64 0, .int .i64 1] w fun e w' => e = .returned (.bool true) ∧ w = w' := by
  have HU := Lib.hid (nilOf H s)
  clear H
  go_enter Try.func29, Try.ntmps29
  go_wp2_with (go_at_call 57; refine HU.out.mono ?_; rintro e w' ⟨rfl, rfl⟩)
  go_ret
  exact ⟨rfl, rfl⟩
end

set_option maxRecDepth 100000 in
set_option maxHeartbeats 8000000 in
theorem segmentNil_calls {w : World} (s c : Int) : Calls Try.prog 7 #[.int .u32 s, .int .i64 c] w (TrueSame w) := by
  obtain ⟨B, hB⟩ : ∃ B, B = w.heap.size := ⟨_, rfl⟩
  have HB := Lib.hid hB
  go_enter Try.func7, Try.ntmps7
  go_wp2
  rw [← hB]
  clear hB
  have hs : ∀ o1 o2, ((w.alloc o1).alloc o2).heap[B + 1]? = some o2 := fun o1 o2 => by rw [HB.out]; have := alloc_new (w.alloc o1) o2; simpa using this
  have hz : ∀ o1 o2, ((w.alloc o1).alloc o2).heap[B]? = some o1 := fun o1 o2 => by rw [HB.out]; exact alloc_old (alloc_new _ _) _
  have hA : ∀ o1 o2, Frm (fun _ => False) w ((w.alloc o1).alloc o2) := fun o1 o2 => ((Frm.refl _ w).alloc _).alloc _
  generalize hw1 : World.alloc (World.alloc w _) _ = w1
  have h1 : w1.heap[B + 1]? = some (.cells #[.pointer none, .pointer (some ⟨B, 0, none⟩)] 22 (0, 0)) := by rw [← hw1]; exact hs _ _
  have h0 : w1.heap[B]? = some (.cells #[.pointer none, .pointer none, .int .i64 0, .int .i64 0, .map none, .int .i64 0] 68 (0, 0)) := by rw [← hw1]; exact hz _ _
  have hf1 : Frm (fun _ => False) w w1 := by rw [← hw1]; exact hA _ _
  have H1 := Lib.hid h1
  have H0 := Lib.hid h0
  have Hf1 := Lib.hid hf1
  clear hs hz hA hw1 h1 h0 hf1 HB
  go_loopw [11] (fun i wr => ∃ k : Nat, k ≤ 2 ∧ i = .int .i64 k ∧ Frm (fun _ => False) w1 wr) (fun i _ => 2 - (intOf i).toNat)
  case atStart => exact ⟨0, by omega, rfl, Frm.refl _ _⟩
  case round =>
    obtain ⟨k, hk, rfl, hf⟩ := hrel
    have Hf := Lib.hid hf
    have hb1 := hf.heap H1.out (fun h => h)
    have hb0 := hf.heap H0.out (fun h => h)
    have hk3 : k = 0 ∨ k = 1 ∨ k = 2 := by omega
    have g0 := cell_at hb1 (o := 0) rfl
    have g1 := cell_at hb1 (o := 1) rfl
    have Hb0 := Lib.hid hb0
    clear hf hb1 hb0
    rcases hk3 with rfl | rfl | rfl
    · have HN := Lib.hid (show NilSeg wr (.pointer none) from ⟨none, rfl, fun b hb => by cases hb⟩)
      have HU := Lib.hid (nilUses HN.out s c)
      go_wp2_with (first | (go_at_call 14; refine (nilAdd HN.out s c).mono ?_; rintro e w' ⟨rfl, rfl⟩) | (go_at_call 27; refine HU.out.mono ?_))
      rintro e w2 ⟨rfl, hf2⟩
      have HN2 := Lib.hid (HN.out.frm hf2)
      have HR2 := Lib.hid (nilRemove HN2.out s)
      have HL2 := Lib.hid (nilLimits HN2.out c)
      have Hf2 := Lib.hid (Hf.out.trans hf2 (fun _ _ h => h))
      clear hf2 HU
      go_wp2_with (first | (go_at_call 16; refine HR2.out.mono ?_; rintro e w' ⟨rfl, rfl⟩) | (go_at_call 28; refine HL2.out.mono ?_))
      rintro e w3 ⟨rfl, hf3⟩
      have HN3 := Lib.hid (HN2.out.frm hf3)
      have HO3 := Lib.hid (nilStands HN3.out s)
      have HL3 := Lib.hid (nilList HN3.out 0)
      have Hf3 := Lib.hid (Hf2.out.trans hf3 (fun _ _ h => h))
      clear hf3 HR2 HL2 HN2 Hf2
      go_wp2_with (first | (go_at_call 29; refine HO3.out.mono ?_; rintro e w' ⟨rfl, rfl⟩) | (go_at_call 18; refine HL3.out.mono ?_))
      rintro e w4 ⟨rfl, hf4⟩
      have HN4 := Lib.hid (HN3.out.frm hf4)
      have HC4 := Lib.hid (nilCost HN4.out 0)
      have HL4 := Lib.hid (nilLen HN4.out 0)
      have HR4 := Lib.hid (nilRenumber HN4.out)
      have Hf4 := Lib.hid (Hf3.out.trans hf4 (fun _ _ h => h))
      clear hf4 HO3 HL3 HN3 Hf3
      go_wp2_with (first | (go_at_call 19; refine HC4.out.mono ?_; rintro e w' ⟨rfl, rfl⟩) | (go_at_call 13; refine HL4.out.mono ?_; rintro e w' ⟨rfl, rfl⟩) | (go_at_call 30; refine HR4.out.mono ?_))
      rintro e w5 ⟨rfl, hf5⟩
      have HN5 := Lib.hid (HN4.out.frm hf5)
      have HC5 := Lib.hid (nilCopy HN5.out)
      have Hf3 := Lib.hid (Hf4.out.trans hf5 (fun _ _ h => h))
      clear hf5 HC4 HL4 HR4 HN4 Hf4
      go_wp2_with (go_at_call 31; refine HC5.out.mono ?_; rintro e w' ⟨rfl, rfl⟩)
      go_roundw
      case rel => exact ⟨1, by omega, rfl, Hf3.out⟩
      case measure => simp only [intOf]; omega
    · have HN := Lib.hid (show NilSeg wr (.pointer (some ⟨B, 0, none⟩)) from ⟨some B, rfl, fun b hb => by injection hb with hb; subst hb; exact Hb0.out⟩)
      have HU := Lib.hid (nilUses HN.out s c)
      go_wp2_with (first | (go_at_call 14; refine (nilAdd HN.out s c).mono ?_; rintro e w' ⟨rfl, rfl⟩) | (go_at_call 27; refine HU.out.mono ?_))
      rintro e w2 ⟨rfl, hf2⟩
      have HN2 := Lib.hid (HN.out.frm hf2)
      have HR2 := Lib.hid (nilRemove HN2.out s)
      have HL2 := Lib.hid (nilLimits HN2.out c)
      have Hf2 := Lib.hid (Hf.out.trans hf2 (fun _ _ h => h))
      clear hf2 HU
      go_wp2_with (first | (go_at_call 16; refine HR2.out.mono ?_; rintro e w' ⟨rfl, rfl⟩) | (go_at_call 28; refine HL2.out.mono ?_))
      rintro e w3 ⟨rfl, hf3⟩
      have HN3 := Lib.hid (HN2.out.frm hf3)
      have HO3 := Lib.hid (nilStands HN3.out s)
      have HL3 := Lib.hid (nilList HN3.out 0)
      have Hf3 := Lib.hid (Hf2.out.trans hf3 (fun _ _ h => h))
      clear hf3 HR2 HL2 HN2 Hf2
      go_wp2_with (first | (go_at_call 29; refine HO3.out.mono ?_; rintro e w' ⟨rfl, rfl⟩) | (go_at_call 18; refine HL3.out.mono ?_))
      rintro e w4 ⟨rfl, hf4⟩
      have HN4 := Lib.hid (HN3.out.frm hf4)
      have HC4 := Lib.hid (nilCost HN4.out 0)
      have HL4 := Lib.hid (nilLen HN4.out 0)
      have HR4 := Lib.hid (nilRenumber HN4.out)
      have Hf4 := Lib.hid (Hf3.out.trans hf4 (fun _ _ h => h))
      clear hf4 HO3 HL3 HN3 Hf3
      go_wp2_with (first | (go_at_call 19; refine HC4.out.mono ?_; rintro e w' ⟨rfl, rfl⟩) | (go_at_call 13; refine HL4.out.mono ?_; rintro e w' ⟨rfl, rfl⟩) | (go_at_call 30; refine HR4.out.mono ?_))
      rintro e w5 ⟨rfl, hf5⟩
      have HN5 := Lib.hid (HN4.out.frm hf5)
      have HC5 := Lib.hid (nilCopy HN5.out)
      have Hf3 := Lib.hid (Hf4.out.trans hf5 (fun _ _ h => h))
      clear hf5 HC4 HL4 HR4 HN4 Hf4
      go_wp2_with (go_at_call 31; refine HC5.out.mono ?_; rintro e w' ⟨rfl, rfl⟩)
      go_roundw
      case rel => exact ⟨2, by omega, rfl, Hf3.out⟩
      case measure => simp only [intOf]; omega
    · clear g0 g1
      go_wp2_with (go_at_call 10; refine known_calls.mono ?_)
      rintro e w2 ⟨rfl, hf2⟩
      go_wp2
      go_ret
      exact ⟨rfl, (Hf1.out.trans Hf.out (fun _ _ h => h)).trans hf2 (fun _ _ h => h)⟩
end Go.Proofs.Ytogidmjilbpacaa
