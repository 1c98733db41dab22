/- Layer 15: a plain LRU list in memory; its functions. -/
import Derived.Test.YtogidmjilbpacaaLk10
import Derived.Test.YtogidmjilbpacaaLk8
namespace Go.Proofs.Ytogidmjilbpacaa
open Go.RowKit Go.Cub

/-- A list xs at q (blocks q, p, bF, bL). -/
structure LruB (w : World) (q p bF bL nd : Nat) (xs : List Nat) : Prop where
  box : w.heap[q]? = some (.cells #[.pointer (some ⟨p, 0, none⟩)] 91 (0, 0))
  lk : Lk w p bF bL nd 1 (fun _ => xs)
  m1 : q ≠ p
  m2 : q ≠ bF
  m3 : q ≠ bL
  ge : 1 ≤ nd

/-- .. its blocks are those of fp. -/
def LruF (w : World) (fp : List Nat) (q : Nat) (xs : List Nat) : Prop := ∃ p bF bL nd, fp = [q, p, bF, bL] ∧ LruB w q p bF bL nd xs

/-- The blocks fp' are among fp or new in w. -/
def Sub (w : World) (fp fp' : List Nat) : Prop := ∀ b ∈ fp', b ∈ fp ∨ w.heap.size ≤ b

section
variable {w w1 : World} {q p bF bL nd : Nat} {xs : List Nat} {fp : List Nat}
theorem LruB.frm {S : Nat → Prop} (h : LruB w q p bF bL nd xs) (hf : Frm S w w1) (h0 : ¬ S q) (h1 : ¬ S p) (h2 : ¬ S bF) (h3 : ¬ S bL) : LruB w1 q p bF bL nd xs :=
  ⟨hf.heap h.box h0, h.lk.frm hf h1 h2 h3, h.m1, h.m2, h.m3, h.ge⟩
theorem LruF.frm {S : Nat → Prop} (h : LruF w fp q xs) (hf : Frm S w w1) (hS : ∀ b ∈ fp, ¬ S b) : LruF w1 fp q xs := by
  obtain ⟨p, bF, bL, nd, rfl, h⟩ := h
  exact ⟨p, bF, bL, nd, rfl, h.frm hf (hS _ (by simp)) (hS _ (by simp)) (hS _ (by simp)) (hS _ (by simp))⟩
theorem LruF.lt (h : LruF w fp q xs) : ∀ b ∈ fp, b < w.heap.size := by
  obtain ⟨p, bF, bL, nd, rfl, h⟩ := h
  have := h.lk.lt
  intro b hb
  simp at hb
  rcases hb with rfl | rfl | rfl | rfl
  · exact lt_of_some h.box
  · exact this.1
  · exact this.2.1
  · exact this.2.2.1
theorem LruF.self (h : LruF w fp q xs) : q ∈ fp := by obtain ⟨p, bF, bL, nd, rfl, h⟩ := h; simp
theorem LruF.facts (h : LruF w fp q xs) : xs.Nodup ∧ (∀ x ∈ xs, x < 4194304) ∧ xs.length ≤ 4194304 := by
  obtain ⟨p, bF, bL, nd, rfl, h⟩ := h
  have h1 := h.lk.mem (i := 0) (by decide)
  have h2 := h.lk.lt.2.2.2.2.2.2.1
  exact ⟨h1.2.1, fun x hx => by have := h1.1 x hx; omega, by have := h1.2.2; omega⟩
theorem Lk.bk {hd : Nat} {L : Nat → List Nat} {B : Nat} (h : Lk w p bF bL nd hd L) (hb : Bk B w w1) : Lk w1 p bF bL nd hd L := by
  obtain ⟨c, l, ⟨⟨cF, cL, h0⟩, hF, hL, n1, n2, n3, b1, b2⟩, R⟩ := h
  exact ⟨c, l, ⟨⟨cF, cL, hb.cells h0⟩, hb.row hF, hb.row hL, n1, n2, n3, b1, b2⟩, R⟩
theorem LruF.bk {B : Nat} (h : LruF w fp q xs) (hb : Bk B w w1) : LruF w1 fp q xs := by
  obtain ⟨p, bF, bL, nd, rfl, h⟩ := h
  exact ⟨p, bF, bL, nd, rfl, hb.cells h.box, h.lk.bk hb, h.m1, h.m2, h.m3, h.ge⟩
end

theorem made_us (m : Nat) (hm : m ≤ 16777216) : ∃ Z : Array Value, (∀ w, (Instr.makeSlice 38 (.int .i64 (m : Int)) (.int .i64 (m : Int))).run Try.prog w = .ok (.slice (some ⟨w.heap.size, 0, none⟩) m m) (w.alloc (.cells Z 34 (0, 0)))) ∧
    ∀ o, o < m → Z[o]? = some (.int .u32 0) := by
  obtain ⟨i0, hi, hz0, hz1, hz2⟩ := info_parts info_u32
  refine ⟨madeCells #[.int .u32 0] (m * 1), fun w => ?_, fun o ho => ?_⟩
  · have := run_make (P := Try.prog) w 38 34 i0 _ Try.underlying38 hi hz0 .i64 .i64 m m (by omega) (by omega) (by rw [hz2]; omega) (by omega)
    rw [this, hz1]
    simp [Value.cells]
  · rw [Nat.mul_one]
    simp [madeCells, ho, Nat.mod_one]

def SamePost (w : World) (n : Nat) (e : Ending) (w' : World) : Prop := ∃ b, e = .returned (.slice (some ⟨b, 0, none⟩) n n) ∧ RowN w' b .u32 (fun i => i) n ∧ w.heap.size ≤ b ∧ Frm (fun _ => False) w w'

set_option maxHeartbeats 1000000 in
theorem same_calls {w : World} (n : Nat) (hn : n ≤ 4194304) : Calls Try.prog 70 #[.int .i64 n] w (SamePost w n) := by
  obtain ⟨Z, hZ, hz⟩ := made_us n (by omega)
  have Hz := Lib.hid hz
  clear hz
  obtain ⟨b, hb⟩ : ∃ b, b = w.heap.size := ⟨_, rfl⟩
  have Hb := Lib.hid hb
  go_enter Try.func70, Try.ntmps70
  go_wp2
  rw [← hb]
  clear hb
  go_loopw [9] (fun i wr => ∃ k : Nat, k ≤ n ∧ i = .int .i64 k ∧ (∃ c, RowN wr b .u32 c n ∧ ∀ j, j < k → c j = j) ∧ Frm (fun _ => False) w wr) (fun i _ => n - (intOf i).toNat)
  case atStart =>
    refine ⟨0, Nat.zero_le _, rfl, ⟨fun _ => 0, ⟨Z, _, by rw [Hb.out]; exact alloc_new _ _, Hz.out⟩, fun j hj => by omega⟩, (Frm.refl _ w).alloc _⟩
  case round =>
    obtain ⟨k, hk, rfl, ⟨c, hR, hc⟩, hfr⟩ := hrel
    rcases Nat.lt_or_ge k n with hlt | hge
    · have g0 := hR.cell hlt
      have r0 := hR.free
      have Hc := Lib.hid hc
      clear hc
      go_wp2
      generalize hw2 : World.setCell _ _ _ = w2
      have H2 : RowN w2 b .u32 (upd c k k) n := by rw [← hw2]; exact hR.set k k
      have R2 : Frm (fun _ => False) w w2 := by
        rw [← hw2]; exact hfr.setCell (fun h => by have := Hb.out; simp at h; omega) _
      clear hw2
      go_wp2
      go_roundw
      case rel =>
        refine ⟨k + 1, by omega, by go_num, ⟨_, H2, fun j hj => ?_⟩, R2⟩
        by_cases e : j = k
        · subst e; rw [upd_same]
        · rw [upd_ne _ _ e]; exact Hc.out j (by omega)
      case measure => simp [intOf]; omega
    · have hkn : k = n := by omega
      have Hkn := Lib.hid hkn
      clear hkn
      go_wp2
      go_ret
      exact ⟨b, rfl, hR.congr (fun o ho => hc o (by omega)), by rw [Hb.out]; exact Nat.le_refl _, hfr⟩
end Go.Proofs.Ytogidmjilbpacaa
