/- Layer 37: Distances. -/
import Derived.Test.YtbhnobjjpmmmnaaFen
import Derived.Test.YtbhnobjjpmmmnaaMap
import Derived.Test.YtbhnobjjpmmmnaaLk9
namespace Go.Proofs.Ytbhnobjjpmmmnaa
open Go.RowKit Go.Cub

/-- A slice of n numbers that may be read: of the call's own, or not. -/
def RdU (w : World) (v : Value) (n : Nat) (xs : Nat → Nat) : Prop :=
  ∃ a cap, v = .slice a n cap ∧ ∀ i, i < n → ∃ b off, a = some ⟨b, off, none⟩ ∧ w.cell? ⟨b, off + i, none⟩ = some (.int .u32 (xs i)) ∧ xs i < 4294967296
theorem RdU.frm {w w1 : World} {v : Value} {n : Nat} {xs : Nat → Nat} {S : Nat → Prop} (h : RdU w v n xs) (hf : Frm S w w1) (hS : ∀ b, b < w.heap.size → ¬ S b) : RdU w1 v n xs := by
  obtain ⟨a, cap, rfl, h⟩ := h
  refine ⟨a, cap, rfl, fun i hi => ?_⟩
  obtain ⟨b, off, rfl, h1, h2⟩ := h i hi
  refine ⟨b, off, rfl, ?_, h2⟩
  have hlt : b < w.heap.size := by
    cases hb : w.heap[b]? with
    | none => simp [World.cell?, hb] at h1
    | some o => exact lt_of_some hb
  rw [← h1]
  simp only [World.cell?, hf.block b hlt (hS b hlt)]

def lastOf (xs : Nat → Nat) : Nat → Nat → Option Nat
  | 0, _ => none
  | i + 1, x => if xs i = x then some i else lastOf xs i x
theorem lastOf_lt {xs : Nat → Nat} {x j : Nat} : ∀ {i}, lastOf xs i x = some j → j < i ∧ xs j = x
  | 0, h => by cases h
  | i + 1, h => by
    unfold lastOf at h
    split at h
    · injection h with h
      subst h
      exact ⟨by omega, by assumption⟩
    · have := lastOf_lt h
      exact ⟨by omega, this.2⟩

/-- 1 at the last requests of the keys so far -/
def mark (xs : Nat → Nat) (i j : Nat) : Int := if lastOf xs i (xs j) = some j then 1 else 0
def dist (xs : Nat → Nat) (i : Nat) : Int := match lastOf xs i (xs i) with
  | none => -1
  | some a => pre (mark xs i) i - pre (mark xs i) (a + 1)

theorem mark_zero (xs : Nat → Nat) : mark xs 0 = fun _ => 0 := by
  funext j
  simp [mark, lastOf]
theorem mark_new {xs : Nat → Nat} {i : Nat} (h : lastOf xs i (xs i) = none) : mark xs (i + 1) = upd (mark xs i) i (mark xs i i + 1) := by
  funext j
  by_cases e : j = i
  · subst e
    rw [upd_same]
    simp [mark, lastOf, h]
  · rw [upd_ne _ _ e]
    unfold mark
    by_cases h2 : xs i = xs j
    · rw [← h2, h]
      have e' : ¬ i = j := fun x => e x.symm
      simp [lastOf, e']
    · simp [lastOf, h2]
theorem mark_old {xs : Nat → Nat} {i a : Nat} (h : lastOf xs i (xs i) = some a) :
    mark xs (i + 1) = upd (upd (mark xs i) a (mark xs i a + -1)) i (upd (mark xs i) a (mark xs i a + -1) i + 1) := by
  obtain ⟨ha, hxa⟩ := lastOf_lt h
  have hai : i ≠ a := by omega
  have hmi : mark xs i i = 0 := by
    unfold mark
    rw [h, if_neg (by intro x; injection x with x; exact hai x.symm)]
  have hma : mark xs i a = 1 := by
    unfold mark
    rw [hxa, h, if_pos rfl]
  funext j
  by_cases e : j = i
  · subst e
    rw [upd_same, upd_ne _ _ hai, hmi]
    simp [mark, lastOf]
  · rw [upd_ne _ _ e]
    by_cases e2 : j = a
    · subst e2
      rw [upd_same, hma]
      unfold mark
      rw [hxa]
      simp [lastOf, hai]
    · rw [upd_ne _ _ e2]
      unfold mark
      by_cases h2 : xs i = xs j
      · rw [← h2, h]
        have e' : ¬ i = j := fun x => e x.symm
        have e2' : ¬ a = j := fun x => e2 x.symm
        simp [lastOf, e', e2']
      · simp [lastOf, h2]

theorem mark_bound (xs : Nat → Nat) (i : Nat) : ∀ j, 0 ≤ mark xs i j ∧ mark xs i j ≤ 1 ∧ (i ≤ j → mark xs i j = 0) := by
  intro j
  unfold mark
  by_cases h : lastOf xs i (xs j) = some j
  · rw [if_pos h]
    have := (lastOf_lt h).1
    exact ⟨by omega, by omega, fun h2 => by omega⟩
  · rw [if_neg h]
    exact ⟨by omega, by omega, fun _ => rfl⟩
theorem pre_bound (xs : Nat → Nat) (i : Nat) : ∀ j, 0 ≤ pre (mark xs i) j ∧ pre (mark xs i) j ≤ i ∧ pre (mark xs i) j ≤ j
  | 0 => by simp [pre]
  | j + 1 => by
    obtain ⟨h1, h2, h3⟩ := pre_bound xs i j
    obtain ⟨h4, h5, h6⟩ := mark_bound xs i j
    rw [pre]
    refine ⟨by omega, ?_, by omega⟩
    by_cases h : i ≤ j
    · rw [h6 h]; omega
    · omega
theorem pre_zero : ∀ j, pre (fun _ => 0) j = 0
  | 0 => rfl
  | j + 1 => by rw [pre, pre_zero j]; rfl

def bnd (c : Nat → Int) (B : Int) : Prop := ∀ j, -B ≤ c j ∧ c j ≤ B
theorem bnd_add {c : Nat → Int} {B : Int} (h : bnd c B) (a : Nat) (d : Int) (hd : -1 ≤ d ∧ d ≤ 1) : bnd (addC c a d) (B + 1) := by
  intro j
  have := h j
  unfold addC
  split <;> omega

theorem made_marks (m : Nat) (hm : m ≤ 16777216) : ∃ Z : Array Value, (∀ w, (Instr.makeSlice 48 (.int .i64 (m : Int)) (.int .i64 (m : Int))).run Try.prog w = .ok (.slice (some ⟨w.heap.size, 0, none⟩) m m) (w.alloc (.cells Z 3 (0, 0)))) ∧
    ∀ o, o < m → Z[o]? = some (.int .i64 0) := by
  obtain ⟨i0, hi, hz0, hz1, hz2⟩ := info_parts info_int
  refine ⟨madeCells #[.int .i64 0] (m * 1), fun w => ?_, fun o ho => ?_⟩
  · have := run_make (P := Try.prog) w 48 3 i0 _ Try.underlying48 hi hz0 .i64 .i64 m m (by omega) (by omega) (by rw [hz2]; omega) (by omega)
    rw [this, hz1]
    simp [Value.cells]
  · rw [Nat.mul_one]
    simp [madeCells, ho, Nat.mod_one]

def DistPost (w : World) (n : Nat) (xs : Nat → Nat) (e : Ending) (w' : World) : Prop :=
  ∃ b, e = .returned (.tuple #[.slice (some ⟨b, 0, none⟩) n n, .int .i64 0]) ∧ Row w' b .i64 (dist xs) n ∧ w.heap.size ≤ b ∧ Frm (fun _ => False) w w'

def GM (w : World) (b n : Nat) (g : Nat → Option Int) : Prop := GMap Try.prog 24 3 .u32 .i64 w b n g

set_option maxHeartbeats 2000000 in
theorem dist_long {w : World} {v : Value} {n : Nat} {xs : Nat → Nat} (H : RdU w v n xs) (hn : 4096 < n) (hn2 : n < 1000000) :
    Calls Try.prog 7 #[v] w fun e w' => e = .returned (.tuple #[.slice none 0 0, .int .i64 5]) ∧ w = w' := by
  obtain ⟨a, cap, rfl, -⟩ := H
  go_enter Try.func7, Try.ntmps7
  go_wp2
  first | go_ret | go_ret2
  exact ⟨rfl, rfl⟩

theorem zero_int (w : World) : (zeroValue 3).run Try.prog w = .ok (.int .i64 0) w := by kernel_rfl

def g37 (xs : Nat → Nat) (k : Nat) : Nat → Option Int := fun x => (lastOf xs k x).map (fun j => (j : Int))

/-- What the loop of Distances keeps. -/
structure DI (w : World) (n : Nat) (xs : Nat → Nat) (bO bM bT : Nat) (wr : World) (k : Nat) : Prop where
  out : ∃ c, Row wr bO .i64 c n ∧ ∀ j, j < k → c j = dist xs j
  tree : ∃ c, Row wr bT .i64 c (n + 1) ∧ Fen n c (mark xs k) ∧ bnd c (2 * k)
  map : GM wr bM k (g37 xs k)
  frm : Frm (fun _ => False) w wr

theorem g37_step (xs : Nat → Nat) (k : Nat) : upd (g37 xs k) (xs k) (some (k : Int)) = g37 xs (k + 1) := by
  funext x
  by_cases e : x = xs k
  · subst e
    rw [upd_same]
    simp [g37, lastOf]
  · rw [upd_ne _ _ e]
    have e' : ¬ xs k = x := fun h => e h.symm
    simp [g37, lastOf, e']

theorem u32_wf {x : Nat} (h : x < 4294967296) : (Lit.int .u32 (x : Int)).wf = true := by
  simp [Lit.wf, IntKind.min, IntKind.max, IntKind.signed, IntKind.bits]
  omega

theorem di_start (w : World) {n : Nat} (xs : Nat → Nat) {Z1 Z2 : Array Value} (h1 : ∀ o, o < n → Z1[o]? = some (Value.int .i64 0)) (h2 : ∀ o, o < n + 1 → Z2[o]? = some (Value.int .i64 0)) :
    DI w n xs w.heap.size (w.heap.size + 1) (w.heap.size + 1 + 1) (((w.alloc (Obj.cells Z1 3 (0, 0))).alloc (Obj.map #[] 0)).alloc (Obj.cells Z2 3 (0, 0))) 0 := by
  refine ⟨⟨fun _ => 0, ⟨Z1, 3, ?_, h1⟩, fun j hj => by omega⟩, ⟨fun _ => 0, ⟨Z2, 3, ?_, h2⟩, ?_, ?_⟩, ?_, ?_⟩
  · exact alloc_old (alloc_old (alloc_new _ _) _) _
  · have := alloc_new ((w.alloc (Obj.cells Z1 3 (0, 0))).alloc (Obj.map #[] 0)) (Obj.cells Z2 3 (0, 0))
    simpa using this
  · rw [mark_zero]
    intro j h1 h2
    rw [pre_zero, pre_zero]
    rfl
  · intro j
    simp
  · have := (GMap.made (w.alloc (Obj.cells Z1 3 (0, 0))) Try.prog 24 3 .u32 .i64).alloc (Obj.cells Z2 3 (0, 0))
    simp only [World.alloc, Array.size_push] at this
    exact this
  · exact (((Frm.refl _ w).alloc _).alloc _).alloc _

set_option maxHeartbeats 4000000 in
theorem dist_calls {w : World} {v : Value} {n : Nat} {xs : Nat → Nat} (H : RdU w v n xs) (hn : n ≤ 4096) : Calls Try.prog 7 #[v] w (DistPost w n xs) := by
  have HH := Lib.hid H
  obtain ⟨a, cap, rfl, -⟩ := H
  obtain ⟨Z1, hZ1, hz1⟩ := made_ints n (by omega)
  obtain ⟨Z2, hZ2, hz2⟩ := made_marks (n + 1) (by omega)
  rw [show ((n + 1 : Nat) : Int) = (n : Int) + 1 by omega] at hZ2
  have hmm := @run_makeMap Try.prog
  have Hz1 := Lib.hid hz1
  have Hz2 := Lib.hid hz2
  clear hz1 hz2
  go_enter Try.func7, Try.ntmps7
  go_wp2
  have H0 := di_start w xs Hz1.out Hz2.out
  obtain ⟨bT, hbT⟩ : ∃ b, b = w.heap.size + 1 + 1 := ⟨_, rfl⟩
  obtain ⟨bM, hbM⟩ : ∃ b, b = w.heap.size + 1 := ⟨_, rfl⟩
  obtain ⟨bO, hbO⟩ : ∃ b, b = w.heap.size := ⟨_, rfl⟩
  rw [← hbT, ← hbM, ← hbO] at H0
  rw [← hbT, ← hbM, ← hbO]
  have h12 : bO ≠ bM ∧ bO ≠ bT ∧ bM ≠ bT ∧ w.heap.size ≤ bO ∧ w.heap.size ≤ bM ∧ w.heap.size ≤ bT := by omega
  have H12 := Lib.hid h12
  have HI := Lib.hid H0
  clear hbT hbM hbO Hz1 Hz2 h12 H0
  generalize World.alloc (World.alloc (World.alloc _ _) _) _ = w0 at HI ⊢
  go_loopw [24] (fun i wr => ∃ k : Nat, k ≤ n ∧ i = .int .i64 k ∧ DI w n xs bO bM bT wr k) (fun i _ => n - (intOf i).toNat)
  case atStart => exact ⟨0, Nat.zero_le _, rfl, HI.out⟩
  case round =>
    obtain ⟨k, hk, rfl, hI⟩ := hrel
    rcases Nat.lt_or_ge k n with hlt | hge
    · obtain ⟨⟨cO, hO, hO2⟩, ⟨cT, hT, hF, hB⟩, hM, hfr⟩ := hI
      obtain ⟨a', cap', he, hin⟩ := HH.out.frm hfr (fun _ _ h => h)
      obtain ⟨b, off, ha', gx, hxk⟩ := hin k hlt
      injection he with e1 e2 e3
      subst e1
      subst ha'
      clear hin e2 e3
      have HO2 := Lib.hid hO2
      have HF := Lib.hid hF
      have HB := Lib.hid hB
      have HM := Lib.hid hM
      have HT := Lib.hid hT
      have hwf := u32_wf hxk
      have rO := hO.free
      have gO := hO.cell hlt
      have hkm : k < maxLen := by unfold maxLen; omega
      have hwk : (Lit.int .i64 (k : Int)).wf = true := by simp [Lit.wf, IntKind.min, IntKind.max, IntKind.signed, IntKind.bits]; omega
      clear hO2 hF hB hM hT
      cases hl : lastOf xs k (xs k) with
      | none =>
        have hc1 : (g37 xs k (xs k)).getD 0 = 0 := by simp [g37, hl]
        have hc2 : (g37 xs k (xs k)).isSome = false := by simp [g37, hl]
        have Hl := Lib.hid hl
        clear hl
        go_wp2_with (first | (at_lookup; refine wpList_gmap_look _ rfl _ _ 47 rfl 24 3 .u32 .i64 Try.underlying24 Try.underlying47 Try.underlying3 (zero_int _) bM _ _ rfl (HM.out.setCell H12.out.1.symm _) (xs k) rfl hwf 0 false hc1 hc2 ?_) | (go_at_call 23; refine (add_calls (HT.out.other H12.out.2.1.symm _) k hlt hn 1 (by decide) (fun j => by have := HB.out j; omega)).mono ?_))
        rintro e w2 ⟨rfl, hT2, hf2⟩
        have hd0 : dist xs k = -1 := by unfold dist; rw [Hl.out]
        have HM2 := Lib.hid ((HM.out.setCell (w := wr) H12.out.1.symm (.int .i64 (-1)) (a := ⟨bO, k, none⟩)).frm hf2 (fun h => H12.out.2.2.1 h))
        go_wp2_with (at_mapUpdate; refine wpList_gmap_put _ rfl _ _ _ 47 rfl 24 3 .u32 .i64 Try.underlying24 Try.underlying47 Try.underlying3 bM k _ rfl HM2.out hkm (xs k) (k : Int) rfl rfl hwf hwk ?_)
        intro w3 hM3 hf3
        have hI : DI w n xs bO bM bT w3 (k + 1) := by
          have h12 := H12.out
          refine ⟨⟨upd cO k (-1), ((hO.set k (-1)).frm hf2 h12.2.1).frm hf3 h12.1, fun j hj => ?_⟩, ⟨addC cT k 1, hT2.frm hf3 (fun h => h12.2.2.1 h.symm), ?_, ?_⟩, ?_, ?_⟩
          · by_cases e : j = k
            · subst e; rw [upd_same, hd0]
            · rw [upd_ne _ _ e]; exact HO2.out j (by omega)
          · rw [mark_new Hl.out]
            exact HF.out.add k 1
          · have := bnd_add HB.out k 1 (by decide)
            intro j
            have := this j
            omega
          · rw [← g37_step]
            exact hM3
          · refine ((hfr.setCell (a := ⟨bO, k, none⟩) (fun h => by simp at h; omega) (.int .i64 (-1))).trans hf2 (fun b hb h => by subst h; omega)).trans hf3 (fun b hb h => by subst h; omega)
        have HI2 := Lib.hid hI
        clear hI hM3 hf3 HM2 hT2 hf2
        go_wp2
        go_roundw
        case rel => exact ⟨k + 1, by omega, by go_num, HI2.out⟩
        case measure => simp only [intOf]; omega
      | some a =>
        have hc1 : (g37 xs k (xs k)).getD 0 = a := by simp [g37, hl]
        have hc2 : (g37 xs k (xs k)).isSome = true := by simp [g37, hl]
        have hak := (lastOf_lt hl).1
        have hd0 : dist xs k = pre (mark xs k) k - pre (mark xs k) (a + 1) := by unfold dist; rw [hl]
        have hp1 := pre_bound xs k k
        have hp2 := pre_bound xs k (a + 1)
        generalize hs1 : pre (mark xs k) k = s1 at hp1 hd0
        generalize hs2 : pre (mark xs k) (a + 1) = s2 at hp2 hd0
        have Hs1 := Lib.hid hs1
        have Hs2 := Lib.hid hs2
        have Hl := Lib.hid hl
        have Hd0 := Lib.hid hd0
        have ha1 : ((a : Int) + 1) = ((a + 1 : Nat) : Int) := by omega
        have Ha1 := Lib.hid ha1
        have HPB := Lib.hid (fun j => show -100000 ≤ pre (mark xs k) j ∧ pre (mark xs k) j ≤ 100000 by have := pre_bound xs k j; omega)
        clear hl hd0 hs1 hs2 ha1
        go_wp2_with (first | (at_lookup; refine wpList_gmap_look _ rfl _ _ 47 rfl 24 3 .u32 .i64 Try.underlying24 Try.underlying47 Try.underlying3 (zero_int _) bM _ _ rfl (HM.out.setCell H12.out.1.symm _) (xs k) rfl hwf a true hc1 hc2 ?_) | (go_at_call 22; refine (sum_calls (HT.out.other H12.out.2.1.symm _) HF.out k (Nat.le_of_lt hlt) hn HPB.out).mono ?_))
        rw [Hs1.out]
        rintro e w' ⟨rfl, rfl⟩
        go_wp2_with (go_at_call 22; rw [Ha1.out]; refine (sum_calls (HT.out.other H12.out.2.1.symm _) HF.out (a + 1) (by omega) hn HPB.out).mono ?_)
        rw [Hs2.out]
        rintro e w' ⟨rfl, rfl⟩
        generalize hw1 : World.setCell _ _ _ = w1
        have h12 := H12.out
        have HO1 : Row w1 bO .i64 (upd cO k (-1)) n := by rw [← hw1]; exact hO.set k (-1)
        have HT1 := Lib.hid (show Row w1 bT .i64 cT (n + 1) by rw [← hw1]; exact HT.out.other h12.2.1.symm _)
        have HM1 := Lib.hid (show GM w1 bM k (g37 xs k) by rw [← hw1]; exact HM.out.setCell h12.1.symm _)
        have HFr1 := Lib.hid (show Frm (fun _ => False) w w1 by rw [← hw1]; exact hfr.setCell (a := ⟨bO, k, none⟩) (fun h => by simp at h; omega) _)
        have g1 := HO1.cell hlt
        have r1 := HO1.free
        rw [upd_same] at g1
        clear h12 hw1 hfr gO rO hO HT HM
        go_wp2_with (go_at_call 23; generalize hw2 : World.setCell _ _ _ = w2; refine (add_calls (show Row w2 bT .i64 cT (n + 1) by rw [← hw2]; exact HT1.out.other H12.out.2.1.symm _) a (by omega) hn (-1) (by decide) (fun j => by have := HB.out j; omega)).mono ?_)
        have h12 := H12.out
        have HO2' : Row w2 bO .i64 (upd (upd cO k (-1)) k (s1 - s2)) n := by rw [← hw2]; exact HO1.set k (s1 - s2)
        have HM2 := Lib.hid (show GM w2 bM k (g37 xs k) by rw [← hw2]; exact HM1.out.setCell h12.1.symm _)
        have HFr2 := Lib.hid (show Frm (fun _ => False) w w2 by rw [← hw2]; exact HFr1.out.setCell (a := ⟨bO, k, none⟩) (fun h => by simp at h; omega) _)
        have HO2' := Lib.hid HO2'
        clear hw2 h12 g1 r1
        rintro e w3 ⟨rfl, hT3, hf3⟩
        have HB3 := Lib.hid (bnd_add HB.out a (-1) (by decide))
        have HT3 := Lib.hid hT3
        have HF3 := Lib.hid hf3
        clear hT3 hf3
        go_wp2_with (go_at_call 23; refine (add_calls HT3.out k hlt hn 1 (by decide) (fun j => by have := HB3.out j; omega)).mono ?_)
        rintro e w4 ⟨rfl, hT4, hf4⟩
        have HM4 := Lib.hid ((HM2.out.frm HF3.out (fun h => H12.out.2.2.1 h)).frm hf4 (fun h => H12.out.2.2.1 h))
        go_wp2_with (at_mapUpdate; refine wpList_gmap_put _ rfl _ _ _ 47 rfl 24 3 .u32 .i64 Try.underlying24 Try.underlying47 Try.underlying3 bM k _ rfl HM4.out hkm (xs k) (k : Int) rfl rfl hwf hwk ?_)
        intro w5 hM5 hf5
        have hI : DI w n xs bO bM bT w5 (k + 1) := by
          have h12 := H12.out
          refine ⟨⟨_, (((HO2'.out).frm HF3.out h12.2.1).frm hf4 h12.2.1).frm hf5 h12.1, fun j hj => ?_⟩, ⟨addC (addC cT a (-1)) k 1, hT4.frm hf5 (fun h => h12.2.2.1 h.symm), ?_, ?_⟩, ?_, ?_⟩
          · by_cases e : j = k
            · subst e; rw [upd_same, Hd0.out]
            · rw [upd_ne _ _ e, upd_ne _ _ e]; exact HO2.out j (by omega)
          · rw [mark_old Hl.out]
            exact (HF.out.add a (-1)).add k 1
          · have := bnd_add HB3.out k 1 (by decide)
            intro j
            have := this j
            omega
          · rw [← g37_step]
            exact hM5
          · exact ((HFr2.out.trans HF3.out (fun b hb h => by subst h; omega)).trans hf4 (fun b hb h => by subst h; omega)).trans hf5 (fun b hb h => by subst h; omega)
        have HI2 := Lib.hid hI
        clear hI hM5 hf5 HM4 hT4 hf4
        go_wp2
        go_roundw
        case rel => exact ⟨k + 1, by omega, by go_num, HI2.out⟩
        case measure => simp only [intOf]; omega
    · have hkn : k = n := by omega
      subst hkn
      go_wp2
      first | go_ret | go_ret2
      obtain ⟨⟨c, h1, h2⟩, -, -, h3⟩ := hI
      exact ⟨bO, rfl, h1.congr h2, H12.out.2.2.2.1, h3⟩
end Go.Proofs.Ytbhnobjjpmmmnaa
