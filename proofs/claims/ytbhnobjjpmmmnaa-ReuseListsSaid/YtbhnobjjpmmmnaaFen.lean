/- Layer 37: marks (a Fenwick tree). -/
import Derived.Test.YtbhnobjjpmmmnaaFacts
import Derived.Deep.LoopGhost
import Derived.Lib.QuoteBits
namespace Go.Proofs.Ytbhnobjjpmmmnaa
open Go.RowKit Go.Cub

/-- sums of the first numbers -/
def pre (f : Nat → Int) : Nat → Int
  | 0 => 0
  | n + 1 => pre f n + f n

def low (i : Nat) : Nat := if i = 0 then 0 else if i % 2 = 1 then 1 else 2 * low (i / 2)
termination_by i
decreasing_by omega

theorem low_odd (m : Nat) : low (2 * m + 1) = 1 := by rw [low]; simp
theorem low_even (m : Nat) (h : 0 < m) : low (2 * m) = 2 * low m := by
  rw [low]
  have h1 : ¬ 2 * m = 0 := by omega
  have h2 : ¬ 2 * m % 2 = 1 := by omega
  have h3 : 2 * m / 2 = m := by omega
  rw [if_neg h1, if_neg h2, h3]
theorem low_pos : ∀ i, 0 < i → 1 ≤ low i ∧ low i ≤ i := by
  intro i
  induction i using Nat.strongRecOn with
  | ind i ih =>
    intro hi
    rcases Nat.mod_two_eq_zero_or_one i with h | h
    · obtain ⟨m, rfl⟩ : ∃ m, i = 2 * m := ⟨i / 2, by omega⟩
      have := ih m (by omega) (by omega)
      rw [low_even m (by omega)]
      omega
    · obtain ⟨m, rfl⟩ : ∃ m, i = 2 * m + 1 := ⟨i / 2, by omega⟩
      rw [low_odd]
      omega
theorem low_next : ∀ i, 0 < i → 2 * low i ≤ low (i + low i) := by
  intro i
  induction i using Nat.strongRecOn with
  | ind i ih =>
    intro hi
    rcases Nat.mod_two_eq_zero_or_one i with h | h
    · obtain ⟨m, rfl⟩ : ∃ m, i = 2 * m := ⟨i / 2, by omega⟩
      have := ih m (by omega) (by omega)
      rw [low_even m (by omega), show 2 * m + 2 * low m = 2 * (m + low m) by omega, low_even _ (by omega)]
      omega
    · obtain ⟨m, rfl⟩ : ∃ m, i = 2 * m + 1 := ⟨i / 2, by omega⟩
      rw [low_odd, show 2 * m + 1 + 1 = 2 * (m + 1) by omega, low_even _ (by omega)]
      have := low_pos (m + 1) (by omega)
      omega
theorem low_between : ∀ i j, 0 < i → i < j → j < i + low i → low j + i ≤ j := by
  intro i
  induction i using Nat.strongRecOn with
  | ind i ih =>
    intro j hi h1 h2
    rcases Nat.mod_two_eq_zero_or_one i with h | h
    · obtain ⟨m, rfl⟩ : ∃ m, i = 2 * m := ⟨i / 2, by omega⟩
      rw [low_even m (by omega)] at h2
      rcases Nat.mod_two_eq_zero_or_one j with hj | hj
      · obtain ⟨t, rfl⟩ : ∃ m, j = 2 * m := ⟨j / 2, by omega⟩
        have := ih m (by omega) t (by omega) (by omega) (by omega)
        rw [low_even t (by omega)]
        omega
      · obtain ⟨t, rfl⟩ : ∃ m, j = 2 * m + 1 := ⟨j / 2, by omega⟩
        rw [low_odd]
        omega
    · obtain ⟨m, rfl⟩ : ∃ m, i = 2 * m + 1 := ⟨i / 2, by omega⟩
      rw [low_odd] at h2
      omega

theorem and_low : ∀ n k : Nat, 0 < k → k < 2 ^ n → k &&& (2 ^ n - k) = low k := by
  intro n
  induction n with
  | zero => intro k h1 h2; simp at h2; omega
  | succ n ih =>
    intro k h1 h2
    have hd := @Nat.and_div_two k (2 ^ (n + 1) - k)
    have hm := @Nat.and_mod_two_eq_one k (2 ^ (n + 1) - k)
    have hp : 2 ^ (n + 1) = 2 * 2 ^ n := by rw [Nat.pow_succ]; omega
    rw [hp] at hd hm h2 ⊢
    rcases Nat.mod_two_eq_zero_or_one k with h | h
    · obtain ⟨m, rfl⟩ : ∃ m, k = 2 * m := ⟨k / 2, by omega⟩
      have e1 : 2 * m / 2 = m := by omega
      have e2 : (2 * 2 ^ n - 2 * m) / 2 = 2 ^ n - m := by omega
      rw [e1, e2, ih m (by omega) (by omega)] at hd
      rw [low_even m (by omega)]
      omega
    · obtain ⟨m, rfl⟩ : ∃ m, k = 2 * m + 1 := ⟨k / 2, by omega⟩
      have e1 : (2 * m + 1) / 2 = m := by omega
      have e2 : (2 * 2 ^ n - (2 * m + 1)) / 2 = 2 ^ n - (m + 1) := by omega
      have e3 : m &&& (2 ^ n - (m + 1)) = 0 := by
        apply Nat.eq_of_testBit_eq
        intro i
        rw [Nat.testBit_and, Nat.testBit_two_pow_sub_succ (by omega)]
        cases m.testBit i <;> simp
      rw [e1, e2, e3] at hd
      rw [low_odd]
      omega

theorem bits_low (k : Nat) (h0 : 0 < k) (h : k < 4611686018427387904) : bits BinOp.and IntKind.i64 (k : Int) (-(k : Int)) = (low k : Int) := by
  show IntKind.i64.wrap ((BitVec.ofInt 64 (k : Int) &&& BitVec.ofInt 64 (-(k : Int))).toNat : Int) = _
  have e : (BitVec.ofInt 64 (-(k : Int))).toNat = 2 ^ 64 - k := by
    rw [BitVec.toNat_ofInt]
    omega
  have hl := low_pos k h0
  rw [BitVec.toNat_and, ofInt_u64 k (by omega), e, and_low 64 k h0 (by omega)]
  exact Go.Lib.wrap_i64_small _ (by omega)

/-- the index j of the tree holds the number at a -/
def Cov (j a : Nat) : Prop := j - low j ≤ a ∧ a < j
instance (j a : Nat) : Decidable (Cov j a) := by unfold Cov; infer_instance

theorem cov_start (a : Nat) : Cov (a + 1) a := by
  have := low_pos (a + 1) (by omega)
  unfold Cov
  omega
theorem cov_next {i a : Nat} (hi : 0 < i) (h : Cov i a) : Cov (i + low i) a := by
  have := low_pos i hi
  have := low_next i hi
  unfold Cov at *
  omega
theorem cov_skip {i j a : Nat} (hi : 0 < i) (h : Cov i a) (h1 : i < j) (h2 : j < i + low i) : ¬ Cov j a := by
  have := low_between i j hi h1 h2
  unfold Cov at *
  omega

def Fen (n : Nat) (c mk : Nat → Int) : Prop := ∀ j, 1 ≤ j → j ≤ n → c j = pre mk j - pre mk (j - low j)

theorem pre_upd (mk : Nat → Int) (a : Nat) (d : Int) : ∀ j, pre (upd mk a (mk a + d)) j = pre mk j + (if a < j then d else 0)
  | 0 => by simp [pre]
  | j + 1 => by
    rw [pre, pre_upd mk a d j, pre]
    by_cases h : j = a
    · subst h
      rw [upd_same, if_neg (by omega), if_pos (by omega)]
      omega
    · rw [upd_ne _ _ h]
      by_cases h2 : a < j
      · rw [if_pos h2, if_pos (by omega)]; omega
      · rw [if_neg h2, if_neg (by omega)]; omega

/-- what adding d at a makes of the tree -/
def addC (c : Nat → Int) (a : Nat) (d : Int) : Nat → Int := fun j => if Cov j a then c j + d else c j

theorem Fen.add {n : Nat} {c mk : Nat → Int} (h : Fen n c mk) (a : Nat) (d : Int) : Fen n (addC c a d) (upd mk a (mk a + d)) := by
  intro j h1 h2
  rw [pre_upd, pre_upd]
  have h0 := h j h1 h2
  have := low_pos j h1
  by_cases e1 : a < j
  · by_cases e2 : j - low j ≤ a
    · rw [show addC c a d j = c j + d from if_pos (show Cov j a from ⟨e2, e1⟩), if_pos e1, if_neg (by omega)]; omega
    · rw [show addC c a d j = c j from if_neg (fun (x : Cov j a) => e2 x.1), if_pos e1, if_pos (by omega)]; omega
  · rw [show addC c a d j = c j from if_neg (fun (x : Cov j a) => e1 x.2), if_neg e1, if_neg (by omega)]; omega

set_option maxHeartbeats 1000000 in
theorem sum_calls {w : World} {b n : Nat} {c mk : Nat → Int} (H : Row w b .i64 c (n + 1)) (hF : Fen n c mk) (at_ : Nat) (ha : at_ ≤ n) (hn : n ≤ 4096) (hb : ∀ j, -100000 ≤ pre mk j ∧ pre mk j ≤ 100000) :
    Calls Try.prog 22 #[.slice (some ⟨b, 0, none⟩) (n + 1 : Nat) (n + 1 : Nat), .int .i64 at_] w fun e w' => e = .returned (.int .i64 (pre mk at_)) ∧ w = w' := by
  have HF := Lib.hid hF
  have HB := Lib.hid hb
  clear hF hb
  go_enter Try.func22, Try.ntmps22
  go_wp2
  go_loopw [5, 6] (fun x i wr => ∃ k : Nat, k ≤ at_ ∧ i = .int .i64 k ∧ x = .int .i64 (pre mk at_ - pre mk k) ∧ wr = w) (fun _ i _ => (intOf i).toNat)
  case atStart =>
    exact ⟨at_, Nat.le_refl _, rfl, by congr 1; omega, rfl⟩
  case round =>
    obtain ⟨k, hk, rfl, rfl, rfl⟩ := hrel
    rcases Nat.lt_or_ge 0 k with hlt | hge
    · have g0 := H.cell (o := k) (by omega)
      have r0 := H.free
      have hf := HF.out k hlt (by omega)
      have hb1 := HB.out at_
      have hb2 := HB.out k
      have hb3 := HB.out (k - low k)
      have hl := low_pos k hlt
      have hbits := bits_low k hlt (by omega)
      generalize pre mk at_ = s0 at hb1 ⊢
      generalize hs1 : pre mk k = s1 at hf hb2 ⊢
      generalize hs2 : pre mk (k - low k) = s2 at hf hb3
      generalize hc : c k = ck at hf g0
      have Hs2 := Lib.hid hs2
      clear hs1 hs2 hc
      go_wp2
      go_roundw
      case rel =>
        refine ⟨k - low k, by omega, ?_, ?_, trivial⟩
        · rw [Int.ofNat_sub hl.2]
        · rw [Hs2.out]
          congr 1
          omega
      case measure =>
        simp only [intOf]
        omega
    · have hkn : k = 0 := by omega
      subst hkn
      go_wp2
      go_ret
      exact ⟨by simp [pre], rfl⟩

def addTo (c : Nat → Int) (a : Nat) (d : Int) (k : Nat) : Nat → Int := fun j => if j < k ∧ Cov j a then c j + d else c j
theorem addTo_step (c : Nat → Int) (a : Nat) (d : Int) {k : Nat} (hk : 0 < k) (h : Cov k a) (j : Nat) : upd (addTo c a d k) k (c k + d) j = addTo c a d (k + low k) j := by
  have hl := low_pos k hk
  by_cases e : j = k
  · subst e
    rw [upd_same]
    unfold addTo
    rw [if_pos ⟨by omega, h⟩]
  · rw [upd_ne _ _ e]
    unfold addTo
    by_cases h1 : j < k
    · by_cases h2 : Cov j a
      · rw [if_pos ⟨h1, h2⟩, if_pos ⟨by omega, h2⟩]
      · rw [if_neg (fun x => h2 x.2), if_neg (fun x => h2 x.2)]
    · rw [if_neg (fun x => h1 x.1)]
      by_cases h2 : j < k + low k
      · rw [if_neg (fun x => cov_skip hk h (by omega) h2 x.2)]
      · rw [if_neg (fun x => h2 x.1)]

set_option maxHeartbeats 1000000 in
theorem add_calls {w : World} {b n : Nat} {c : Nat → Int} (H : Row w b .i64 c (n + 1)) (a : Nat) (ha : a < n) (hn : n ≤ 4096) (d : Int) (hd : -1000 ≤ d ∧ d ≤ 1000) (hb : ∀ j, -200000 ≤ c j ∧ c j ≤ 200000) :
    Calls Try.prog 23 #[.slice (some ⟨b, 0, none⟩) (n + 1 : Nat) (n + 1 : Nat), .int .i64 a, .int .i64 d] w fun e w' => e = .returned (.tuple #[]) ∧ Row w' b .i64 (addC c a d) (n + 1) ∧ Frm (fun x => x = b) w w' := by
  have HB := Lib.hid hb
  clear hb
  go_enter Try.func23, Try.ntmps23
  go_wp2
  go_loopw [6] (fun i wr => ∃ k : Nat, 0 < k ∧ k ≤ 8192 ∧ Cov k a ∧ i = .int .i64 k ∧ Row wr b .i64 (addTo c a d k) (n + 1) ∧ Frm (fun x => x = b) w wr) (fun i _ => 8193 - (intOf i).toNat)
  case atStart =>
    refine ⟨a + 1, by omega, by omega, cov_start a, rfl, H.congr (fun o _ => ?_), Frm.refl _ _⟩
    unfold addTo
    rw [if_neg]
    rintro ⟨h1, h2⟩
    unfold Cov at h2
    omega
  case round =>
    obtain ⟨k, hk, hk2, hcov, rfl, hR, hf⟩ := hrel
    have Hcov := Lib.hid hcov
    clear hcov
    rcases Nat.lt_or_ge k (n + 1) with hlt | hge
    · have g0 := hR.cell hlt
      have r0 := hR.free
      have hck : addTo c a d k k = c k := by unfold addTo; rw [if_neg (fun x => absurd x.1 (Nat.lt_irrefl k))]
      rw [hck] at g0
      have hcb := HB.out k
      have hl := low_pos k hk
      have hbits := bits_low k hk (by omega)
      have hst := Lib.hid (addTo_step c a d hk Hcov.out)
      have Hck := Lib.hid hck
      clear hck
      generalize hc : c k = ck at g0 hcb
      have Hc := Lib.hid hc
      clear hc
      go_wp2
      generalize hw2 : World.setCell _ _ _ = w2
      have H2 : Row w2 b .i64 (addTo c a d (k + low k)) (n + 1) := by
        rw [← hw2]
        refine (hR.set k (ck + d)).congr (fun o _ => ?_)
        have := hst.out o
        rw [Hc.out] at this
        exact this
      have R2 : Frm (fun x => x = b) w w2 := by rw [← hw2]; exact hf.setCell (fun _ => rfl) _
      clear hw2
      go_wp2
      go_roundw
      case rel =>
        exact ⟨k + low k, by omega, by omega, cov_next hk Hcov.out, by rw [Int.natCast_add], H2, R2⟩
      case measure =>
        simp only [intOf]
        omega
    · go_wp2
      go_end0
      refine ⟨rfl, hR.congr (fun o ho => ?_), hf⟩
      unfold addTo addC
      by_cases h2 : Cov o a
      · rw [if_pos ⟨by omega, h2⟩, if_pos h2]
      · rw [if_neg (fun x => h2 x.2), if_neg h2]
end Go.Proofs.Ytbhnobjjpmmmnaa
