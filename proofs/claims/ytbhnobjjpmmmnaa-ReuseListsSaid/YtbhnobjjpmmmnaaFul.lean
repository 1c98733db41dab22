/- Layer 37: the full list of layer 15 behind the distances; a list of a size is its end. -/
import Derived.Test.YtbhnobjjpmmmnaaHolds
namespace Go.Proofs.Ytbhnobjjpmmmnaa
open Go.RowKit Go.Cub

/-- all keys in the order of their last requests, the oldest first -/
def ful (xs : Nat → Nat) : Nat → List Nat
  | 0 => []
  | k + 1 => (ful xs k).erase (xs k) ++ [xs k]

theorem idxOf_erase {y x : Nat} (hne : x ≠ y) : ∀ {F : List Nat}, F.Nodup → x ∈ F → y ∈ F → (F.erase y).idxOf x + (if F.idxOf y < F.idxOf x then 1 else 0) = F.idxOf x
  | [], _, h, _ => by cases h
  | z :: F, hN, hx, hy => by
    have hN' := List.nodup_cons.1 hN
    by_cases e : z = y
    · subst e
      have hzx : (z == x) = false := by simp; exact fun h => hne h.symm
      rw [List.erase_cons_head, List.idxOf_cons, List.idxOf_cons, hzx]
      simp
    · have e' : (z == y) = false := by simp [e]
      rw [List.erase_cons_tail (by simp [e]), List.idxOf_cons, List.idxOf_cons, List.idxOf_cons, e']
      by_cases e2 : z = x
      · subst e2
        simp
      · have e2' : (z == x) = false := by simp [e2]
        rw [e2']
        have hx' : x ∈ F := by
          rcases List.mem_cons.1 hx with h | h
          · exact absurd h.symm e2
          · exact h
        have hy' : y ∈ F := by
          rcases List.mem_cons.1 hy with h | h
          · exact absurd h.symm e
          · exact h
        have ih := idxOf_erase hne hN'.2 hx' hy'
        simp only [cond_false]
        by_cases h : F.idxOf y < F.idxOf x
        · rw [if_pos h] at ih
          rw [if_pos (by omega)]
          omega
        · rw [if_neg h] at ih
          rw [if_neg (by omega)]
          omega

def Sx (xs : Nat → Nat) (k a : Nat) : Int := pre (mark xs k) k - pre (mark xs k) (a + 1)

theorem pre_le {xs : Nat → Nat} {i : Nat} : ∀ {a b}, a ≤ b → pre (mark xs i) a ≤ pre (mark xs i) b := by
  intro a b h
  induction b with
  | zero => have : a = 0 := by omega
            subst this; exact Int.le_refl _
  | succ b ih =>
    rcases Nat.lt_or_ge a (b + 1) with h1 | h1
    · have := ih (by omega)
      have := (mark_bound xs i b).1
      rw [pre]; omega
    · have : a = b + 1 := by omega
      subst this; exact Int.le_refl _
theorem Sx_lt {xs : Nat → Nat} {k a b x : Nat} (ha : lastOf xs k x = some a) (h : b < a) : Sx xs k a + 1 ≤ Sx xs k b := by
  have hx := lastOf_lt ha
  have hm : mark xs k a = 1 := by unfold mark; rw [hx.2, ha, if_pos rfl]
  have h1 : pre (mark xs k) (a + 1) = pre (mark xs k) a + 1 := by rw [pre, hm]
  have h2 := pre_le (xs := xs) (i := k) (show b + 1 ≤ a by omega)
  unfold Sx
  omega

theorem ful_facts (xs : Nat → Nat) : ∀ k, (ful xs k).Nodup ∧ (∀ x, x ∈ ful xs k ↔ (lastOf xs k x).isSome = true) ∧ (ful xs k).length = cn (dist xs) k ∧
    (∀ x a, lastOf xs k x = some a → Sx xs k a + ((ful xs k).idxOf x : Int) + 1 = (ful xs k).length)
  | 0 => ⟨List.nodup_nil, fun x => by simp [ful, lastOf], rfl, fun x a h => by cases h⟩
  | k + 1 => by
    obtain ⟨hN, hM, hL, hS⟩ := ful_facts xs k
    have hg := dist_ge xs k
    have hl : ∀ x, lastOf xs (k + 1) x = if xs k = x then some k else lastOf xs k x := fun x => rfl
    have hf : ful xs (k + 1) = (ful xs k).erase (xs k) ++ [xs k] := rfl
    have hc : cn (dist xs) (k + 1) = cn (dist xs) k + (if dist xs k < 0 then 1 else 0) := rfl
    have hmk : mark xs k k = 0 := (mark_bound xs k k).2.2 (Nat.le_refl _)
    refine ⟨?_, fun x => ?_, ?_, fun x a hxa => ?_⟩
    · rw [hf, List.nodup_append]
      refine ⟨hN.erase _, by simp, ?_⟩
      intro x hx y hy e
      simp at hy
      subst hy; subst e
      exact ((hN.mem_erase_iff).1 hx).1 rfl
    · rw [hf, hl]
      by_cases e : xs k = x
      · rw [if_pos e]; simp [e]
      · have e' : ¬ x = xs k := fun h => e h.symm
        rw [if_neg e, List.mem_append, hN.mem_erase_iff, ← hM x]; simp [e']
    · rw [hf, hc, List.length_append, List.length_singleton]
      cases ho : lastOf xs k (xs k) with
      | none =>
        rw [List.erase_of_not_mem (fun h => by have := (hM _).1 h; rw [ho] at this; cases this), if_pos (by have := hg.2.1 ho; omega), hL]
      | some b =>
        have hm : xs k ∈ ful xs k := (hM _).2 (by rw [ho]; rfl)
        have := List.length_pos_of_mem hm
        rw [List.length_erase_of_mem hm, if_neg (by have := (hg.2.2 b ho).1; omega)]
        omega
    · rw [hl] at hxa
      cases ho : lastOf xs k (xs k) with
      | none =>
        have hnm : xs k ∉ ful xs k := fun h => by have := (hM _).1 h; rw [ho] at this; cases this
        have hf' : ful xs (k + 1) = ful xs k ++ [xs k] := by rw [hf, List.erase_of_not_mem hnm]
        rw [hf', List.length_append, List.length_singleton, List.idxOf_append]
        by_cases e : xs k = x
        · rw [if_pos e] at hxa
          injection hxa with hxa
          subst hxa; subst e
          rw [if_neg hnm]
          unfold Sx
          simp
        · rw [if_neg e] at hxa
          have hm : x ∈ ful xs k := (hM x).2 (by rw [hxa]; rfl)
          have ha := (lastOf_lt hxa).1
          rw [if_pos hm]
          have h1 := hS x a hxa
          unfold Sx at h1 ⊢
          rw [mark_new ho, pre_upd, pre_upd, if_pos (by omega), if_neg (by omega), pre, hmk]
          omega
      | some b =>
        have hb := (lastOf_lt ho).1
        have hmy : xs k ∈ ful xs k := (hM _).2 (by rw [ho]; rfl)
        have hpos := List.length_pos_of_mem hmy
        have hme : xs k ∉ (ful xs k).erase (xs k) := fun h => ((hN.mem_erase_iff).1 h).1 rfl
        have hle := List.length_erase_of_mem hmy
        rw [hf, List.length_append, List.length_singleton, List.idxOf_append]
        by_cases e : xs k = x
        · rw [if_pos e] at hxa
          injection hxa with hxa
          subst hxa; subst e
          rw [if_neg hme]
          unfold Sx
          simp
        · rw [if_neg e] at hxa
          have hm : x ∈ ful xs k := (hM x).2 (by rw [hxa]; rfl)
          have ha := (lastOf_lt hxa).1
          have hab : a ≠ b := fun h => e (by rw [← (lastOf_lt hxa).2, ← (lastOf_lt ho).2, h])
          have e' : x ≠ xs k := fun h => e h.symm
          rw [if_pos ((hN.mem_erase_iff).2 ⟨e', hm⟩)]
          have h1 := hS x a hxa
          have h2 := hS (xs k) b ho
          have h3 := idxOf_erase e' hN hm hmy
          have h4 : Sx xs (k + 1) a = Sx xs k a + (if b < a then 1 else 0) := by
            unfold Sx
            rw [mark_old ho, pre_upd, pre_upd, pre_upd, pre_upd, if_pos (by omega), if_pos (by omega), pre, hmk, if_neg (show ¬ k < a + 1 by omega)]
            by_cases hba : b < a
            · rw [if_pos hba, if_pos (by omega)]; omega
            · rw [if_neg hba, if_neg (by omega)]; omega
          rw [h4]
          rcases Nat.lt_or_ge b a with hba | hba
          · have h5 := Sx_lt hxa hba
            rw [if_pos hba]
            rw [if_pos (by omega)] at h3
            omega
          · have h5 := Sx_lt ho (show a < b by omega)
            rw [if_neg (by omega)]
            rw [if_neg (by omega)] at h3
            omega

theorem mem_drop {F : List Nat} (hN : F.Nodup) {x : Nat} (hx : x ∈ F) (m : Nat) : x ∈ F.drop m ↔ m ≤ F.idxOf x := by
  induction F generalizing m with
  | nil => cases hx
  | cons z F ih =>
    have hN' := List.nodup_cons.1 hN
    cases m with
    | zero => simp; exact List.mem_cons.1 hx
    | succ m =>
      rw [List.drop_succ_cons, List.idxOf_cons]
      by_cases e : z = x
      · subst e
        simp
        exact fun h => hN'.1 (List.mem_of_mem_drop h)
      · have e2 : (z == x) = false := by simp [e]
        have hx' : x ∈ F := by
          rcases List.mem_cons.1 hx with h | h
          · exact absurd h.symm e
          · exact h
        rw [ih hN'.2 hx' m, e2]
        simp

/-- the list of a size -/
def lst (xs : Nat → Nat) (s k : Nat) : List Nat := (ful xs k).drop ((ful xs k).length - s)

theorem lst_hit (xs : Nat → Nat) (s k : Nat) : xs k ∈ lst xs s k ↔ 0 ≤ dist xs k ∧ dist xs k < s := by
  obtain ⟨hN, hM, hL, hS⟩ := ful_facts xs k
  have hg := dist_ge xs k
  unfold lst
  cases ho : lastOf xs k (xs k) with
  | none =>
    have := hg.2.1 ho
    constructor
    · intro h
      have := (hM _).1 (List.mem_of_mem_drop h)
      rw [ho] at this; cases this
    · intro h; omega
  | some b =>
    have hm : xs k ∈ ful xs k := (hM _).2 (by rw [ho]; rfl)
    have h1 := hS _ b ho
    have h2 : dist xs k = Sx xs k b := by unfold dist Sx; rw [ho]
    have h3 := (hg.2.2 b ho).1
    rw [mem_drop hN hm]
    omega

theorem lst_step_hit {xs : Nat → Nat} {s k : Nat} (h : xs k ∈ lst xs s k) : lst xs s (k + 1) = (lst xs s k).erase (xs k) ++ [xs k] := by
  obtain ⟨hN, hM, hL, hS⟩ := ful_facts xs k
  have hm := List.mem_of_mem_drop h
  have hpos := List.length_pos_of_mem hm
  have hle := List.length_erase_of_mem hm
  have hT : xs k ∉ (ful xs k).take ((ful xs k).length - s) := by
    have hd := List.take_append_drop ((ful xs k).length - s) (ful xs k)
    rw [← hd] at hN
    exact fun h2 => (List.nodup_append.1 hN).2.2 _ h2 _ h rfl
  have he : (ful xs k).erase (xs k) = (ful xs k).take ((ful xs k).length - s) ++ (lst xs s k).erase (xs k) := by
    conv => lhs; rw [← List.take_append_drop ((ful xs k).length - s) (ful xs k)]
    rw [List.erase_append_right _ hT]
    rfl
  show ((ful xs k).erase (xs k) ++ [xs k]).drop (((ful xs k).erase (xs k) ++ [xs k]).length - s) = _
  rw [List.length_append, List.length_singleton, hle, show (ful xs k).length - 1 + 1 - s = (ful xs k).length - s by omega, he, List.append_assoc, List.drop_left' (by simp)]

theorem lst_len (xs : Nat → Nat) (s k : Nat) : (lst xs s k).length = min s (ful xs k).length := by
  unfold lst
  rw [List.length_drop]
  omega

theorem lst_step_miss {xs : Nat → Nat} {s k : Nat} (h : xs k ∉ lst xs s k) : lst xs s (k + 1) = if s < (lst xs s k).length + 1 then (lst xs s k ++ [xs k]).drop 1 else lst xs s k ++ [xs k] := by
  obtain ⟨hN, hM, hL, hS⟩ := ful_facts xs k
  have hlen := lst_len xs s k
  have hd : (ful xs k).take ((ful xs k).length - s) ++ lst xs s k = ful xs k := List.take_append_drop _ _
  have htl : ((ful xs k).take ((ful xs k).length - s)).length = (ful xs k).length - s := by rw [List.length_take]; omega
  generalize hT : (ful xs k).take ((ful xs k).length - s) = T at hd htl
  generalize lst xs s k = L at h hlen hd ⊢
  have hf : ful xs (k + 1) = (ful xs k).erase (xs k) ++ [xs k] := rfl
  unfold lst
  by_cases hm : xs k ∈ ful xs k
  · have hmT : xs k ∈ T := by
      rw [← hd] at hm
      rcases List.mem_append.1 hm with h1 | h1
      · exact h1
      · exact absurd h1 h
    have hpos := List.length_pos_of_mem hmT
    have hle := List.length_erase_of_mem hmT
    have hf' : ful xs (k + 1) = T.erase (xs k) ++ (L ++ [xs k]) := by rw [hf, ← hd, List.erase_append_left _ hmT, List.append_assoc]
    have hn : (ful xs (k + 1)).length = (ful xs k).length := by
      rw [hf', ← hd]
      simp only [List.length_append, List.length_singleton]
      omega
    rw [if_pos (by omega), hn, hf', show (ful xs k).length - s = (T.erase (xs k)).length + 1 by omega, List.drop_append]
    simp
  · have hf' : ful xs (k + 1) = T ++ (L ++ [xs k]) := by rw [hf, List.erase_of_not_mem hm, ← List.append_assoc, hd]
    have hn : (ful xs (k + 1)).length = (ful xs k).length + 1 := by rw [hf, List.erase_of_not_mem hm]; simp
    rw [hn]
    by_cases hs : s < L.length + 1
    · rw [if_pos hs, hf', show (ful xs k).length + 1 - s = T.length + 1 by omega, List.drop_append]
      simp
    · rw [if_neg hs, show (ful xs k).length + 1 - s = 0 by omega, List.drop_zero, hf']
      have : T = [] := List.eq_nil_of_length_eq_zero (by omega)
      rw [this]; rfl
end Go.Proofs.Ytbhnobjjpmmmnaa
