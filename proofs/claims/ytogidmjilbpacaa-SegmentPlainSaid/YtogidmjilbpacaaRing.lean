/- Layer 14, plain: rings of nodes as lists. -/
import Derived.Test.YtogidmjilbpacaaBase
namespace Go.Cub

/-- From x through ys to z: next and prev are as they must be. -/
def Chn (c : Nat → Nat) : Nat → List Nat → Nat → Prop
  | x, [], z => c (x * 3 + 1) = z ∧ c (z * 3) = x
  | x, y :: ys, z => (c (x * 3 + 1) = y ∧ c (y * 3) = x) ∧ Chn c y ys z

theorem Chn.congr {c c' : Nat → Nat} : ∀ {ys : List Nat} {x z : Nat}, (∀ u, u = x ∨ u ∈ ys → c' (u * 3 + 1) = c (u * 3 + 1)) → (∀ u, u ∈ ys ∨ u = z → c' (u * 3) = c (u * 3)) →
    Chn c x ys z → Chn c' x ys z
  | [], x, z, h1, h2, h => ⟨by rw [h1 x (.inl rfl)]; exact h.1, by rw [h2 z (.inr rfl)]; exact h.2⟩
  | y :: ys, x, z, h1, h2, h => ⟨⟨by rw [h1 x (.inl rfl)]; exact h.1.1, by rw [h2 y (.inl (by simp))]; exact h.1.2⟩,
      Chn.congr (fun u hu => h1 u (.inr (by rcases hu with rfl | hu <;> simp [*]))) (fun u hu => h2 u (by rcases hu with hu | rfl <;> simp [*])) h.2⟩

theorem Chn.split {c : Nat → Nat} : ∀ {ys : List Nat} {x y z : Nat} {zs : List Nat}, Chn c x (ys ++ y :: zs) z ↔ Chn c x ys y ∧ Chn c y zs z
  | [], x, y, z, zs => Iff.rfl
  | u :: ys, x, y, z, zs => by
    show ((_ ∧ _) ∧ Chn c u (ys ++ y :: zs) z) ↔ ((_ ∧ _) ∧ Chn c u ys y) ∧ _
    rw [Chn.split (ys := ys)]
    exact ⟨fun ⟨a, b, d⟩ => ⟨⟨a, b⟩, d⟩, fun ⟨⟨a, b⟩, d⟩ => ⟨a, b, d⟩⟩

theorem Chn.first {c : Nat → Nat} {x z : Nat} {ys : List Nat} (h : Chn c x ys z) : c (x * 3 + 1) = ys.headD z := by cases ys <;> first | exact h.1 | exact h.1.1
theorem Chn.last {c : Nat → Nat} : ∀ {ys : List Nat} {x z : Nat}, Chn c x ys z → c (z * 3) = (x :: ys).getLastD 0
  | [], _, _, h => h.2
  | y :: ys, x, z, h => by rw [Chn.last h.2]; cases ys <;> rfl

def putC (c : Nat → Nat) (n other : Nat) : Nat → Nat :=
  upd (upd (upd (upd (upd c (n * 3) (c (other * 3))) (n * 3 + 1) other) (n * 3 + 2) (c (other * 3 + 2))) (c (other * 3) * 3 + 1) n) (other * 3) n
def putL (c : Nat → Nat) (l : Nat → Int) (other : Nat) : Nat → Int := upd l (c (other * 3 + 2) - 1) (l (c (other * 3 + 2) - 1) + 1)
def remC (c : Nat → Nat) (n : Nat) : Nat → Nat :=
  upd (upd (upd (upd (upd c (c (n * 3) * 3 + 1) (c (n * 3 + 1))) (c (n * 3 + 1) * 3) (c (n * 3))) (n * 3) 0) (n * 3 + 1) 0) (n * 3 + 2) 0
def remL (c : Nat → Nat) (l : Nat → Int) (n : Nat) : Nat → Int := upd l (c (n * 3 + 2) - 1) (l (c (n * 3 + 2) - 1) - 1)

/-! what 'put' leaves -/
theorem putC_prev {c : Nat → Nat} {n o u : Nat} (h1 : u ≠ n) (h2 : u ≠ o) : putC c n o (u * 3) = c (u * 3) := by
  unfold putC
  rw [upd_ne _ _ (by omega), upd_ne _ _ (by omega), upd_ne _ _ (by omega), upd_ne _ _ (by omega), upd_ne _ _ (by omega)]
theorem putC_next {c : Nat → Nat} {n o u : Nat} (h1 : u ≠ n) (h2 : u ≠ c (o * 3)) : putC c n o (u * 3 + 1) = c (u * 3 + 1) := by
  unfold putC
  rw [upd_ne _ _ (by omega), upd_ne _ _ (by omega), upd_ne _ _ (by omega), upd_ne _ _ (by omega), upd_ne _ _ (by omega)]
theorem putC_own {c : Nat → Nat} {n o u : Nat} (h1 : u ≠ n) : putC c n o (u * 3 + 2) = c (u * 3 + 2) := by
  unfold putC
  rw [upd_ne _ _ (by omega), upd_ne _ _ (by omega), upd_ne _ _ (by omega), upd_ne _ _ (by omega), upd_ne _ _ (by omega)]
theorem putC_own_n {c : Nat → Nat} {n o : Nat} : putC c n o (n * 3 + 2) = c (o * 3 + 2) := by
  unfold putC
  rw [upd_ne _ _ (by omega), upd_ne _ _ (by omega), upd_same]
theorem putC_prev_o {c : Nat → Nat} {n o : Nat} : putC c n o (o * 3) = n := by unfold putC; rw [upd_same]
theorem putC_prev_n {c : Nat → Nat} {n o : Nat} (h : n ≠ o) : putC c n o (n * 3) = c (o * 3) := by
  unfold putC
  rw [upd_ne _ _ (by omega), upd_ne _ _ (by omega), upd_ne _ _ (by omega), upd_ne _ _ (by omega), upd_same]
theorem putC_next_b {c : Nat → Nat} {n o : Nat} : putC c n o (c (o * 3) * 3 + 1) = n := by
  unfold putC
  rw [upd_ne _ _ (by omega), upd_same]
theorem putC_next_n {c : Nat → Nat} {n o : Nat} (h : n ≠ c (o * 3)) : putC c n o (n * 3 + 1) = o := by
  unfold putC
  rw [upd_ne _ _ (by omega), upd_ne _ _ (by omega), upd_ne _ _ (by omega), upd_same]

/-- At the back of a ring. -/
theorem Chn.back {c : Nat → Nat} {r n : Nat} {ys : List Nat} (h : Chn c r ys r) (hr : r ∉ ys) (hn : n ∉ ys) (hnr : n ≠ r) (hnd : ys.Nodup) : Chn (putC c n r) r (ys ++ [n]) r := by
  rcases List.eq_nil_or_concat ys with rfl | ⟨ys', t, rfl⟩
  · have hb : c (r * 3) = r := h.2
    refine ⟨⟨?_, ?_⟩, ?_, putC_prev_o⟩
    · have := putC_next_b (c := c) (n := n) (o := r); rw [hb] at this; exact this
    · rw [putC_prev_n hnr, hb]
    · rw [putC_next_n (by rw [hb]; exact hnr)]
  · rw [List.concat_eq_append] at *
    have hs := (Chn.split (ys := ys') (y := t) (zs := [])).1 h
    have hb : c (r * 3) = t := hs.2.2
    have hr' : r ∉ ys' ∧ r ≠ t := by simp at hr; exact ⟨hr.1, hr.2⟩
    have hn' : n ∉ ys' ∧ n ≠ t := by simp at hn; exact ⟨hn.1, hn.2⟩
    have ht : t ∉ ys' := by
      have := List.nodup_append.1 hnd
      intro hm
      exact this.2.2 t hm t (by simp) rfl
    have e : ys' ++ [t] ++ [n] = ys' ++ t :: [n] := by simp
    rw [e]
    refine Chn.split.2 ⟨?_, ?_, ?_⟩
    · refine Chn.congr (fun u hu => putC_next ?_ ?_) (fun u hu => putC_prev ?_ ?_) hs.1
      · rcases hu with rfl | hu
        · exact Ne.symm hnr
        · intro e; subst e; exact hn'.1 hu
      · rw [hb]; rcases hu with rfl | hu
        · exact hr'.2
        · intro e; subst e; exact ht hu
      · rcases hu with hu | rfl
        · intro e; subst e; exact hn'.1 hu
        · exact Ne.symm hn'.2
      · rcases hu with hu | rfl
        · intro e; subst e; exact hr'.1 hu
        · exact Ne.symm hr'.2
    · refine ⟨?_, ?_⟩
      · have := putC_next_b (c := c) (n := n) (o := r); rw [hb] at this; exact this
      · rw [putC_prev_n hnr, hb]
    · exact ⟨putC_next_n (by rw [hb]; exact hn'.2), putC_prev_o⟩

/-- At the front of a ring that isn't empty. -/
theorem Chn.front {c : Nat → Nat} {r n y : Nat} {ys : List Nat} (h : Chn c r (y :: ys) r) (hr : r ∉ y :: ys) (hn : n ∉ y :: ys) (hnr : n ≠ r) (hnd : (y :: ys).Nodup) :
    Chn (putC c n y) r (n :: y :: ys) r := by
  have hb : c (y * 3) = r := h.1.2
  have hy : y ∉ ys := (List.nodup_cons.1 hnd).1
  simp only [List.mem_cons, not_or] at hr hn
  refine ⟨⟨?_, ?_⟩, ⟨?_, putC_prev_o⟩, ?_⟩
  · have := putC_next_b (c := c) (n := n) (o := y); rw [hb] at this; exact this
  · rw [putC_prev_n hn.1, hb]
  · rw [putC_next_n (by rw [hb]; exact hnr)]
  · refine Chn.congr (fun u hu => putC_next ?_ ?_) (fun u hu => putC_prev ?_ ?_) h.2
    · rcases hu with rfl | hu
      · exact Ne.symm hn.1
      · intro e; subst e; exact hn.2 hu
    · rw [hb]; rcases hu with rfl | hu
      · exact Ne.symm hr.1
      · intro e; subst e; exact hr.2 hu
    · rcases hu with hu | rfl
      · intro e; subst e; exact hn.2 hu
      · exact Ne.symm hnr
    · rcases hu with hu | rfl
      · intro e; subst e; exact hy hu
      · exact hr.1

/-! what 'Remove' leaves -/
theorem remC_prev {c : Nat → Nat} {n u : Nat} (h1 : u ≠ n) (h2 : u ≠ c (n * 3 + 1)) : remC c n (u * 3) = c (u * 3) := by
  unfold remC
  rw [upd_ne _ _ (by omega), upd_ne _ _ (by omega), upd_ne _ _ (by omega), upd_ne _ _ (by omega), upd_ne _ _ (by omega)]
theorem remC_next {c : Nat → Nat} {n u : Nat} (h1 : u ≠ n) (h2 : u ≠ c (n * 3)) : remC c n (u * 3 + 1) = c (u * 3 + 1) := by
  unfold remC
  rw [upd_ne _ _ (by omega), upd_ne _ _ (by omega), upd_ne _ _ (by omega), upd_ne _ _ (by omega), upd_ne _ _ (by omega)]
theorem remC_own {c : Nat → Nat} {n u : Nat} (h1 : u ≠ n) : remC c n (u * 3 + 2) = c (u * 3 + 2) := by
  unfold remC
  rw [upd_ne _ _ (by omega), upd_ne _ _ (by omega), upd_ne _ _ (by omega), upd_ne _ _ (by omega), upd_ne _ _ (by omega)]
theorem remC_own_n {c : Nat → Nat} {n : Nat} : remC c n (n * 3 + 2) = 0 := by unfold remC; rw [upd_same]
theorem remC_prev_b {c : Nat → Nat} {n : Nat} (h : c (n * 3 + 1) ≠ n) : remC c n (c (n * 3 + 1) * 3) = c (n * 3) := by
  unfold remC
  rw [upd_ne _ _ (by omega), upd_ne _ _ (by omega), upd_ne _ _ (by omega), upd_same]
theorem remC_next_a {c : Nat → Nat} {n : Nat} (h : c (n * 3) ≠ n) : remC c n (c (n * 3) * 3 + 1) = c (n * 3 + 1) := by
  unfold remC
  rw [upd_ne _ _ (by omega), upd_ne _ _ (by omega), upd_ne _ _ (by omega), upd_ne _ _ (by omega), upd_same]

theorem Chn.remove {c : Nat → Nat} {n z : Nat} : ∀ {ys : List Nat} {x : Nat} {zs : List Nat}, Chn c x (ys ++ n :: zs) z → x ≠ n → z ≠ n → (ys ++ n :: zs).Nodup → x ∉ ys ++ n :: zs → z ∉ ys ++ n :: zs →
    Chn (remC c n) x (ys ++ zs) z
  | [], x, zs, h, hx, hz, hnd, hx2, hz2 => by
    have ha : c (n * 3) = x := h.1.2
    simp only [List.nil_append] at *
    have hnd' := List.nodup_cons.1 hnd
    simp only [List.mem_cons, not_or] at hx2 hz2
    cases zs with
    | nil =>
      have hb : c (n * 3 + 1) = z := h.2.1
      have p := remC_next_a (c := c) (n := n) (by rw [ha]; exact hx)
      have q := remC_prev_b (c := c) (n := n) (by rw [hb]; exact hz)
      rw [ha, hb] at p; rw [hb, ha] at q
      exact ⟨p, q⟩
    | cons y zs =>
      have hb : c (n * 3 + 1) = y := h.2.1.1
      have hyn : y ≠ n := fun e => hnd'.1 (by simp [e])
      have p := remC_next_a (c := c) (n := n) (by rw [ha]; exact hx)
      have q := remC_prev_b (c := c) (n := n) (by rw [hb]; exact hyn)
      rw [ha, hb] at p; rw [hb, ha] at q
      have hnd2 := List.nodup_cons.1 hnd'.2
      refine ⟨⟨p, q⟩, Chn.congr (fun u hu => remC_next ?_ ?_) (fun u hu => remC_prev ?_ ?_) h.2.2⟩
      · rcases hu with rfl | hu
        · exact hyn
        · intro e; subst e; exact hnd'.1 (by simp [hu])
      · rw [ha]; rcases hu with rfl | hu
        · intro e; exact hx2.2 (by simp [e])
        · intro e; subst e; exact hx2.2 (by simp [hu])
      · rcases hu with hu | rfl
        · intro e; subst e; exact hnd'.1 (by simp [hu])
        · exact hz
      · rw [hb]; rcases hu with hu | rfl
        · intro e; subst e; exact hnd2.1 hu
        · intro e; exact hz2.2 (by simp [e])
  | y :: ys, x, zs, h, hx, hz, hnd, hx2, hz2 => by
    have hnd' := List.nodup_cons.1 hnd
    have hyn : y ≠ n := fun e => hnd'.1 (by simp [e])
    have hx3 : x ≠ y ∧ x ∉ ys ++ n :: zs := by simpa using hx2
    have hz3 : z ≠ y ∧ z ∉ ys ++ n :: zs := by simpa using hz2
    have hr := Chn.remove h.2 hyn hz hnd'.2 hnd'.1 hz3.2
    refine ⟨⟨?_, ?_⟩, hr⟩
    · rw [remC_next hx ?_]; exact h.1.1
      have hl := Chn.last (Chn.split.1 h.2).1
      rw [hl]
      intro e
      have hm : x ∈ y :: ys := by
        rw [e]
        rw [List.getLastD_cons]
        exact List.getLastD_mem_cons ..
      rcases List.mem_cons.1 hm with hm | hm
      · exact hx3.1 hm
      · exact hx3.2 (by simp [hm])
    · rw [remC_prev hyn ?_]; exact h.1.2
      have hl := Chn.first (Chn.split.1 h.2).2
      rw [hl]
      intro e
      cases zs with
      | nil => exact hz3.1 e.symm
      | cons v zs => exact hnd'.1 (by simp at e; simp [e])

/-! ### the whole field as lists -/
structure Rng (nd hd : Nat) (c : Nat → Nat) (l : Nat → Int) (L : Nat → List Nat) : Prop where
  lt : ∀ h, h < hd → ∀ x ∈ L h, x < nd
  nodup : ∀ h, h < hd → (L h).Nodup
  apart : ∀ h h', h < hd → h' < hd → ∀ x, x ∈ L h → x ∈ L h' → h = h'
  len : ∀ h, h < hd → l h = (L h).length
  own : ∀ h, h < hd → ∀ x ∈ L h, c (x * 3 + 2) = h + 1
  free : ∀ x, x < nd → (∀ h, h < hd → x ∉ L h) → c (x * 3 + 2) = 0
  ring : ∀ h, h < hd → c ((nd + h) * 3 + 2) = h + 1
  chain : ∀ h, h < hd → Chn c (nd + h) (L h) (nd + h)

theorem nodup_len {nd : Nat} : ∀ {l : List Nat}, l.Nodup → (∀ x ∈ l, x < nd) → l.length ≤ nd := by
  induction nd with
  | zero => intro l _ h; cases l with
    | nil => simp
    | cons a l => exact absurd (h a (by simp)) (by omega)
  | succ nd ih =>
    intro l hn h
    have h1 := ih (hn.erase nd) (fun x hx => by
      have := h x (List.mem_of_mem_erase hx)
      have h3 : x ≠ nd := fun e => by subst e; exact (hn.not_mem_erase) hx
      omega)
    by_cases hm : nd ∈ l
    · rw [List.length_erase_of_mem hm] at h1; omega
    · rw [List.erase_of_not_mem hm] at h1; omega

section
variable {nd hd : Nat} {c : Nat → Nat} {l : Nat → Int} {L : Nat → List Nat}

theorem Rng.len_le (R : Rng nd hd c l L) {h : Nat} (hh : h < hd) : (L h).length ≤ nd := nodup_len (R.nodup h hh) (R.lt h hh)

theorem Rng.prev_ring (R : Rng nd hd c l L) {h : Nat} (hh : h < hd) : c ((nd + h) * 3) = (L h).getLastD (nd + h) := by
  rw [Chn.last (R.chain h hh), List.getLastD_cons]
theorem Rng.next_ring (R : Rng nd hd c l L) {h : Nat} (hh : h < hd) : c ((nd + h) * 3 + 1) = (L h).headD (nd + h) := Chn.first (R.chain h hh)

theorem lastD_mem (l : List Nat) (d : Nat) : l.getLastD d ∈ d :: l := List.getLastD_mem_cons
theorem getLastD_lt {l : List Nat} {d M : Nat} (h : ∀ x ∈ l, x < M) (hd : d < M) : l.getLastD d < M := by
  rcases List.mem_cons.1 (lastD_mem l d) with e | e
  · rw [e]; exact hd
  · exact h _ e
theorem headD_lt {l : List Nat} {d M : Nat} (h : ∀ x ∈ l, x < M) (hd : d < M) : l.headD d < M := by
  cases l with
  | nil => exact hd
  | cons a l => exact h a (by simp)

/-- The three chains' words at a node of a list. -/
theorem Rng.at (R : Rng nd hd c l L) {h : Nat} (hh : h < hd) {ys zs : List Nat} {x : Nat} (e : L h = ys ++ x :: zs) :
    c (x * 3) = ys.getLastD (nd + h) ∧ c (x * 3 + 1) = zs.headD (nd + h) ∧ c (x * 3 + 2) = h + 1 := by
  have hc := R.chain h hh
  rw [e] at hc
  have hs := Chn.split.1 hc
  refine ⟨?_, Chn.first hs.2, R.own h hh x (by rw [e]; simp)⟩
  rw [Chn.last hs.1, List.getLastD_cons]

theorem Rng.put_ring (R : Rng nd hd c l L) {h n : Nat} (hh : h < hd) (hn : n < nd) (hf : ∀ h', h' < hd → n ∉ L h') {o : Nat} {l' : List Nat}
    (ho : c (o * 3 + 2) = h + 1) (hon : o ≠ n) (hp : ∀ h', h' < hd → h' ≠ h → o ≠ nd + h' ∧ o ∉ L h' ∧ c (o * 3) ≠ nd + h' ∧ c (o * 3) ∉ L h')
    (hm : ∀ x, x ∈ l' ↔ x = n ∨ x ∈ L h) (hl : l'.length = (L h).length + 1) (hnd : l'.Nodup) (hch : Chn (putC c n o) (nd + h) l' (nd + h)) :
    Rng nd hd (putC c n o) (putL c l o) (upd L h l') := by
  have hL : ∀ h', (upd L h l') h' = if h' = h then l' else L h' := fun _ => rfl
  refine ⟨fun h' hh' x hx => ?_, fun h' hh' => ?_, fun h1 h2 hh1 hh2 x hx1 hx2 => ?_, fun h' hh' => ?_, fun h' hh' x hx => ?_, fun x hx hx2 => ?_, fun h' hh' => ?_, fun h' hh' => ?_⟩
  · rw [hL] at hx
    split at hx
    · rcases (hm x).1 hx with rfl | hx
      · exact hn
      · exact R.lt h hh x hx
    · exact R.lt h' hh' x hx
  · rw [hL]; split
    · exact hnd
    · exact R.nodup h' hh'
  · rw [hL] at hx1 hx2
    split at hx1 <;> split at hx2
    · omega
    · rcases (hm x).1 hx1 with rfl | hx1
      · exact absurd hx2 (hf h2 hh2)
      · have := R.apart h h2 hh hh2 x hx1 hx2; omega
    · rcases (hm x).1 hx2 with rfl | hx2
      · exact absurd hx1 (hf h1 hh1)
      · have := R.apart h h1 hh hh1 x hx2 hx1; omega
    · exact R.apart h1 h2 hh1 hh2 x hx1 hx2
  · rw [hL]
    unfold putL
    rw [ho, Nat.add_sub_cancel]
    split
    · rename_i e; subst e; rw [upd_same, hl, R.len h' hh']; simp
    · rename_i e; rw [upd_ne _ _ e]; exact R.len h' hh'
  · rw [hL] at hx
    by_cases hxn : x = n
    · subst hxn
      rw [putC_own_n, ho]
      split at hx
      · rename_i e; rw [e]
      · exact absurd hx (hf h' hh')
    · rw [putC_own hxn]
      split at hx
      · rename_i e; subst e
        exact R.own h' hh' x (((hm x).1 hx).resolve_left hxn)
      · exact R.own h' hh' x hx
  · by_cases hxn : x = n
    · subst hxn
      exact absurd ((hm x).2 (.inl rfl)) (by have := hx2 h hh; rw [hL, if_pos rfl] at this; exact this)
    · rw [putC_own hxn]
      refine R.free x hx fun h' hh' hx' => ?_
      have := hx2 h' hh'
      rw [hL] at this
      split at this
      · rename_i e; subst e; exact this ((hm x).2 (.inr hx'))
      · exact this hx'
  · rw [putC_own (by omega)]; exact R.ring h' hh'
  · rw [hL]
    split
    · rename_i e; subst e; exact hch
    · rename_i e
      obtain ⟨p1, p2, p3, p4⟩ := hp h' hh' e
      refine Chn.congr (fun u hu => putC_next ?_ ?_) (fun u hu => putC_prev ?_ ?_) (R.chain h' hh')
      · rcases hu with rfl | hu
        · omega
        · intro e; subst e; exact hf h' hh' hu
      · rcases hu with rfl | hu
        · exact Ne.symm p3
        · intro e; subst e; exact p4 hu
      · rcases hu with hu | rfl
        · intro e; subst e; exact hf h' hh' hu
        · omega
      · rcases hu with hu | rfl
        · intro e; subst e; exact p2 hu
        · exact Ne.symm p1

/-- At the back. -/
theorem Rng.back (R : Rng nd hd c l L) {h n : Nat} (hh : h < hd) (hn : n < nd) (hf : ∀ h', h' < hd → n ∉ L h') :
    Rng nd hd (putC c n (nd + h)) (putL c l (nd + h)) (upd L h (L h ++ [n])) := by
  have hr : nd + h ∉ L h := fun e => by have := R.lt h hh _ e; omega
  refine R.put_ring hh hn hf (R.ring h hh) (by omega) (fun h' hh' hne => ⟨by omega, fun e => by have := R.lt h' hh' _ e; omega, ?_, ?_⟩) (fun x => by simp [or_comm]) (by simp) ?_
    (Chn.back (R.chain h hh) hr (hf h hh) (by omega) (R.nodup h hh))
  · rw [R.prev_ring hh]
    intro e
    rcases List.mem_cons.1 (lastD_mem (L h) (nd + h)) with e' | e'
    · omega
    · have := R.lt h hh _ e'; omega
  · rw [R.prev_ring hh]
    intro e
    rcases List.mem_cons.1 (lastD_mem (L h) (nd + h)) with e' | e'
    · rw [e'] at e; have := R.lt h' hh' _ e; omega
    · exact hne (R.apart h' h hh' hh _ e e')
  · exact List.nodup_append.2 ⟨R.nodup h hh, by simp, fun a ha b hb => by simp at hb; subst hb; intro e; subst e; exact hf h hh ha⟩

/-- At the front: before what the ring's next is. -/
theorem Rng.front (R : Rng nd hd c l L) {h n : Nat} (hh : h < hd) (hn : n < nd) (hf : ∀ h', h' < hd → n ∉ L h') :
    Rng nd hd (putC c n (c ((nd + h) * 3 + 1))) (putL c l (c ((nd + h) * 3 + 1))) (upd L h (n :: L h)) := by
  cases hL : L h with
  | nil =>
    have e : c ((nd + h) * 3 + 1) = nd + h := by rw [R.next_ring hh, hL]; rfl
    have := R.back hh hn hf
    rw [hL] at this
    rw [e]; exact this
  | cons y ys =>
    have e : c ((nd + h) * 3 + 1) = y := by rw [R.next_ring hh, hL]; rfl
    have hat := R.at hh (ys := []) (x := y) (zs := ys) hL
    have hr : nd + h ∉ y :: ys := fun e => by rw [← hL] at e; have := R.lt h hh _ e; omega
    have hnd := R.nodup h hh
    have hch := R.chain h hh
    have hfh := hf h hh
    rw [hL] at hnd hch hfh
    rw [e]
    have hy : y ∈ L h := by rw [hL]; simp
    refine R.put_ring hh hn hf hat.2.2 (fun e => hfh (by simp [e])) (fun h' hh' hne => ⟨fun e => by have := R.lt h hh _ hy; omega, fun e => hne (R.apart h' h hh' hh _ e hy), ?_, ?_⟩)
      (fun x => by simp [hL]) (by simp [hL]) (List.nodup_cons.2 ⟨hfh, hnd⟩) (Chn.front hch hr hfh (by omega) hnd)
    · rw [hat.1]; simp; omega
    · rw [hat.1]; simp; intro e; have := R.lt h' hh' _ e; omega

theorem Rng.remove (R : Rng nd hd c l L) {h n : Nat} (hh : h < hd) (hm : n ∈ L h) : Rng nd hd (remC c n) (remL c l n) (upd L h ((L h).erase n)) := by
  obtain ⟨ys, zs, e⟩ := List.append_of_mem hm
  have hat := R.at hh e
  have hnd := R.nodup h hh
  have hlt := R.lt h hh
  have hch := R.chain h hh
  have hnn := hlt n hm
  rw [e] at hnd hch
  have hny : n ∉ ys := fun hx => (List.nodup_append.1 hnd).2.2 n hx n (by simp) rfl
  have hee : (L h).erase n = ys ++ zs := by rw [e, List.erase_append_right _ hny]; simp
  have hLL : ∀ h', (upd L h ((L h).erase n)) h' = if h' = h then ys ++ zs else L h' := fun h' => by rw [hee]; rfl
  have hsub : ∀ x, x ∈ ys ++ zs → x ∈ L h := fun x hx => by rw [e]; simp at hx ⊢; rcases hx with hx | hx <;> simp [hx]
  have hnz : n ∉ ys ++ zs := by rw [← hee]; exact (R.nodup h hh).not_mem_erase
  have hring : nd + h ∉ ys ++ n :: zs := fun hx => by rw [← e] at hx; have := hlt _ hx; omega
  have hprev : ∀ h', h' < hd → h' ≠ h → c (n * 3) ≠ nd + h' ∧ c (n * 3) ∉ L h' := fun h' hh' hne => by
    rw [hat.1]
    rcases List.mem_cons.1 (lastD_mem ys (nd + h)) with e' | e'
    · rw [e']; exact ⟨by omega, fun hx => by have := R.lt h' hh' _ hx; omega⟩
    · have hx : ys.getLastD (nd + h) ∈ L h := hsub _ (List.mem_append_left _ e')
      exact ⟨fun e => by have := hlt _ hx; omega, fun hx' => hne (R.apart h' h hh' hh _ hx' hx)⟩
  have hnext : ∀ h', h' < hd → h' ≠ h → c (n * 3 + 1) ≠ nd + h' ∧ c (n * 3 + 1) ∉ L h' := fun h' hh' hne => by
    rw [hat.2.1]
    cases zs with
    | nil => exact ⟨by simp; omega, fun hx => by have := R.lt h' hh' _ hx; simp at this; omega⟩
    | cons v zs =>
      have hx : v ∈ L h := hsub _ (by simp)
      exact ⟨fun e => by have := hlt _ hx; simp at e; omega, fun hx' => hne (R.apart h' h hh' hh _ hx' hx)⟩
  refine ⟨fun h' hh' x hx => ?_, fun h' hh' => ?_, fun h1 h2 hh1 hh2 x hx1 hx2 => ?_, fun h' hh' => ?_, fun h' hh' x hx => ?_, fun x hx hx2 => ?_, fun h' hh' => ?_, fun h' hh' => ?_⟩
  · rw [hLL] at hx; split at hx
    · exact hlt x (hsub x hx)
    · exact R.lt h' hh' x hx
  · rw [hLL]; split
    · rw [← hee]; exact (R.nodup h hh).erase n
    · exact R.nodup h' hh'
  · rw [hLL] at hx1 hx2
    split at hx1 <;> split at hx2
    · omega
    · have := R.apart h h2 hh hh2 x (hsub x hx1) hx2; omega
    · have := R.apart h h1 hh hh1 x (hsub x hx2) hx1; omega
    · exact R.apart h1 h2 hh1 hh2 x hx1 hx2
  · rw [hLL]
    unfold remL
    rw [hat.2.2, Nat.add_sub_cancel]
    split
    · rename_i e'; subst e'
      rw [upd_same, R.len h' hh', e]
      simp; omega
    · rename_i e'; rw [upd_ne _ _ e']; exact R.len h' hh'
  · rw [hLL] at hx
    by_cases hxn : x = n
    · subst hxn
      split at hx
      · exact absurd hx hnz
      · rename_i e'; exact absurd (R.apart h' h hh' hh x hx hm) e'
    · rw [remC_own hxn]
      split at hx
      · rename_i e'; subst e'; exact R.own h' hh' x (hsub x hx)
      · exact R.own h' hh' x hx
  · by_cases hxn : x = n
    · subst hxn; exact remC_own_n
    · rw [remC_own hxn]
      refine R.free x hx fun h' hh' hx' => ?_
      have := hx2 h' hh'
      rw [hLL] at this
      split at this
      · rename_i e'; subst e'
        rw [e] at hx'
        simp [hxn] at hx' this
        rcases hx' with hx' | hx'
        · exact this.1 hx'
        · exact this.2 hx'
      · exact this hx'
  · rw [remC_own (by omega)]; exact R.ring h' hh'
  · rw [hLL]
    split
    · rename_i e'; subst e'
      exact Chn.remove hch (by omega) (by omega) hnd hring hring
    · rename_i e'
      obtain ⟨p1, p2⟩ := hprev h' hh' e'
      obtain ⟨p3, p4⟩ := hnext h' hh' e'
      refine Chn.congr (fun u hu => remC_next ?_ ?_) (fun u hu => remC_prev ?_ ?_) (R.chain h' hh')
      · rcases hu with rfl | hu
        · omega
        · intro e2; subst e2; exact e' (R.apart h' h hh' hh _ hu hm)
      · rcases hu with rfl | hu
        · exact Ne.symm p1
        · intro e2; subst e2; exact p2 hu
      · rcases hu with hu | rfl
        · intro e2; subst e2; exact e' (R.apart h' h hh' hh _ hu hm)
        · omega
      · rcases hu with hu | rfl
        · intro e2; subst e2; exact p4 hu
        · exact Ne.symm p3
end
/-- the k-th of a list, or d -/
def nth (l : List Nat) (k d : Nat) : Nat := l.getD k d
theorem nth_lt {l : List Nat} {k : Nat} (d : Nat) (h : k < l.length) : nth l k d = l[k] := by simp [nth, h]
theorem nth_ge {l : List Nat} {k : Nat} (d : Nat) (h : l.length ≤ k) : nth l k d = d := by simp [nth, List.getElem?_eq_none h]
theorem nth_zero (l : List Nat) (d : Nat) : nth l 0 d = l.headD d := by cases l <;> rfl

/-- What follows the k-th in the ring is the next word of it. -/
theorem Rng.nextAt {nd hd : Nat} {c : Nat → Nat} {l : Nat → Int} {L : Nat → List Nat} (R : Rng nd hd c l L) {h : Nat} (hh : h < hd) {k : Nat} (hk : k < (L h).length) :
    c (nth (L h) k (nd + h) * 3 + 1) = nth (L h) (k + 1) (nd + h) := by
  have e : L h = (L h).take k ++ (L h)[k] :: (L h).drop (k + 1) := by rw [List.getElem_cons_drop, List.take_append_drop]
  have hat := R.at hh e
  rw [nth_lt _ hk, hat.2.1]
  rcases Nat.lt_or_ge (k + 1) (L h).length with h1 | h1
  · rw [nth_lt _ h1, List.drop_eq_getElem_cons h1]; rfl
  · rw [nth_ge _ h1, List.drop_eq_nil_of_le h1]; rfl

theorem Rng.first {nd hd : Nat} {c : Nat → Nat} {l : Nat → Int} {L : Nat → List Nat} (R : Rng nd hd c l L) {h : Nat} (hh : h < hd) : c ((nd + h) * 3 + 1) = nth (L h) 0 (nd + h) := by rw [R.next_ring hh, nth_zero]
theorem Rng.empty {nd hd : Nat} {c : Nat → Nat} (h1 : ∀ x, x < nd → c (x * 3 + 2) = 0) (h2 : ∀ h, h < hd → c ((nd + h) * 3 + 2) = h + 1) (h3 : ∀ h, h < hd → Chn c (nd + h) [] (nd + h)) :
    Rng nd hd c (fun _ => 0) (fun _ => []) where
  lt := fun _ _ _ hx => (by cases hx)
  nodup := fun _ _ => List.nodup_nil
  apart := fun _ _ _ _ _ hx => (by cases hx)
  len := fun _ _ => rfl
  own := fun _ _ _ hx => (by cases hx)
  free := fun x hx _ => h1 x hx
  ring := h2
  chain := h3
end Go.Cub
