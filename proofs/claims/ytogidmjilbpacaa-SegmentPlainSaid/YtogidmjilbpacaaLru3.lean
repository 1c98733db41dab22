/- Layer 15: New, Has, Add, Remove, Use, Oldest, Len, All of a plain list. -/
import Derived.Test.YtogidmjilbpacaaLru2
namespace Go.Proofs.Ytogidmjilbpacaa
open Go.RowKit Go.Cub

theorem Sub.new {w : World} {fp fp' : List Nat} (h : ∀ b ∈ fp', w.heap.size ≤ b) : Sub w fp fp' := fun b hb => .inr (h b hb)
theorem Sub.refl (w : World) (fp : List Nat) : Sub w fp fp := fun _ hb => .inl hb
theorem Sub.trans {w w1 : World} {fp fp1 fp2 : List Nat} (h : Sub w fp fp1) (hs : w.heap.size ≤ w1.heap.size) (k : Sub w1 fp1 fp2) : Sub w fp fp2 := fun b hb => by
  rcases k b hb with h1 | h1
  · exact h b h1
  · exact .inr (by omega)

/-- What a call hands back that turns the list at q to xs. -/
def GivesLru (w : World) (fp : List Nat) (q : Nat) (v : Value) (xs : List Nat) (e : Ending) (w' : World) : Prop :=
  e = .returned v ∧ ∃ fp', LruF w' fp' q xs ∧ Sub w fp fp' ∧ Frm (fun b => b ∈ fp) w w'

def NewPost (w : World) (e : Ending) (w' : World) : Prop := ∃ q fp, e = .returned (.pointer (some ⟨q, 0, none⟩)) ∧ LruF w' fp q [] ∧ (∀ b ∈ fp, w.heap.size ≤ b) ∧ Frm (fun _ => False) w w'

theorem lruNew_calls {w : World} : Calls Try.prog 20 #[] w (NewPost w) := by
  go_enter Try.func20, Try.ntmps20
  go_wp2_with (go_at_call 43; refine (new_calls 8 1 (by decide) (by decide) (by decide) (by decide)).mono ?_; rintro e w1 ⟨p, bF, bL, rfl, HL, g1, g2, g3, hf⟩)
  go_ret
  have hl := HL.lt
  have hs := hf.size
  refine ⟨_, [_, p, bF, bL], rfl, ⟨p, bF, bL, 8, rfl, ?_, HL.frm (S := fun _ => False) ?_ (fun h => h) (fun h => h) (fun h => h), ?_, ?_, ?_, by omega⟩, ?_, ?_⟩
  · exact alloc_new _ _
  · exact (Frm.refl _ _).alloc _
  · omega
  · omega
  · omega
  · intro b hb
    simp at hb
    rcases hb with rfl | rfl | rfl | rfl <;> omega
  · exact hf.alloc _

section
variable {w : World} {q : Nat} {fp xs : List Nat}

theorem lruHas_calls (H : LruF w fp q xs) (s : Nat) (hs : s < 4194304) :
    Calls Try.prog 21 #[.pointer (some ⟨q, 0, none⟩), .int .u32 s] w fun e w' => e = .returned (.bool (decide (s ∈ xs))) ∧ w = w' := by
  obtain ⟨p, bF, bL, nd, rfl, H⟩ := H
  have hc := cell_at H.box (o := 0) rfl
  have Hs := Lib.hid hs
  have hlt := hs
  clear hs
  by_cases hm : s ∈ xs
  · have Hm := Lib.hid hm
    have hd := decide_eq_true hm
    rw [hd]
    clear hm hd hlt
    go_enter Try.func21, Try.ntmps21
    go_wp2_with (first | (go_at_call 44; refine (lruCheck_ok H.box s Hs.out).mono ?_; rintro e w' ⟨rfl, rfl⟩) | (go_at_call 45; refine (lkOf_in H.lk 0 s (by decide) Hm.out).mono ?_; rintro e w' ⟨rfl, rfl⟩))
    go_ret
    exact ⟨rfl, rfl⟩
  · have Hm := Lib.hid hm
    have hd := decide_eq_false hm
    rw [hd]
    clear hm hd
    rcases Nat.lt_or_ge s nd with h | h
    · have Hh := Lib.hid h
      clear h hlt
      go_enter Try.func21, Try.ntmps21
      go_wp2_with (first | (go_at_call 44; refine (lruCheck_ok H.box s Hs.out).mono ?_; rintro e w' ⟨rfl, rfl⟩) | (go_at_call 45; refine (lkOf_not H.lk s Hh.out (fun i _ => Hm.out)).mono ?_; rintro e w' ⟨rfl, rfl⟩))
      go_ret
      exact ⟨rfl, rfl⟩
    · have Hh := Lib.hid h
      have h4 : s < 4294967296 := by omega
      have H4 := Lib.hid h4
      clear h hlt h4
      go_enter Try.func21, Try.ntmps21
      go_wp2_with (first | (go_at_call 44; refine (lruCheck_ok H.box s Hs.out).mono ?_; rintro e w' ⟨rfl, rfl⟩) | (go_at_call 45; refine (lkOf_arg H.lk s Hh.out H4.out).mono ?_; rintro e w' ⟨rfl, rfl⟩))
      go_ret
      exact ⟨rfl, rfl⟩

theorem LruB.turned {w1 : World} {p bF bL nd : Nat} {xs ys : List Nat} {L : Nat → List Nat} (h : LruB w q p bF bL nd xs) (hl : Lk w1 p bF bL nd 1 L) (he : L 0 = ys) (hf : Frm (fun b => b = bF ∨ b = bL) w w1) : LruB w1 q p bF bL nd ys :=
  ⟨hf.heap h.box (fun x => by rcases x with x | x; exact h.m2 x; exact h.m3 x), hl.congr (fun i hi => by have : i = 0 := by omega
                                                                                                         subst this; exact he), h.m1, h.m2, h.m3, h.ge⟩

theorem lruAdd_calls (H : LruF w fp q xs) (s : Nat) (hs : s < 4194304) (hm : s ∉ xs) :
    Calls Try.prog 24 #[.pointer (some ⟨q, 0, none⟩), .int .u32 s] w (GivesLru w fp q (.int .i64 0) (xs ++ [s])) := by
  obtain ⟨p, bF, bL, nd, rfl, H⟩ := H
  have Hs := Lib.hid hs
  have Hm := Lib.hid hm
  clear hs hm
  go_enter Try.func24, Try.ntmps24
  go_wp2_with (first | (go_at_call 44; refine (lruCheck_ok H.box s Hs.out).mono ?_; rintro e w' ⟨rfl, rfl⟩) | (go_at_call 49; refine (room_calls H s Hs.out).mono ?_))
  rintro e w1 ⟨rfl, bF', bL', nd', H1, hlt, g1, g2, hf1⟩
  have hc := cell_at H1.box (o := 0) rfl
  have Hlt := Lib.hid hlt
  clear hlt
  go_wp2_with (go_at_call 47; refine (back_calls H1.lk 0 s (by decide) Hlt.out (fun i _ => Hm.out)).mono ?_; rintro e w2 ⟨rfl, HL, hf2⟩)
  go_ret
  have hz := hf1.size
  refine ⟨rfl, [q, p, bF', bL'], ⟨p, bF', bL', nd', rfl, H1.turned HL (upd_same _ _ _) hf2⟩, fun b hb => ?_, ?_⟩
  · simp at hb
    rcases hb with rfl | rfl | rfl | rfl
    · exact .inl (by simp)
    · exact .inl (by simp)
    · rcases g1 with rfl | g1
      · exact .inl (by simp)
      · exact .inr g1
    · rcases g2 with rfl | g2
      · exact .inl (by simp)
      · exact .inr g2
  · refine (hf1.mono (T := fun b => b ∈ [q, p, bF, bL]) (fun b _ h => by subst h; simp)).trans hf2 (fun b hb h => ?_)
    rcases h with rfl | rfl
    · rcases g1 with rfl | g1
      · simp
      · omega
    · rcases g2 with rfl | g2
      · simp
      · omega

theorem lruAdd_busy (H : LruF w fp q xs) (s : Nat) (hm : s ∈ xs) :
    Calls Try.prog 24 #[.pointer (some ⟨q, 0, none⟩), .int .u32 s] w (GivesLru w fp q (.int .i64 11) xs) := by
  have hs := H.facts.2.1 s hm
  obtain ⟨p, bF, bL, nd, rfl, H⟩ := H
  have Hs := Lib.hid hs
  have Hm := Lib.hid hm
  clear hs hm
  go_enter Try.func24, Try.ntmps24
  go_wp2_with (first | (go_at_call 44; refine (lruCheck_ok H.box s Hs.out).mono ?_; rintro e w' ⟨rfl, rfl⟩) | (go_at_call 49; refine (room_calls H s Hs.out).mono ?_))
  rintro e w1 ⟨rfl, bF', bL', nd', H1, hlt, g1, g2, hf1⟩
  have hc := cell_at H1.box (o := 0) rfl
  have Hlt := Lib.hid hlt
  clear hlt
  go_wp2_with (go_at_call 47; refine (back_busy H1.lk 0 s 0 (by decide) Hlt.out (by decide) Hm.out).mono ?_; rintro e w2 ⟨rfl, rfl⟩)
  go_ret
  have hz := hf1.size
  refine ⟨rfl, [q, p, bF', bL'], ⟨p, bF', bL', nd', rfl, H1⟩, fun b hb => ?_, hf1.mono (fun b _ h => by subst h; simp)⟩
  simp at hb
  rcases hb with rfl | rfl | rfl | rfl
  · exact .inl (by simp)
  · exact .inl (by simp)
  · rcases g1 with rfl | g1
    · exact .inl (by simp)
    · exact .inr g1
  · rcases g2 with rfl | g2
    · exact .inl (by simp)
    · exact .inr g2

theorem lruAdd_arg (H : LruF w fp q xs) (s : Nat) (hs : 4194304 ≤ s) :
    Calls Try.prog 24 #[.pointer (some ⟨q, 0, none⟩), .int .u32 s] w (GivesLru w fp q (.int .i64 2) xs) := by
  have H' := H
  obtain ⟨p, bF, bL, nd, rfl, H⟩ := H
  have Hs := Lib.hid hs
  clear hs
  go_enter Try.func24, Try.ntmps24
  go_wp2_with (go_at_call 44; refine (lruCheck_arg H.box s Hs.out).mono ?_; rintro e w' ⟨rfl, rfl⟩)
  go_ret
  exact ⟨rfl, _, H', Sub.refl _ _, Frm.refl _ _⟩

theorem lruRemove_B {p bF bL nd : Nat} (H : LruB w q p bF bL nd xs) (s : Nat) (hs : s < 4194304) (hm : s ∈ xs) :
    Calls Try.prog 46 #[.pointer (some ⟨q, 0, none⟩), .int .u32 s] w (fun e w' => e = .returned (.int .i64 0) ∧ LruB w' q p bF bL nd (xs.erase s) ∧ Frm (fun b => b = bF ∨ b = bL) w w') := by
  have H' : LruF w [q, p, bF, bL] q xs := ⟨p, bF, bL, nd, rfl, H⟩
  have hc := cell_at H.box (o := 0) rfl
  have Hs := Lib.hid hs
  have Hm := Lib.hid hm
  have hd := decide_eq_true hm
  clear hs hm
  go_enter Try.func46, Try.ntmps46
  go_wp2_with (first | (go_at_call 44; refine (lruCheck_ok H.box s Hs.out).mono ?_; rintro e w' ⟨rfl, rfl⟩) | (go_at_call 21; refine (lruHas_calls H' s Hs.out).mono ?_; rw [hd]; rintro e w' ⟨rfl, rfl⟩) | (go_at_call 66; refine (lkRemove_calls H.lk 0 s (by decide) Hm.out).mono ?_; rintro e w2 ⟨rfl, HL, hf2⟩))
  go_ret
  exact ⟨rfl, H.turned HL (upd_same _ _ _) hf2, hf2⟩

theorem lruRemove_calls (H : LruF w fp q xs) (s : Nat) (hm : s ∈ xs) :
    Calls Try.prog 46 #[.pointer (some ⟨q, 0, none⟩), .int .u32 s] w (fun e w' => e = .returned (.int .i64 0) ∧ LruF w' fp q (xs.erase s) ∧ Frm (fun b => b ∈ fp) w w') := by
  have hs := H.facts.2.1 s hm
  obtain ⟨p, bF, bL, nd, rfl, H⟩ := H
  refine (lruRemove_B H s hs hm).mono ?_
  rintro e w' ⟨rfl, H1, hf⟩
  exact ⟨rfl, ⟨p, bF, bL, nd, rfl, H1⟩, hf.mono (fun b _ h => by rcases h with rfl | rfl <;> simp)⟩

theorem lruRemove_none (H : LruF w fp q xs) (s : Nat) (hs : s < 4194304) (hm : s ∉ xs) :
    Calls Try.prog 46 #[.pointer (some ⟨q, 0, none⟩), .int .u32 s] w (fun e w' => e = .returned (.int .i64 9) ∧ w = w') := by
  have H' := H
  obtain ⟨p, bF, bL, nd, rfl, H⟩ := H
  have hc := cell_at H.box (o := 0) rfl
  have Hs := Lib.hid hs
  have hd := decide_eq_false hm
  clear hs hm
  go_enter Try.func46, Try.ntmps46
  go_wp2_with (first | (go_at_call 44; refine (lruCheck_ok H.box s Hs.out).mono ?_; rintro e w' ⟨rfl, rfl⟩) | (go_at_call 21; refine (lruHas_calls H' s Hs.out).mono ?_; rw [hd]; rintro e w' ⟨rfl, rfl⟩))
  go_ret
  exact ⟨rfl, rfl⟩

theorem lruUse_calls (H : LruF w fp q xs) (s : Nat) (hm : s ∈ xs) :
    Calls Try.prog 22 #[.pointer (some ⟨q, 0, none⟩), .int .u32 s] w (fun e w' => e = .returned (.int .i64 0) ∧ LruF w' fp q (xs.erase s ++ [s]) ∧ Frm (fun b => b ∈ fp) w w') := by
  have hN := H.facts.1
  have hs := H.facts.2.1 s hm
  have hne : s ∉ xs.erase s := fun h => ((List.Nodup.mem_erase_iff hN).1 h).1 rfl
  obtain ⟨p, bF, bL, nd, rfl, H⟩ := H
  have hsn := (H.lk.mem (i := 0) (by decide)).1 s hm
  have Hsn := Lib.hid hsn
  have Hs := Lib.hid hs
  have Hm := Lib.hid hm
  have Hne := Lib.hid hne
  clear hm hne hsn hs
  go_enter Try.func22, Try.ntmps22
  go_wp2_with (go_at_call 46; refine (lruRemove_B H s Hs.out Hm.out).mono ?_)
  rintro e w1 ⟨rfl, H1, hf1⟩
  have hc := cell_at H1.box (o := 0) rfl
  go_wp2_with (go_at_call 47; refine (back_calls H1.lk 0 s (by decide) Hsn.out (fun i _ => Hne.out)).mono ?_; rintro e w2 ⟨rfl, HL, hf2⟩)
  go_ret
  exact ⟨rfl, ⟨p, bF, bL, nd, rfl, H1.turned HL (upd_same _ _ _) hf2⟩, (hf1.trans hf2 (fun b _ h => h)).mono (fun b _ h => by rcases h with rfl | rfl <;> simp)⟩

theorem lruLen_calls (H : LruF w fp q xs) : Calls Try.prog 38 #[.pointer (some ⟨q, 0, none⟩)] w (fun e w' => e = .returned (.int .i64 (xs.length : Int)) ∧ w = w') := by
  obtain ⟨p, bF, bL, nd, rfl, H⟩ := H
  have hc := cell_at H.box (o := 0) rfl
  go_enter Try.func38, Try.ntmps38
  go_wp2_with (first | (go_at_call 44; refine (lruCheck_ok H.box 0 (by decide)).mono ?_; rintro e w' ⟨rfl, rfl⟩) | (go_at_call 60; refine (lkLen H.lk 0 (by decide)).mono ?_; rintro e w' ⟨rfl, rfl⟩))
  go_ret
  exact ⟨rfl, rfl⟩

theorem lruAll_calls (H : LruF w fp q xs) : Calls Try.prog 25 #[.pointer (some ⟨q, 0, none⟩)] w (GivesIt w xs) := by
  obtain ⟨p, bF, bL, nd, rfl, H⟩ := H
  have hc := cell_at H.box (o := 0) rfl
  go_enter Try.func25, Try.ntmps25
  go_wp2_with (first | (go_at_call 44; refine (lruCheck_ok H.box 0 (by decide)).mono ?_; rintro e w' ⟨rfl, rfl⟩) | (go_at_call 51; refine (All_calls H.lk 0 (by decide)).mono ?_))
  rintro e w1 ⟨X, v, rfl, hI, hf⟩
  go_wp2
  go_ret
  exact ⟨X, v, rfl, hI, hf⟩

end
end Go.Proofs.Ytogidmjilbpacaa
