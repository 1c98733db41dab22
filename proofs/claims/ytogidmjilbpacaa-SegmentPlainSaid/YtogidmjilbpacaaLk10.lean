/- Layer 14: Renumber by the same numbers, in a field with more nodes. -/
import Derived.Test.YtogidmjilbpacaaLk9
import Derived.Test.YtogidmjilbpacaaLk7
namespace Go.Proofs.Ytogidmjilbpacaa
open Go.RowKit Go.Cub

/-- the lists that have been put over so far -/
def sofar (L : Nat → List Nat) (k t : Nat) : Nat → List Nat := fun i => if i < k then L i else if i = k then (L k).take t else []
theorem sofar_next (L : Nat → List Nat) (k : Nat) : sofar L (k + 1) 0 = sofar L k (L k).length := by
  funext i
  unfold sofar
  by_cases h1 : i < k
  · rw [if_pos (by omega), if_pos h1]
  · by_cases h2 : i = k
    · subst h2; rw [if_pos (by omega), if_neg h1, if_pos rfl, List.take_length]
    · rw [if_neg (by omega), if_neg h1, if_neg h2]; split <;> simp
theorem sofar_step (L : Nat → List Nat) (k t : Nat) (ht : t < (L k).length) : upd (sofar L k t) k (sofar L k t k ++ [(L k)[t]]) = sofar L k (t + 1) := by
  funext i
  unfold upd sofar
  by_cases h2 : i = k
  · subst h2; rw [if_pos rfl, if_neg (Nat.lt_irrefl _), if_pos rfl, if_neg (Nat.lt_irrefl _), if_pos rfl, List.take_succ_eq_append_getElem ht]
  · rw [if_neg h2]
    by_cases h1 : i < k
    · rw [if_pos h1, if_pos h1]
    · rw [if_neg h1, if_neg h2, if_neg h1, if_neg h2]
theorem sofar_not {L : Nat → List Nat} {hd k t : Nat} (hk : k < hd) (hn : (L k).Nodup) (ha : ∀ i j, i < hd → j < hd → ∀ x, x ∈ L i → x ∈ L j → i = j) (ht : t < (L k).length) :
    ∀ i, i < hd → (L k)[t] ∉ sofar L k t i := by
  intro i hi hx
  unfold sofar at hx
  have hm := List.getElem_mem ht
  by_cases h1 : i < k
  · rw [if_pos h1] at hx; have := ha i k hi hk _ hx hm; omega
  · rw [if_neg h1] at hx
    by_cases h2 : i = k
    · rw [if_pos h2] at hx
      obtain ⟨j, hj, he⟩ := List.getElem_of_mem hx
      rw [List.getElem_take] at he
      have hj' : j < t := by simp at hj; omega
      have := (List.getElem_inj hn).1 he
      omega
    · rw [if_neg h2] at hx; cases hx

def RenPost (w : World) (p nd hd : Nat) (L : Nat → List Nat) (e : Ending) (w' : World) : Prop :=
  e = .returned (.int .i64 0) ∧ ∃ bF bL, Lk w' p bF bL nd hd L ∧ w.heap.size ≤ bF ∧ w.heap.size ≤ bL ∧ Frm (fun b => b = p) w w'

set_option maxHeartbeats 2000000 in
theorem renumber_calls {w : World} {p bF bL nd hd : Nat} {L : Nat → List Nat} (H : Lk w p bF bL nd hd L) (bT cT nd' : Nat) (hT : RowN w bT .u32 (fun i => i) nd) (h1 : 1 ≤ nd) (h2 : nd ≤ nd') (h3 : nd' ≤ 4194304) (h4 : 1 ≤ hd) :
    Calls Try.prog 69 #[.pointer (some ⟨p, 0, none⟩), .slice (some ⟨bT, 0, none⟩) nd cT, .int .i64 nd'] w (RenPost w p nd' hd L) := by
  have hmem := fun i hi => H.mem (i := i) hi
  have hap := fun i j hi hj x => H.apart (i := i) (j := j) (x := x) hi hj
  have H' := H
  obtain ⟨c, l, H, R⟩ := H
  have HH := H
  obtain ⟨⟨cF, cL, h0⟩, hF, hL, n1, n2, n3, b1, b2⟩ := H
  have hc1 := cell_at h0 (o := 1) rfl
  have hc2 := cell_at h0 (o := 2) rfl
  have Hmem := Lib.hid hmem
  have Hap := Lib.hid hap
  have hb1 : ((nd : Int) != (nd : Int)) = false := by simp
  clear hF hL R hmem hap
  go_enter Try.func69, Try.ntmps69
  go_wp2_with (go_at_call 83; refine (none_calls HH).mono ?_; rintro e w' ⟨rfl, rfl⟩)
  refine (new_calls nd' hd (by omega) h3 h4 b2).mono ?_
  rintro e w1 ⟨q, qF, qL, rfl, HQ, s1, s2, s3, F1⟩
  have hq := HQ.lt
  have hs := F1.size
  have hT1 := hT.frm F1 id
  have h01 := F1.heap h0 id
  have hc1 := cell_at h01 (o := 1) rfl
  have hc2 := cell_at h01 (o := 2) rfl
  have hplt := lt_of_some h0
  have hTlt := hT.lt
  go_wp2
  go_loopg [40] hd (fun g i wr => ∃ k, k + g = hd ∧ i = .int .i64 k ∧ Lk wr q qF qL nd' hd (sofar L k 0) ∧ Frm (fun _ => False) w wr)
  case atStart => exact ⟨0, by omega, rfl, HQ.congr (fun i _ => by unfold sofar; simp), F1⟩
  case round =>
    obtain ⟨k, hk, rfl, Hr, hfr⟩ := hrel
    have hsr := hfr.size
    have Hp : Lk wr p bF bL nd hd L := H'.frm hfr id id id
    rcases Nat.lt_or_ge k hd with hlt | hge
    · go_wp2_with (go_at_call 71; refine (all_calls Hp k hlt).mono ?_)
      rintro e w2 ⟨v, rfl, hv, hf2⟩
      have F2 : Frm (fun _ => False) w w2 := hfr.trans hf2 (fun _ _ e => e)
      have Hr2 : Lk w2 q qF qL nd' hd (sofar L k 0) := Hr.frm hf2 id id id
      have hlen := (Hmem.out k hlt).2.2
      have hqr := Hr.lt
      have hnd' := hqr.2.2.2.2.2.2.1
      have hs2 := hf2.size
      rcases SlU.cases hv with ⟨hv0, hx⟩ | ⟨b, cap, cur, hv0, hb, hh, hcap, hcur, hcs⟩
      · subst hv0
        have Hx := Lib.hid hx
        clear hx hv
        go_wp2
        go_loopg [47] 0 (fun g j wq => j = .int .i64 0 ∧ Lk wq q qF qL nd' hd (sofar L k 0) ∧ Frm (fun _ => False) w wq)
        case atStart => exact ⟨rfl, Hr2, F2⟩
        case round =>
          obtain ⟨rfl, Hq, hfq⟩ := hrel
          go_wp2
          go_roundg (hd - (k + 1))
          case measure => omega
          case rel => exact ⟨k + 1, by omega, by simp, by rw [sofar_next, Hx.out]; exact Hq, hfq⟩
      · subst hv0
        have hbN : ¬ (b = qF ∨ b = qL) := by omega
        go_wp2
        go_loopg [47] (L k).length (fun g j wq => ∃ t, t + g = (L k).length ∧ j = .int .i64 t ∧ Lk wq q qF qL nd' hd (sofar L k t) ∧ Frm (fun b => b = qF ∨ b = qL) w2 wq ∧ Frm (fun _ => False) w wq)
        case atStart => exact ⟨0, by omega, rfl, Hr2, Frm.refl _ _, F2⟩
        case round =>
          obtain ⟨t, ht, rfl, Hq, hfq2, hfq⟩ := hrel
          rcases Nat.lt_or_ge t (L k).length with htl | hte
          · have hxm : (L k)[t] ∈ L k := List.getElem_mem htl
            have hxn := (Hmem.out k hlt).1 _ hxm
            have hnot := sofar_not hlt (Hmem.out k hlt).2.1 Hap.out htl
            have hstep := sofar_step L k t htl
            have hcx := (World.cell?_of_block (w := w2) (a := ⟨b, t, none⟩) (hfq2.block b (lt_of_some hh) hbN)).trans (hcs t htl)
            generalize (L k)[t] = x at hxm hxn hnot hstep hcx
            have hcT := (hT.frm hfq id).cell (o := x) hxn
            have hback := back_calls Hq k x hlt (by omega) hnot
            rw [hstep] at hback
            have Hb := Lib.hid hback
            have hb1 : ((0 : Int) != 0) = false := rfl
            clear hback hnot hstep hcs
            go_wp2_with (go_at_call 47; refine (Hb.out).mono ?_; rintro e w3 ⟨rfl, H3, F3⟩)
            go_roundg ((L k).length - (t + 1))
            case measure => omega
            case rel =>
              refine ⟨t + 1, by omega, by simp, H3, hfq2.trans F3 (fun _ _ h => h), hfq.trans F3 (fun b hb h => ?_)⟩
              rcases h with rfl | rfl <;> omega
          · have hte' : t = (L k).length := by omega
            subst hte'
            clear hcs
            go_wp2
            go_roundg (hd - (k + 1))
            case measure => omega
            case rel => exact ⟨k + 1, by omega, by simp, by rw [sofar_next]; exact Hq, hfq⟩
    · have hkk : k = hd := by omega
      subst hkk
      have Hfin : Lk wr q qF qL nd' k L := Hr.congr fun i hi => by unfold sofar; rw [if_pos hi]
      obtain ⟨c', l', Hq, Rq⟩ := id Hfin
      obtain ⟨⟨cF', cL', h0'⟩, hF', hL', m1, m2, m3, -, -⟩ := Hq
      have c0 := cell_at h0' (o := 0) rfl
      have c1 := cell_at h0' (o := 1) rfl
      have c2 := cell_at h0' (o := 2) rfl
      have hp0 := hfr.heap h0 id
      have d0 := cell_at hp0 (o := 0) rfl
      have d1 := cell_at hp0 (o := 1) rfl
      have d2 := cell_at hp0 (o := 2) rfl
      have f0 := free_at hp0
      clear h01 Hr
      go_wp2
      have e1 := set_same hp0 0 (.slice (some ⟨qF, 0, none⟩) (nd' + k) cF')
      have e2 := set_same e1 1 (.int .i64 nd')
      have e3 := set_same e2 2 (.slice (some ⟨qL, 0, none⟩) k cL')
      refine bodyPost_ret (results_tmp rfl _ _ _) rfl ⟨rfl, qF, qL, ⟨c', l', ⟨⟨cF', cL', e3⟩, ?_, ?_, by omega, by omega, m3, h3, b2⟩, Rq⟩, s2, s3, ?_⟩
      · exact ((hF'.other (by show qF ≠ p; omega) _).other (by show qF ≠ p; omega) _).other (by show qF ≠ p; omega) _
      · exact ((hL'.other (by show qL ≠ p; omega) _).other (by show qL ≠ p; omega) _).other (by show qL ≠ p; omega) _
      · exact (((hfr.mono (T := fun b => b = p) (fun _ _ h => h.elim)).setCell (fun _ => rfl) _).setCell (fun _ => rfl) _).setCell (fun _ => rfl) _
end Go.Proofs.Ytogidmjilbpacaa
