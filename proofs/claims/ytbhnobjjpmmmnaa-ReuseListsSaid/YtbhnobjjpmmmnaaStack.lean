/- Layer 37: Stack. -/
import Derived.Test.YtbhnobjjpmmmnaaRev
import Derived.Test.YtbhnobjjpmmmnaaLru3
import Derived.Test.YtbhnobjjpmmmnaaHits
import Derived.Test.YtbhnobjjpmmmnaaPlanIn
namespace Go.Proofs.Ytbhnobjjpmmmnaa
open Go.RowKit Go.Cub

/-- the keys in the order of their first requests; the slots in the order of their last ones -/
def stk (xs : Nat → Nat) : Nat → List Nat × List Nat
  | 0 => ([], [])
  | k + 1 => if xs k ∈ (stk xs k).1 then ((stk xs k).1, (stk xs k).2.erase ((stk xs k).1.idxOf (xs k)) ++ [(stk xs k).1.idxOf (xs k)]) else ((stk xs k).1 ++ [xs k], (stk xs k).2 ++ [(stk xs k).1.length])
def stackOf (xs : Nat → Nat) (n : Nat) : List Nat := ((stk xs n).2.map fun s => nth (stk xs n).1 s 0).reverse

theorem stk_facts (xs : Nat → Nat) : ∀ k, (stk xs k).1.length = cn (dist xs) k ∧ (stk xs k).2.length = (stk xs k).1.length ∧ (∀ s, s ∈ (stk xs k).2 ↔ s < (stk xs k).1.length) ∧ (stk xs k).2.Nodup ∧
    (∀ x, x ∈ (stk xs k).1 ↔ (lastOf xs k x).isSome = true)
  | 0 => ⟨rfl, rfl, fun s => by simp [stk], List.nodup_nil, fun x => by simp [stk, lastOf]⟩
  | k + 1 => by
    obtain ⟨h1, h2, h3, h4, h5⟩ := stk_facts xs k
    have hdg := dist_ge xs k
    rw [cn]
    by_cases hm : xs k ∈ (stk xs k).1
    · have hs : stk xs (k + 1) = ((stk xs k).1, (stk xs k).2.erase ((stk xs k).1.idxOf (xs k)) ++ [(stk xs k).1.idxOf (xs k)]) := by rw [stk, if_pos hm]
      rw [hs]
      have hi := List.idxOf_lt_length_of_mem hm
      have hi2 := (h3 _).2 hi
      generalize (stk xs k).1.idxOf (xs k) = i at *
      have hl := List.length_erase_of_mem hi2
      have hpos := List.length_pos_of_mem hi2
      obtain ⟨a, ha⟩ := Option.isSome_iff_exists.1 ((h5 _).1 hm)
      refine ⟨?_, ?_, fun s => ?_, ?_, fun x => ?_⟩
      · rw [if_neg (by have := (hdg.2.2 a ha).1; omega)]; exact h1
      · simp only [List.length_append, List.length_cons, List.length_nil]; omega
      · simp only [List.mem_append, List.mem_singleton]
        rw [← h3 s]
        by_cases e : s = i
        · subst e; simp [hi2]
        · rw [h4.mem_erase_iff]; simp [e]
      · rw [List.nodup_append]
        refine ⟨h4.erase _, by simp, ?_⟩
        intro x hx y hy e
        simp at hy
        subst hy; subst e
        exact ((h4.mem_erase_iff).1 hx).1 rfl
      · have hl : lastOf xs (k + 1) x = if xs k = x then some k else lastOf xs k x := rfl
        rw [h5 x, hl]
        by_cases e : xs k = x
        · rw [if_pos e, ← e, ha]; simp
        · rw [if_neg e]
    · have hs : stk xs (k + 1) = ((stk xs k).1 ++ [xs k], (stk xs k).2 ++ [(stk xs k).1.length]) := by rw [stk, if_neg hm]
      rw [hs]
      have hn : lastOf xs k (xs k) = none := by
        cases h : lastOf xs k (xs k) with
        | none => rfl
        | some a => exact absurd ((h5 _).2 (by rw [h]; rfl)) hm
      refine ⟨?_, ?_, fun s => ?_, ?_, fun x => ?_⟩
      · rw [if_pos (by have := hdg.2.1 hn; omega)]
        simp only [List.length_append, List.length_cons, List.length_nil]; omega
      · simp only [List.length_append, List.length_cons, List.length_nil]; omega
      · simp only [List.mem_append, List.mem_singleton, List.length_append, List.length_cons, List.length_nil]
        rw [h3 s]; omega
      · rw [List.nodup_append]
        refine ⟨h4, by simp, ?_⟩
        intro x hx y hy e
        simp at hy
        subst hy; subst e
        have := (h3 _).1 hx
        omega
      · have hl : lastOf xs (k + 1) x = if xs k = x then some k else lastOf xs k x := rfl
        simp only [List.mem_append, List.mem_singleton]
        rw [h5 x, hl]
        by_cases e : xs k = x
        · rw [if_pos e]; simp [e]
        · rw [if_neg e]
          have e' : ¬ x = xs k := fun h => e h.symm
          simp [e']

def idx (ks : List Nat) : Nat → Option Int := fun x => if x ∈ ks then some (ks.idxOf x : Int) else none
theorem idx_snoc (ks : List Nat) {x : Nat} (h : x ∉ ks) : upd (idx ks) x (some (ks.length : Int)) = idx (ks ++ [x]) := by
  funext y
  by_cases e : y = x
  · subst e
    rw [upd_same]
    unfold idx
    rw [if_pos (by simp), List.idxOf_append, if_neg h]
    simp
  · rw [upd_ne _ _ e]
    unfold idx
    by_cases h2 : y ∈ ks
    · rw [if_pos h2, if_pos (by simp [h2]), List.idxOf_append, if_pos h2]
    · rw [if_neg h2, if_neg (by simp [h2, e])]

def GM53 (w : World) (b n : Nat) (g : Nat → Option Int) : Prop := GMap Try.prog 24 24 .u32 .u32 w b n g
theorem zero_u32 (w : World) : (zeroValue 24).run Try.prog w = .ok (.int .u32 0) w := by kernel_rfl

/-- What the first loop of Stack keeps. -/
structure SI (w : World) (xs : Nat → Nat) (q bM bK : Nat) (wr : World) (k : Nat) (fp : List Nat) (v : Value) : Prop where
  lru : LruF wr fp q (stk xs k).2
  map : GM53 wr bM k (idx (stk xs k).1)
  box : wr.heap[bK]? = some (.cells #[v] 23 (0, 0))
  keys : SlU wr w.heap.size v (stk xs k).1
  own : ∀ b, v.ownBlock = some b → b ∉ fp ∧ b ≠ bM ∧ b ≠ bK
  fM : bM ∉ fp
  fK : bK ∉ fp
  MK : bM ≠ bK
  fge : ∀ b ∈ fp, w.heap.size ≤ b
  Mge : w.heap.size ≤ bM
  Kge : w.heap.size ≤ bK
  frm : Frm (fun _ => False) w wr

def StackPost (w : World) (n : Nat) (xs : Nat → Nat) (e : Ending) (w' : World) : Prop :=
  ∃ v, e = .returned (.tuple #[v, .int .i64 0]) ∧ SlU w' w.heap.size v (stackOf xs n) ∧ Frm (fun _ => False) w w'

theorem stack_long {w : World} {v : Value} {n : Nat} {xs : Nat → Nat} (H : RdU w v n xs) (hn : 4096 < n) (hn2 : n < 1000000) :
    Calls Try.prog 10 #[v] w fun e w' => e = .returned (.tuple #[.slice none 0 0, .int .i64 5]) ∧ w = w' := by
  obtain ⟨a, cap, rfl, -⟩ := H
  go_enter Try.func10, Try.ntmps10
  go_wp2
  first | go_ret | go_ret2
  exact ⟨rfl, rfl⟩

theorem SlU.shape {w : World} {base : Nat} {v : Value} {xs : List Nat} (h : SlU w base v xs) : ∃ a cap, v = .slice a xs.length cap := by
  rcases SlU.cases h with ⟨hv, hx⟩ | ⟨b, cap, cur, hv, -⟩
  · subst hx; exact ⟨_, _, hv⟩
  · exact ⟨_, _, hv⟩

theorem si_start {w w1 : World} (xs : Nat → Nat) {q : Nat} {fp : List Nat} (hL : LruF w1 fp q []) (hge : ∀ b ∈ fp, w.heap.size ≤ b) (hf : Frm (fun _ => False) w w1) :
    SI w xs q w1.heap.size (w1.heap.size + 1) ((w1.alloc (Obj.map #[] 0)).alloc (Obj.cells #[.slice none 0 0] 23 (0, 0))) 0 fp (.slice none 0 0) := by
  have hs := hf.size
  refine ⟨hL.frm (((Frm.refl (fun _ => False) w1).alloc _).alloc _) (fun _ _ h => h), ?_, ?_, World.ownsRow_nil _ _ _ _, (fun b hb => by cases hb), (fun h => by have := hL.lt _ h; omega), (fun h => by have := hL.lt _ h; omega), by omega, hge, hs, by omega, (hf.alloc _).alloc _⟩
  · exact ((GMap.made w1 Try.prog 24 24 .u32 .u32).alloc _).congr (fun x _ => by simp [idx, stk])
  · have := alloc_new (w1.alloc (Obj.map #[] 0)) (Obj.cells #[.slice none 0 0] 23 (0, 0))
    simpa using this

theorem own_some {b g n c : Nat} (h : (Value.slice (some ⟨g, 0, none⟩) n c).ownBlock = some b) : g = b := by injection h

attribute [local go_sem] Oper.semAt_some in
set_option maxHeartbeats 4000000 in
theorem stack_calls {w : World} {v : Value} {n : Nat} {xs : Nat → Nat} (H : RdU w v n xs) (hn : n ≤ 4096) : Calls Try.prog 10 #[v] w (StackPost w n xs) := by
  obtain ⟨i0, hi, hz0, hz1, hz2⟩ := info_parts info_u32
  have HH := Lib.hid H
  obtain ⟨a, cap, rfl, -⟩ := H
  have hmm := @run_makeMap Try.prog
  refine calls_of_marks Try.func10 rfl ?_
  simp only [Try.ntmps10, List.size_toArray, List.length_cons, List.length_nil, Nat.reduceAdd, Nat.reduceSub, Array.replicate_succ, Array.replicate_zero, List.push_toArray, List.append_toArray, List.nil_append, List.cons_append]
  go_wp2_with (go_at_call 12; refine lruNew_calls.mono ?_)
  rintro e w1 ⟨q, fp, rfl, hL, hge, hf⟩
  go_wp2
  have h0 := Lib.hid (si_start xs hL hge hf)
  clear hL hge hf
  generalize World.alloc (World.alloc w1 _) _ = w2 at h0 ⊢
  obtain ⟨bK, hbK⟩ : ∃ b, b = w1.heap.size + 1 := ⟨_, rfl⟩
  obtain ⟨bM, hbM⟩ : ∃ b, b = w1.heap.size := ⟨_, rfl⟩
  rw [← hbK, ← hbM] at h0 ⊢
  clear hbK hbM
  go_loopw [20] (fun i wr => ∃ k : Nat, k ≤ n ∧ i = .int .i64 k ∧ ∃ fp v, SI w xs q bM bK wr k fp v) (fun i _ => n - (intOf i).toNat)
  case atStart => exact ⟨0, Nat.zero_le _, rfl, _, _, h0.out⟩
  case round =>
    clear h0
    obtain ⟨k, hk, rfl, fp', v, hI⟩ := hrel
    obtain ⟨f1, f2, f3, f4, f5⟩ := stk_facts xs k
    have hcn := cn_le (dist xs) k
    obtain ⟨aK, capK, hv⟩ := hI.keys.shape
    rcases Nat.lt_or_ge k n with hlt | hge
    · obtain ⟨a', cap', he, hin⟩ := HH.out.frm hI.frm (fun _ _ h => h)
      obtain ⟨b, off, ha', gx, hxk⟩ := hin k hlt
      injection he with e1 e2 e3
      subst e1
      subst ha'
      clear hin e2 e3
      have hwf := u32_wf hxk
      have gK := cell_at hI.box (o := 0) rfl
      have rK := free_at hI.box 0
      by_cases hm : xs k ∈ (stk xs k).1
      · have hst : stk xs (k + 1) = ((stk xs k).1, (stk xs k).2.erase ((stk xs k).1.idxOf (xs k)) ++ [(stk xs k).1.idxOf (xs k)]) := by rw [stk, if_pos hm]
        have hc1 : (idx (stk xs k).1 (xs k)).getD 0 = ((stk xs k).1.idxOf (xs k) : Nat) := by simp [idx, hm]
        have hc2 : (idx (stk xs k).1 (xs k)).isSome = true := by simp [idx, hm]
        have hi2 := (f3 _).2 (List.idxOf_lt_length_of_mem hm)
        generalize (stk xs k).1.idxOf (xs k) = s at hst hc1 hi2
        have Hst := Lib.hid hst
        have HI := Lib.hid hI
        have Hi2 := Lib.hid hi2
        clear hst f1 f2 f3 f4 f5 hm hi2 hI gK rK
        go_wp2_with (first | (at_lookup; refine wpList_gmap_look _ rfl _ _ 53 rfl 24 24 .u32 .u32 Try.underlying24 Try.underlying53 Try.underlying24 (zero_u32 _) bM _ _ rfl HI.out.map (xs k) rfl hwf s true hc1 hc2 ?_) | (go_at_call 14; refine (lruUse_calls HI.out.lru s Hi2.out).mono ?_))
        rintro e w3 ⟨rfl, hL3, hf3⟩
        have hI3 : SI w xs q bM bK w3 (k + 1) fp' v := by
          have I := HI.out
          refine ⟨by rw [Hst.out]; exact hL3, ?_, hf3.heap I.box I.fK, by rw [Hst.out]; exact own_frm I.keys hf3 (fun b hb => (I.own b hb).1), I.own, I.fM, I.fK, I.MK, I.fge, I.Mge, I.Kge, I.frm.trans hf3 (fun b hb h => by have := I.fge b h; omega)⟩
          rw [Hst.out]
          exact (GMap.frm I.map hf3 I.fM).mono (by omega)
        have HI3 := Lib.hid hI3
        clear hI3 HI hL3 hf3
        go_wp2
        go_roundw
        case rel => exact ⟨k + 1, by omega, by go_num, _, _, HI3.out⟩
        case measure => simp only [intOf]; omega
      · have hst : stk xs (k + 1) = ((stk xs k).1 ++ [xs k], (stk xs k).2 ++ [(stk xs k).1.length]) := by rw [stk, if_neg hm]
        have hc1 : (idx (stk xs k).1 (xs k)).getD 0 = 0 := by simp [idx, hm]
        have hc2 : (idx (stk xs k).1 (xs k)).isSome = false := by simp [idx, hm]
        have hidx := idx_snoc _ hm
        have hsn : (stk xs k).1.length ∉ (stk xs k).2 := fun h => by have := (f3 _).1 h; omega
        have hkl : (stk xs k).1.length ≤ k := by omega
        generalize hks : (stk xs k).1 = ks at hst hc1 hc2 hidx hsn hkl hv
        generalize hLs : (stk xs k).2 = Ls at hst hsn
        obtain ⟨m, hmm2⟩ : ∃ m, m = ks.length := ⟨_, rfl⟩
        rw [← hmm2] at hv hst hsn hkl hidx
        subst hv
        have I := hI
        have Ilru : LruF wr fp' q Ls := by rw [← hLs]; exact I.lru
        have Imap : GM53 wr bM k (idx ks) := by rw [← hks]; exact I.map
        have Ikeys : SlU wr w.heap.size (.slice aK m capK) ks := by rw [← hks]; exact I.keys
        have Hst := Lib.hid hst
        have Hidx := Lib.hid hidx
        have Hsn := Lib.hid hsn
        have Hm := Lib.hid hmm2
        have I := Lib.hid I
        have Imap := Lib.hid Imap
        have Ilru := Lib.hid Ilru
        have Ikeys := Lib.hid Ikeys
        have hkm : k < maxLen := by unfold maxLen; omega
        have hml : m < 4194304 := by omega
        have hwm : (Lit.int .u32 (m : Int)).wf = true := u32_wf (by omega)
        clear hst f1 f2 f3 f4 f5 hm hidx hsn hmm2 hI hks hLs rK
        go_wp2_with (first | (at_lookup; refine wpList_gmap_look _ rfl _ _ 53 rfl 24 24 .u32 .u32 Try.underlying24 Try.underlying53 Try.underlying24 (zero_u32 _) bM _ _ rfl Imap.out (xs k) rfl hwf 0 false hc1 hc2 ?_) | (at_mapUpdate; refine wpList_gmap_put _ rfl _ _ _ 53 rfl 24 24 .u32 .u32 Try.underlying24 Try.underlying53 Try.underlying24 bM k _ rfl Imap.out hkm (xs k) (m : Int) rfl rfl hwf hwm ?_))
        intro w3 hM3 hf3
        have hB3 := hf3.heap I.out.box (fun h => I.out.MK h.symm)
        have gK3 := cell_at hB3 (o := 0) rfl
        have hL3 := Ilru.out.frm hf3 (fun b hb h => I.out.fM (by rw [← h]; exact hb))
        have hS3 : SlU w3 w.heap.size (.slice aK m capK) ks := own_frm Ikeys.out hf3 (fun b hb => (I.out.own b hb).2.1)
        have hF3 : Frm (fun _ => False) w w3 := I.out.frm.trans hf3 (fun b hb h => by have := I.out.Mge; omega)
        have HL3 := Lib.hid hL3
        have HS3 := Lib.hid hS3
        have HF3 := Lib.hid hF3
        have HB3 := Lib.hid hB3
        have HM3 := Lib.hid hM3
        clear hL3 hS3 hF3 hB3 hM3 hf3 gK
        go_wp2_with (go_at_call 15; refine (lruAdd_calls HL3.out m hml Hsn.out).mono ?_)
        rintro e w4 ⟨rfl, fp'', hL4, hsub, hf4⟩
        have hB4 := hf4.heap HB3.out I.out.fK
        have gK4 := cell_at hB4 (o := 0) rfl
        have rK4 := free_at hB4 0
        have hS4 : SlU w4 w.heap.size (.slice aK m capK) ks := own_frm HS3.out hf4 (fun b hb => (I.out.own b hb).1)
        have hM4 := GMap.frm HM3.out hf4 I.out.fM
        have hF4 : Frm (fun _ => False) w w4 := HF3.out.trans hf4 (fun b hb h => by have := I.out.fge b h; omega)
        have hsz4 := hF4.size
        have hS4' : w4.ownsRow w.heap.size 24 1 (.slice aK m capK) m (us ks) := by have := hS4; unfold SlU at this; rw [← Hm.out] at this; exact this
        have HL4 := Lib.hid hL4
        have HS4 := Lib.hid hS4'
        have HF4 := Lib.hid hF4
        have HB4 := Lib.hid hB4
        have HM4 := Lib.hid hM4
        have Hf4 := Lib.hid hf4
        have Hsub := Lib.hid hsub
        clear hL4 hS4 hS4' hF4 hB4 hM4 hf4 gK3 hsub
        go_wp2_with (at_builtin; refine wpList_append2 _ rfl _ _ 23 rfl w.heap.size 24 i0 (.int .u32 0) 1 4 Try.underlying23 hi hz0 hz1 hz2 rfl (by decide) _ _ _ rfl (World.ownsRow.alloc HS4.out _) ⟨w4.heap.size, 0, none⟩ 1 1 [.int .u32 (xs k)] rfl rfl (one_cell_at) (one_cell_u (xs k)) (by unfold maxLen; omega) (by omega) (by simp; omega) ?_)
        intro v' w5 hown' hgrow hblk
        obtain ⟨g, capN, hv'⟩ : ∃ g capN, v' = .slice (some ⟨g, 0, none⟩) (m + 1) capN := by
          rcases hown'.2 with h | ⟨g, c, cur, hv, _⟩
          · exact absurd h.2 (by omega)
          · exact ⟨g, c, hv⟩
        subst hv'
        have hG : Frm (fun b => (Value.slice aK m capK).ownBlock = some b) w4 w5 := ((Frm.refl _ w4).alloc _).trans (T := fun b => (Value.slice aK m capK).ownBlock = some b) (Frm.grown hgrow fun _ _ hb => hb) (fun b _ h => h)
        have hB5 := hG.heap HB4.out (fun h => (I.out.own bK h).2.2 rfl)
        have gK5 := cell_at hB5 (o := 0) rfl
        have rK5 := free_at hB5 0
        have HG := Lib.hid hG
        have HB5 := Lib.hid hB5
        have Hown := Lib.hid hown'
        have Hblk := Lib.hid hblk
        clear hG hB5 hown' hblk hgrow gK4 rK4
        go_wp2
        have hI6 : SI w xs q bM bK (w5.setCell ⟨bK, 0, none⟩ (.slice (some ⟨g, 0, none⟩) (m + 1) capN)) (k + 1) fp'' (.slice (some ⟨g, 0, none⟩) (m + 1) capN) := by
          have I := I.out
          have hG := HG.out
          have hsz := hG.size
          have hb3 := lt_of_some HB3.out
          have hm3 := GMap.lt HM3.out
          have hs34 := Hf4.out.size
          have ho3 : ∀ b, (Value.slice aK m capK).ownBlock = some b → b < w3.heap.size := fun b hb => own_lt HS3.out hb
          have hnew : ∀ b, b < w3.heap.size → b ∉ fp' → b ∉ fp'' := fun b hb hn h => by
            rcases Hsub.out b h with h1 | h1
            · exact hn h1
            · omega
          have hoK : ∀ b, (Value.slice (some ⟨g, 0, none⟩) (m + 1) capN).ownBlock = some b → b ∉ fp'' ∧ b ≠ bM ∧ b ≠ bK := fun b hb => by
            rcases Hblk.out b hb with h1 | h1
            · have h2 := I.own b h1
              exact ⟨hnew b (ho3 b h1) h2.1, h2.2⟩
            · have h1 : w4.heap.size ≤ b := Nat.le_trans (by simp) h1
              refine ⟨fun h => ?_, by omega, by omega⟩
              have := HL4.out.lt b h
              omega
          have hnK := hnew bK hb3 I.fK
          have hS : Frm (fun b => b = bK) w5 (w5.setCell ⟨bK, 0, none⟩ (.slice (some ⟨g, 0, none⟩) (m + 1) capN)) := (Frm.refl (fun b => b = bK) w5).setCell (a := ⟨bK, 0, none⟩) (fun _ => rfl) _
          refine ⟨?_, ?_, ?_, ?_, hoK, hnew bM hm3 I.fM, hnK, I.MK, fun b hb => ?_, I.Mge, I.Kge, ?_⟩
          · rw [Hst.out]
            exact (HL4.out.frm hG (fun b hb h => hnew b (ho3 b h) (I.own b h).1 hb)).frm hS (fun b hb h => hnK (by rw [← h]; exact hb))
          · rw [Hst.out, ← Hidx.out]
            exact (GMap.frm (GMap.frm HM4.out hG (fun h => (I.own bM h).2.1 rfl)) hS I.MK)
          · exact set_same HB5.out 0 (.slice (some ⟨g, 0, none⟩) (m + 1) capN)
          · rw [Hst.out]
            have h1 : SlU w5 w.heap.size (.slice (some ⟨g, 0, none⟩) (m + 1) capN) (ks ++ [xs k]) := SlU.snoc (by rw [← Hm.out]; exact Hown.out)
            exact own_frm h1 hS (fun b hb => (hoK b hb).2.2)
          · rcases Hsub.out b hb with h1 | h1
            · exact I.fge b h1
            · have := HF3.out.size; omega
          · exact (HF4.out.trans hG (fun b hb h => by have := own_ge Ikeys.out h; omega)).trans hS (fun b hb h => by have := I.Kge; omega)
        have HI6 := Lib.hid hI6
        clear hI6 gK5 rK5
        go_wp2
        go_roundw
        case rel => exact ⟨k + 1, by omega, by go_num, _, _, HI6.out⟩
        case measure => simp only [intOf]; omega
    · have hkn : k = n := by omega
      subst hkn
      have I := Lib.hid hI
      have hlen : (stk xs k).2.length ≤ 4194304 := by rw [f2, f1]; omega
      have Hlen := Lib.hid hlen
      have F3 := Lib.hid f3
      have hbO : wr.heap.size ≠ bK ∧ wr.heap.size ∉ fp' ∧ w.heap.size ≤ wr.heap.size := ⟨fun h => by have := lt_of_some hI.box; omega, fun h => by have := hI.lru.lt _ h; omega, hI.frm.size⟩
      have HbO := Lib.hid hbO
      clear hI f1 f2 f3 f4 f5 hcn hlen hbO hv
      go_wp2_with (go_at_call 25; refine (lruAll_calls (I.out.lru.frm ((Frm.refl (fun _ => False) wr).alloc _) (fun _ _ h => h))).mono ?_)
      rintro e w3 ⟨X, vi, rfl, hIt, hf3⟩
      go_wp2
      obtain ⟨bO, hbO⟩ : ∃ b, b = wr.heap.size := ⟨_, rfl⟩
      rw [← hbO] at HbO ⊢
      have hO3 : w3.heap[bO]? = some (.cells #[.slice none 0 0] 23 (0, 0)) := hf3.heap (by rw [hbO]; exact alloc_new _ _) (fun h => h)
      have hK3 := hf3.heap (alloc_old I.out.box _) (fun h => h)
      have hS3 := own_frm (World.ownsRow.alloc I.out.keys _) hf3 (fun b _ h => h)
      have hF3 : Frm (fun _ => False) w w3 := (I.out.frm.alloc _).trans hf3 (fun _ _ h => h)
      have hsz3 := hF3.size
      have hsz4 := hf3.size
      have hOlt := lt_of_some hO3
      have Hlt := Lib.hid (show bO < w3.heap.size ∧ bK < w3.heap.size ∧ X < w3.heap.size ∧ (∀ b, vi.ownBlock = some b → b < w3.heap.size ∧ b ≠ bO) ∧ (∀ b, v.ownBlock = some b → b < w3.heap.size ∧ b ≠ bO) from
        ⟨hOlt, lt_of_some hK3, lt_of_some hIt.box, fun b hb => ⟨own_lt hIt.own hb, fun e => by have := own_ge hIt.own hb; simp at this; omega⟩, fun b hb => ⟨own_lt hS3 hb, fun e => by have := own_lt I.out.keys hb; omega⟩⟩)
      clear hbO
      refine wp_range (gf := 50) (lb := #[.pointer (some ⟨X, 0, none⟩)]) (N := (stk xs k).2.length) (encs := fun j => #[.int .u32 (nth (stk xs k).2 j 0 : Nat)]) (Kp := fun W W' => ∀ b, vi.ownBlock = some b → KeepB b W W')
        rfl ?eg (fun _ => rfl) (fun W hW => all1_iter (hIt.bk hW) Hlen.out) (fun A B C D h1 h2 h3 b hb => KeepB.bk h1 (h2 b hb) h3)
        (fun j W => ∃ vO, W.heap[bO]? = some (.cells #[vO] 23 (0, 0)) ∧ SlU W w3.heap.size vO (((stk xs k).2.take j).map fun s => nth (stk xs k).1 s 0) ∧ W.heap[bK]? = some (.cells #[v] 23 (0, 0)) ∧ SlU W w.heap.size v (stk xs k).1 ∧ Frm (fun _ => False) w W ∧ w3.heap.size ≤ W.heap.size)
        (fun _ _ => False) ?hI (fun _ _ _ h _ => h) ⟨_, hO3, World.ownsRow_nil _ _ _ _, hK3, hS3, hF3, Nat.le_refl _⟩ ?hround ?hdone (fun _ _ _ _ h _ => h.elim)
      case eg => intro args w; rfl
      case hI =>
        rintro j W W' ⟨vO, h1, h2, h3, h4, h5, h6⟩ hb
        exact ⟨vO, hb.cells h1, hb.owns h2, hb.cells h3, hb.owns h4, hb.frm h5 hsz3, Nat.le_trans h6 hb.size⟩
      case hround =>
        rintro l j W hj ⟨vO, h1, h2, h3, h4, h5, h6⟩
        obtain ⟨s, hs⟩ : ∃ s, s = nth (stk xs k).2 j 0 := ⟨_, rfl⟩
        rw [← hs]
        have ht : (stk xs k).2.take (j + 1) = (stk xs k).2.take j ++ [s] := by rw [hs, nth_lt _ hj, List.take_succ_eq_append_getElem hj]
        have hsm : s < (stk xs k).1.length := (F3.out s).1 (by rw [hs, nth_lt _ hj]; exact List.getElem_mem hj)
        have hm := congrArg (List.map fun s => nth (stk xs k).1 s 0) ht
        rw [List.map_append] at hm
        have Hm := Lib.hid hm
        clear hs ht hm
        simp only []
        gi_wp2
        refine ⟨KeepsFrom.refl _ _, fun W2 hW2 => ?_⟩
        have h1 := hW2.cells h1
        have h2 := hW2.owns h2
        have h3 := hW2.cells h3
        have h4 : SlU W2 w.heap.size v (stk xs k).1 := hW2.owns h4
        have h5 := hW2.frm h5 hsz3
        have hs2 := hW2.size
        have gO := cell_at h1 (o := 0) rfl
        have rO := free_at h1 0
        have gK := cell_at h3 (o := 0) rfl
        rcases SlU.cases h4 with ⟨hv0, hx0⟩ | ⟨g, capG, curG, hvG, -, hhG, hcG, -, hcells⟩
        · rw [hx0] at hsm; cases hsm
        have gS := hcells s hsm
        generalize hy : (stk xs k).1[s] = y at gS
        have hy2 : nth (stk xs k).1 s 0 = y := by rw [nth_lt _ hsm, hy]
        have Hy2 := Lib.hid hy2
        have Hm := Hm
        subst hvG
        obtain ⟨M, hM⟩ : ∃ M, M = (stk xs k).1.length := ⟨_, rfl⟩
        rw [← hM] at gK hsm ⊢
        have HM := Lib.hid hM
        clear hy2 hy hcells hcG hhG hM
        gi_wp2
        refine wpIn_region_plan 8 (fun W ↦ W.cell? ⟨bK, 0, none⟩ = some (.slice (some ⟨g, 0, none⟩) M capG) ∧ W.cell? ⟨g, s, none⟩ = some (.int .u32 (y : Int))) [0, 5, 6, 7] (.block 2 (.block 4 (.block 6 (.block 8 (.loop (.seq (.block 0 (.loop (.seq (.block 5 (.loop (.seq (.block 6 (.loop (.seq (.block 7 .skip) .skip))) .skip))) .skip))) (.seq (.block 5 (.loop (.seq (.block 0 (.loop (.seq (.block 6 (.loop (.seq (.block 7 .skip) .skip))) .skip))) .skip))) .skip))))))) rfl rfl (by kernel_rfl) (by kernel_rfl) ?_ ?_
        · exact ⟨gK, gS⟩
        repeat (first | (refine plan_free rfl rfl (fun K hK => ?_); (go_simp; (try go_bits); (try (go_ite <;> go_prune <;> (try go_simp)))); refine hK _ (fun W hW => ?_) ?_ <;> clear hK K; (· ((go_simp; (try go_bits); (try (go_ite <;> go_prune <;> (try go_simp)))); (first | done | rfl | (simp (disch := omega) only [IntWalk.u32_in]; done) | (simp (disch := omega) only [IntWalk.i64_in]; done) | (simp (disch := omega) only [IntWalk.wrap64_in]; done))))) | (refine plan_tight rfl rfl (fun K hK => ?_); (go_simp; (try go_bits); (try (go_ite <;> go_prune <;> (try go_simp)))); refine hK _ ?_; clear hK K))
        have hlenj : (((stk xs k).2.take j).map fun s => nth (stk xs k).1 s 0).length = j := by simp; omega
        have hjj : j ≤ 4194304 := by have := Hlen.out; omega
        have hown2 : W2.ownsRow w3.heap.size 24 1 vO j (us (((stk xs k).2.take j).map fun s => nth (stk xs k).1 s 0)) := by
          have := h2
          rw [hlenj] at this
          exact this
        obtain ⟨W5, hW5⟩ : ∃ W5, W5 = (W2.alloc (.cells #[.int .u32 (y : Int)] 24 (0, 0))).drew := ⟨_, rfl⟩
        have HnewC := Lib.hid (show ∀ (j : Nat) (u : Value), [Value.int .u32 (y : Int)][j]? = some u → W5.cell? (({ block := W2.heap.size, off := 0, spot := none } : Addr).add j) = some u by rw [hW5]; exact one_cell_at)
        have HO5 := Lib.hid (show W5.heap[bO]? = some (.cells #[vO] 23 (0, 0)) by rw [hW5]; exact alloc_old h1 _)
        have HK5 := Lib.hid (show W5.heap[bK]? = some (.cells #[.slice (some ⟨g, 0, none⟩) M capG] 23 (0, 0)) by rw [hW5, HM.out]; exact alloc_old h3 _)
        have HS5 := Lib.hid (show W5.ownsRow w.heap.size 24 1 (.slice (some ⟨g, 0, none⟩) M capG) (stk xs k).1.length (us (stk xs k).1) by rw [hW5]; have := World.ownsRow.alloc (o := Obj.cells #[.int .u32 (y : Int)] 24 (0, 0)) h4; rw [← HM.out] at this ⊢; exact this)
        have Hown5 := Lib.hid (show W5.ownsRow w3.heap.size 24 1 vO j (us (((stk xs k).2.take j).map fun s => nth (stk xs k).1 s 0)) by rw [hW5]; exact World.ownsRow.alloc hown2 _)
        have gO5 := cell_at HO5.out (o := 0) rfl
        have gK5 := cell_at HK5.out (o := 0) rfl
        have gS5 : W5.cell? ⟨g, s, none⟩ = some (.int .u32 (y : Int)) := by
          rw [hW5, ← gS]
          simp only [World.cell?]
          rw [show ((W2.alloc (.cells #[.int .u32 (y : Int)] 24 (0, 0))).drew).heap[g]? = W2.heap[g]? from Below.heap_alloc _ _ _ (by have := (Hlt.out.2.2.2.2 g rfl).1; omega)]
        have HgS5 := Lib.hid gS5
        have HaK := Lib.hid (show (W2.alloc (.cells #[.int .u32 (y : Int)] 24 (0, 0))).cell? ⟨bK, 0, none⟩ = some (.slice (some ⟨g, 0, none⟩) M capG) by have := gK5; rw [hW5] at this; exact this)
        have HaS := Lib.hid (show (W2.alloc (.cells #[.int .u32 (y : Int)] 24 (0, 0))).cell? ⟨g, s, none⟩ = some (.int .u32 (y : Int)) by have := gS5; rw [hW5] at this; exact this)
        have hsz5 : w3.heap.size ≤ W5.heap.size := by rw [hW5]; show w3.heap.size ≤ (W2.alloc _).heap.size; simp; omega
        have HW5 := Lib.hid hW5
        have H3 := Lib.hid h3
        have H1 := Lib.hid h1
        have H2 := Lib.hid h2
        have H4 := Lib.hid h4
        clear h1 h2 h3 h4 hown2 hlenj hW5
        refine plan_two rfl rfl ?_ ?_
        · clear gO5 gK5 gS5
          go_wp2
          refine plan_one rfl ?_
          go_wp2
          refine ⟨⟨HaK.out, HaS.out⟩, ?_⟩
          rw [← HW5.out]
          have gK5 := cell_at HK5.out (o := 0) rfl
          have gO5 := cell_at HO5.out (o := 0) rfl
          refine plan_one rfl ?_
          refine wpList_append2 _ rfl _ _ 23 rfl w3.heap.size 24 i0 (.int .u32 0) 1 4 Try.underlying23 hi hz0 hz1 hz2 rfl (by decide) _ _ _ rfl Hown5.out ⟨W2.heap.size, 0, none⟩ 1 1 [.int .u32 y] rfl rfl HnewC.out (one_cell_u y) (by unfold maxLen; omega) (by omega) (by omega) ?_
          intro v' W6 hown' hgrow hblk
          obtain ⟨g2, capN, hv'⟩ : ∃ g2 capN, v' = .slice (some ⟨g2, 0, none⟩) (j + 1) capN := by
            rcases hown'.2 with h | ⟨g, c, cur, hv, _⟩
            · exact absurd h.2 (by omega)
            · exact ⟨g, c, hv⟩
          subst hv'
          have hG : Frm (fun b => vO.ownBlock = some b) W5 W6 := Frm.grown hgrow fun _ _ hb => hb
          have hge5 : ∀ b, vO.ownBlock = some b → w3.heap.size ≤ b := fun b hb => own_ge Hown5.out hb
          have hlt := Hlt.out
          have hO6 := hG.heap HO5.out (fun h => by have := hge5 _ h; omega)
          have hK6 := hG.heap HK5.out (fun h => by have := hge5 _ h; omega)
          have hgl := (hlt.2.2.2.2 g rfl)
          have hS6 : W6.ownsRow w.heap.size 24 1 (.slice (some ⟨g, 0, none⟩) M capG) (stk xs k).1.length (us (stk xs k).1) := own_frm HS5.out hG (fun b hb h => by have hb' := own_some hb; have := hge5 _ h; omega)
          have gO6 := cell_at hO6 (o := 0) rfl
          have rO6 := free_at hO6 0
          have gK6 := cell_at hK6 (o := 0) rfl
          have gS6 : W6.cell? ⟨g, s, none⟩ = some (.int .u32 (y : Int)) := by
            rw [← HgS5.out]
            simp only [World.cell?, hG.block g (by omega) (fun h => by have := hge5 _ h; omega)]
          have hg2 : w3.heap.size ≤ g2 := own_ge hown' rfl
          have HO6 := Lib.hid hO6
          have HK6 := Lib.hid hK6
          have HS6 := Lib.hid hS6
          have Hown6 := Lib.hid hown'
          have HG := Lib.hid hG
          have Hge5 := Lib.hid hge5
          clear hO6 hK6 hS6 hown' hG hgrow hblk hge5
          have hne1 : ¬ bO = bK := fun h => by have := HbO.out; omega
          have hne2 : ¬ bO = g := fun h => by omega
          go_wp2
          refine plan_one rfl ?_
          go_wp2
          refine plan_done ?_
          have hlt := Hlt.out
          have hsW : W2.heap.size ≤ W5.heap.size := by rw [HW5.out]; show W2.heap.size ≤ (W2.alloc _).heap.size; simp
          have hF5 : ∀ (i : Nat) (o : Obj), W2.heap[i]? = some o → W5.heap[i]? = some o := fun i o h => by rw [HW5.out]; exact alloc_old h _
          have hG := HG.out
          refine (⟨⟨?_, ?_⟩, ?_, ?_⟩ : KeepsFrom _ _ _ ∧ _ ∧ _)
          · have := hG.size
            show W2.heap.size ≤ (W6.setCell _ _).heap.size
            simp [World.setCell]
            omega
          · intro i o hi ho hnc
            have h5 := hF5 i o ho
            have h6' := hG.heap h5 (fun h => by
              rcases Hown5.out.2 with hh | ⟨g', c, cur, hv, _, hc, _⟩
              · rw [hh.1] at h; cases h
              · rw [hv] at h
                have e : g' = i := by injection h
                subst e
                rw [hc] at h5
                injection h5 with h5
                rw [← h5] at hnc
                cases hnc)
            exact set_other h6' (show i ≠ bO by omega) _
          · intro b hb A t f hA
            have h2' := hW2.cells hA
            have h5 := hF5 b _ h2'
            have h6' := hG.heap h5 (fun h => by have := Hge5.out _ h; have := (hlt.2.2.2.1 b hb).1; omega)
            exact set_other h6' (show b ≠ bO from (hlt.2.2.2.1 b hb).2) _
          · have hset : Frm (fun b => b = bO) W6 (W6.setCell ⟨bO, 0, none⟩ (.slice (some ⟨g2, 0, none⟩) (j + 1) capN)) := (Frm.refl (fun b => b = bO) W6).setCell (a := ⟨bO, 0, none⟩) (fun _ => rfl) _
            have hF2 : Frm (fun _ => False) w W5 := by rw [HW5.out]; exact ((h5.alloc _).drew)
            refine ⟨_, set_same HO6.out 0 _, ?_, ?_, ?_, ?_, ?_⟩
            · rw [Hm.out, List.map_singleton, Hy2.out]
              refine own_frm (SlU.snoc ?_) hset (fun b hb h => by have hb' := own_some hb; omega)
              rw [show (((stk xs k).2.take j).map fun s => nth (stk xs k).1 s 0).length = j by simp; omega]
              exact Hown6.out
            · exact set_other HK6.out (fun h => hne1 h.symm) _
            · have h1 := own_frm HS6.out hset (fun b hb h => by have hb' := own_some hb; omega)
              exact h1
            · exact (hF2.trans hG (fun b hb h => by have := Hge5.out _ h; omega)).trans hset (fun b hb h => by have := HbO.out; omega)
            · have := hG.size
              show w3.heap.size ≤ (W6.setCell _ _).heap.size
              simp [World.setCell]
              omega
        · clear gO5 gK5 gS5
          go_wp2
          refine ⟨⟨HaK.out, HaS.out⟩, ?_⟩
          rw [← HW5.out]
          have gK5 := cell_at HK5.out (o := 0) rfl
          have gO5 := cell_at HO5.out (o := 0) rfl
          have gS5 := HgS5.out
          refine plan_one rfl ?_
          go_wp2
          refine plan_one rfl ?_
          refine wpList_append2 _ rfl _ _ 23 rfl w3.heap.size 24 i0 (.int .u32 0) 1 4 Try.underlying23 hi hz0 hz1 hz2 rfl (by decide) _ _ _ rfl Hown5.out ⟨W2.heap.size, 0, none⟩ 1 1 [.int .u32 y] rfl rfl HnewC.out (one_cell_u y) (by unfold maxLen; omega) (by omega) (by omega) ?_
          intro v' W6 hown' hgrow hblk
          obtain ⟨g2, capN, hv'⟩ : ∃ g2 capN, v' = .slice (some ⟨g2, 0, none⟩) (j + 1) capN := by
            rcases hown'.2 with h | ⟨g, c, cur, hv, _⟩
            · exact absurd h.2 (by omega)
            · exact ⟨g, c, hv⟩
          subst hv'
          have hG : Frm (fun b => vO.ownBlock = some b) W5 W6 := Frm.grown hgrow fun _ _ hb => hb
          have hge5 : ∀ b, vO.ownBlock = some b → w3.heap.size ≤ b := fun b hb => own_ge Hown5.out hb
          have hlt := Hlt.out
          have hO6 := hG.heap HO5.out (fun h => by have := hge5 _ h; omega)
          have hK6 := hG.heap HK5.out (fun h => by have := hge5 _ h; omega)
          have hgl := (hlt.2.2.2.2 g rfl)
          have hS6 : W6.ownsRow w.heap.size 24 1 (.slice (some ⟨g, 0, none⟩) M capG) (stk xs k).1.length (us (stk xs k).1) := own_frm HS5.out hG (fun b hb h => by have hb' := own_some hb; have := hge5 _ h; omega)
          have gO6 := cell_at hO6 (o := 0) rfl
          have rO6 := free_at hO6 0
          have gK6 := cell_at hK6 (o := 0) rfl
          have gS6 : W6.cell? ⟨g, s, none⟩ = some (.int .u32 (y : Int)) := by
            rw [← HgS5.out]
            simp only [World.cell?, hG.block g (by omega) (fun h => by have := hge5 _ h; omega)]
          have hg2 : w3.heap.size ≤ g2 := own_ge hown' rfl
          have HO6 := Lib.hid hO6
          have HK6 := Lib.hid hK6
          have HS6 := Lib.hid hS6
          have Hown6 := Lib.hid hown'
          have HG := Lib.hid hG
          have Hge5 := Lib.hid hge5
          clear hO6 hK6 hS6 hown' hG hgrow hblk hge5
          have hne1 : ¬ bO = bK := fun h => by have := HbO.out; omega
          have hne2 : ¬ bO = g := fun h => by omega
          go_wp2
          refine plan_one rfl ?_
          go_wp2
          refine plan_done ?_
          have hlt := Hlt.out
          have hsW : W2.heap.size ≤ W5.heap.size := by rw [HW5.out]; show W2.heap.size ≤ (W2.alloc _).heap.size; simp
          have hF5 : ∀ (i : Nat) (o : Obj), W2.heap[i]? = some o → W5.heap[i]? = some o := fun i o h => by rw [HW5.out]; exact alloc_old h _
          have hG := HG.out
          refine (⟨⟨?_, ?_⟩, ?_, ?_⟩ : KeepsFrom _ _ _ ∧ _ ∧ _)
          · have := hG.size
            show W2.heap.size ≤ (W6.setCell _ _).heap.size
            simp [World.setCell]
            omega
          · intro i o hi ho hnc
            have h5 := hF5 i o ho
            have h6' := hG.heap h5 (fun h => by
              rcases Hown5.out.2 with hh | ⟨g', c, cur, hv, _, hc, _⟩
              · rw [hh.1] at h; cases h
              · rw [hv] at h
                have e : g' = i := by injection h
                subst e
                rw [hc] at h5
                injection h5 with h5
                rw [← h5] at hnc
                cases hnc)
            exact set_other h6' (show i ≠ bO by omega) _
          · intro b hb A t f hA
            have h2' := hW2.cells hA
            have h5 := hF5 b _ h2'
            have h6' := hG.heap h5 (fun h => by have := Hge5.out _ h; have := (hlt.2.2.2.1 b hb).1; omega)
            exact set_other h6' (show b ≠ bO from (hlt.2.2.2.1 b hb).2) _
          · have hset : Frm (fun b => b = bO) W6 (W6.setCell ⟨bO, 0, none⟩ (.slice (some ⟨g2, 0, none⟩) (j + 1) capN)) := (Frm.refl (fun b => b = bO) W6).setCell (a := ⟨bO, 0, none⟩) (fun _ => rfl) _
            have hF2 : Frm (fun _ => False) w W5 := by rw [HW5.out]; exact ((h5.alloc _).drew)
            refine ⟨_, set_same HO6.out 0 _, ?_, ?_, ?_, ?_, ?_⟩
            · rw [Hm.out, List.map_singleton, Hy2.out]
              refine own_frm (SlU.snoc ?_) hset (fun b hb h => by have hb' := own_some hb; omega)
              rw [show (((stk xs k).2.take j).map fun s => nth (stk xs k).1 s 0).length = j by simp; omega]
              exact Hown6.out
            · exact set_other HK6.out (fun h => hne1 h.symm) _
            · have h1 := own_frm HS6.out hset (fun b hb h => by have hb' := own_some hb; omega)
              exact h1
            · exact (hF2.trans hG (fun b hb h => by have := Hge5.out _ h; omega)).trans hset (fun b hb h => by have := HbO.out; omega)
            · have := hG.size
              show w3.heap.size ≤ (W6.setCell _ _).heap.size
              simp [World.setCell]
              omega
      case hdone =>
        rintro D W hD ⟨vO, h1, h2, h3, h4, h5, h6⟩ hDd
        rw [List.take_length] at h2
        have gO := cell_at h1 (o := 0) rfl
        have hlen : ((stk xs k).2.map fun s => nth (stk xs k).1 s 0).length ≤ 4194304 := by rw [List.length_map]; exact Hlen.out
        have H1 := Lib.hid h1
        have H2 := Lib.hid h2
        have H5 := Lib.hid h5
        clear h1 h2 h3 h4 h5
        simp only []
        go_wp2_with (go_at_call 26; refine (reverse_calls H2.out hlen).mono ?_)
        rintro e W2 ⟨rfl, hR, hfR⟩
        have hO2 := hfR.heap H1.out (fun h => by have := own_ge H2.out h; have := Hlt.out.1; omega)
        have gO2 := cell_at hO2 (o := 0) rfl
        have hD2 := hfR.heap hDd (fun h => by
          rcases H2.out.2 with hh | ⟨g', c, cur, hv, _, hc, _⟩
          · rw [hh.1] at h; cases h
          · rw [hv] at h
            have e : g' = D := by injection h
            subst e
            rw [hc] at hDd
            injection hDd with hDd
            cases hDd)
        clear gO hO2
        go_wp2
        refine bodyPostM_ret (B := D) [D] rfl (by simp) (fun D' hD' => by simp at hD'; subst hD'; exact ⟨Nat.le_refl _, hD2⟩) (fun W' => results_tmp2 rfl _ _ _) (fun W' hb => ?_)
        have hF2 : Frm (fun _ => False) w W2 := H5.out.trans hfR (fun b hb h => by have := own_ge H2.out h; omega)
        exact ⟨vO, rfl, own_base (hb.owns hR) hsz3, hb.frm hF2 (by omega)⟩
end Go.Proofs.Ytbhnobjjpmmmnaa
