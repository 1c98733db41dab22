/- SegmentPlain: probation is a plain LRU list. -/
import Derived.Test.YtogidmjilbpacaaSegFew
import Derived.Test.YtogidmjilbpacaaSegRef
import Derived.Test.YtogidmjilbpacaaSegKnown
import Derived.Test.YtogidmjilbpacaaMarks
import Derived.Deep.CutRange
import Derived.Deep.CutBlock
namespace Go.Proofs.Ytogidmjilbpacaa
open Go.RowKit Go.Cub

/-- The slice v reads as the numbers xs of 16 bits. -/
def RH (w : World) (v : Value) (xs : List Nat) : Prop :=
  ∃ a cap, v = .slice a xs.length cap ∧ ∀ i (h : i < xs.length), ∃ b off, a = some ⟨b, off, none⟩ ∧ w.cell? ⟨b, off + i, none⟩ = some (.int .u16 (xs[i] : Int)) ∧ xs[i] < 65536
theorem RH.frm {w w1 : World} {v : Value} {xs : List Nat} {S : Nat → Prop} (h : RH w v xs) (hf : Frm S w w1) (hS : ∀ b, b < w.heap.size → ¬ S b) : RH w1 v xs := by
  obtain ⟨a, cap, rfl, h⟩ := h
  refine ⟨a, cap, rfl, fun i hi => ?_⟩
  obtain ⟨b, off, rfl, h1, h2⟩ := h i hi
  exact ⟨b, off, rfl, cell_frm hf hS h1, h2⟩

/-- what the loop of SegmentPlain keeps -/
structure SP (w wr : World) (k : Nat) (Ds : List Nat) (X p : Nat) (fp : List Nat) (q : Nat) (fq : List Nat) (n : Nat) (P : List Nat) (g : Nat → Option Int) (lim : Int) : Prop where
  seg : SegF wr fp p n P [] g lim
  lru : LruF wr fq q P
  two : Two w wr fp fq (fun b => b = X ∨ b ∈ Ds)
  cnt : n ≤ 60 * k
  len : P.length ≤ k
  box : ∃ r, wr.heap[X]? = some (.cells #[.bool r] 4 (0, 0))
  marks : ∀ D ∈ Ds, wr.heap[D]? = some (.deferred (some []))
  nd : Ds.Nodup
section
variable {w wr w1 : World} {k : Nat} {Ds : List Nat} {X p n q : Nat} {fp fq P : List Nat} {g : Nat → Option Int} {lim : Int}
theorem SP.same (h : SP w wr k Ds X p fp q fq n P g lim) (hf : Frm (fun _ => False) wr w1) : SP w w1 k Ds X p fp q fq n P g lim := by
  obtain ⟨r, hr⟩ := h.box
  exact ⟨h.seg.frm hf (fun _ _ h => h), h.lru.frm hf (fun _ _ h => h), h.two.same hf, h.cnt, h.len, ⟨r, hf.heap hr (fun h => h)⟩, fun D hD => hf.heap (h.marks D hD) (fun h => h), h.nd⟩
theorem SP.ne (h : SP w wr k Ds X p fp q fq n P g lim) : ∀ D ∈ Ds, D ≠ X := fun D hD e => by
  subst e
  obtain ⟨r, hr⟩ := h.box
  have := h.marks _ hD
  rw [hr] at this
  cases this
/-- a step of the order and one of the list, one after the other -/
theorem SP.both (h : SP w wr k Ds X p fp q fq n P g lim) {w2 : World} {fp' fq' P' : List Nat} {n' : Nat} {g' : Nat → Option Int}
    (s1 : SegF w1 fp' p n' P' [] g' lim) (s2 : ∀ b ∈ fp', b ∈ fp ∨ wr.heap.size ≤ b) (s3 : Frm (fun b => b ∈ fp) wr w1)
    (l1 : LruF w2 fq' q P') (l2 : ∀ b ∈ fq', b ∈ fq ∨ w1.heap.size ≤ b) (l3 : Frm (fun b => b ∈ fq) w1 w2) (hn : n' ≤ 60 * (k + 1)) (hl : P'.length ≤ k + 1) : SP w w2 (k + 1) Ds X p fp' q fq' n' P' g' lim := by
  have t1 := h.two.step1 s2 s1.lt s3
  have t2 := t1.step2 l2 l1.lt l3
  obtain ⟨r, hr⟩ := h.box
  refine ⟨s1.frm l3 (fun b hb hq => t1.dis b hb hq), l1, t2, hn, hl, ⟨r, l3.heap (s3.heap hr (h.two.oth X (.inl rfl)).2.2.1) (t1.oth X (.inl rfl)).2.2.2⟩, fun D hD => l3.heap (s3.heap (h.marks D hD) (h.two.oth D (.inr hD)).2.2.1) (t1.oth D (.inr hD)).2.2.2, h.nd⟩
/-- .. the list first -/
theorem SP.both' (h : SP w wr k Ds X p fp q fq n P g lim) {w2 : World} {fp' fq' P' : List Nat} {n' : Nat} {g' : Nat → Option Int}
    (l1 : LruF w1 fq' q P') (l2 : ∀ b ∈ fq', b ∈ fq ∨ wr.heap.size ≤ b) (l3 : Frm (fun b => b ∈ fq) wr w1)
    (s1 : SegF w2 fp' p n' P' [] g' lim) (s2 : ∀ b ∈ fp', b ∈ fp ∨ w1.heap.size ≤ b) (s3 : Frm (fun b => b ∈ fp) w1 w2) (hn : n' ≤ 60 * (k + 1)) (hl : P'.length ≤ k + 1) : SP w w2 (k + 1) Ds X p fp' q fq' n' P' g' lim := by
  have t1 := h.two.step2 l2 l1.lt l3
  have t2 := t1.step1 s2 s1.lt s3
  obtain ⟨r, hr⟩ := h.box
  refine ⟨s1, l1.frm s3 (fun b hb hq => t1.dis b hq hb), t2, hn, hl, ⟨r, s3.heap (l3.heap hr (h.two.oth X (.inl rfl)).2.2.2) (t1.oth X (.inl rfl)).2.2.1⟩, fun D hD => s3.heap (l3.heap (h.marks D hD) (h.two.oth D (.inr hD)).2.2.2) (t1.oth D (.inr hD)).2.2.1, h.nd⟩
theorem SP.mark (h : SP w wr k Ds X p fp q fq n P g lim) (hf : Frm (fun _ => False) wr w1) {D : Nat} (hD : wr.heap.size ≤ D) (hm : w1.heap[D]? = some (.deferred (some []))) : SP w w1 k (D :: Ds) X p fp q fq n P g lim := by
  have h' := h.same hf
  have hd := lt_of_some hm
  have hw := h.two.frm.size
  refine ⟨h'.seg, h'.lru, ⟨h'.two.ge1, h'.two.ge2, h'.two.dis, fun b hb => ?_, h'.two.frm⟩, h'.cnt, h'.len, h'.box, fun D' hD' => ?_, List.nodup_cons.2 ⟨fun hx => ?_, h.nd⟩⟩
  · rcases hb with hb | hb
    · exact h'.two.oth b (.inl hb)
    · rcases List.mem_cons.1 hb with rfl | hb
      · exact ⟨by omega, hd, fun hx => by have := h.two.ge1 _ hx; omega, fun hx => by have := h.two.ge2 _ hx; omega⟩
      · exact h'.two.oth b (.inr hb)
  · rcases List.mem_cons.1 hD' with rfl | hD'
    · exact hm
    · exact h'.marks D' hD'
  · have := (h.two.oth D (.inr hx)).2.1; omega
end

theorem dn_one {lim : Int} {g : Nat → Option Int} {s : Nat} {c : Int} (hl : lim = 0) (hc : 1 ≤ c) : dn lim (upd g s (some c)) [s] = 1 := by
  have : need lim (upd g s (some c)) [s] = true := by
    subst hl
    unfold need
    simp [sumC, upd_same]
    omega
  unfold dn
  rw [if_pos this]
  rfl

def slotsOf (a : Array Value) (i : Nat) : Value := a.getD i undef
theorem frame_intro {a : Act} {F : (Nat → Value) → Array Value} {ds : List Deferred} (h : a = { tmps := F (slotsOf a.tmps), defers := ds }) : ∃ u, a = { tmps := F u, defers := ds } := ⟨_, h⟩

attribute [local go_sem] Oper.semAt_some in
set_option maxRecDepth 100000 in
set_option maxHeartbeats 8000000 in
theorem segPlain_calls {w : World} {v0 v1 : Value} {xs cs : List Nat} (H : RU w v0 xs) (H1 : RH w v1 cs) (hc : cs.length ≤ maxLen) (z : Bool) : Calls Try.prog 5 #[v0, v1, .bool z] w (TrueSame w) := by
  have HH := Lib.hid H
  have HC := Lib.hid H1
  obtain ⟨a0, c0, rfl, -⟩ := H
  obtain ⟨a1, c1, rfl, -⟩ := H1
  obtain ⟨N, hN⟩ : ∃ n, n = xs.length := ⟨_, rfl⟩
  obtain ⟨M, hM⟩ : ∃ n, n = cs.length := ⟨_, rfl⟩
  rw [← hM] at hc
  have HN := Lib.hid hN
  have HM := Lib.hid hM
  have Hc := Lib.hid hc
  rw [← hN, ← hM]
  clear hN hM hc
  obtain ⟨X, hX⟩ : ∃ X, X = w.heap.size := ⟨_, rfl⟩
  have HX := Lib.hid hX
  by_cases h60 : 60 < N
  · have d1 : decide ((60 : Int) < N) = true := by rw [decide_eq_true_iff]; omega
    (refine calls_of_marks Try.func5 rfl ?_; simp only [Try.ntmps5, List.size_toArray, List.length_cons, List.length_nil, Nat.reduceAdd, Nat.reduceSub, Array.replicate_succ, Array.replicate_zero, List.push_toArray, List.append_toArray, List.nil_append, List.cons_append])
    go_wp2_with (go_at_call 10; refine known_calls.mono ?_)
    rintro e w1 ⟨rfl, hf1⟩
    have hb1 : w1.heap[X]? = some (.cells #[.bool false] 4 (0, 0)) := hf1.heap (by rw [hX]; exact alloc_new _ _) (fun h => h)
    have g1 := cell_at hb1 (o := 0) rfl
    have r1 := free_at hb1 0
    rw [← hX]
    clear hX
    have HF1 := Lib.hid (((Frm.refl (fun _ => False) w).alloc _).trans hf1 (fun _ _ h => h))
    clear hf1
    go_wp2
    refine bodyPostM_ret' (B := w1.heap.size) [] rfl (by simp) (fun D hD => by cases hD) (v := .bool true) (fun W' hb => ?_) (fun W' hb => ?_)
    · have := cell_at (hb.cells (set_same hb1 0 (.bool true))) (o := 0) rfl
      simp [results, loadVar, go_sem, this]
    · exact ⟨rfl, hb.frm (HF1.out.setCell (a := ⟨X, 0, none⟩) (fun h => by have := HX.out; simp at h; omega) _) HF1.out.size⟩
  · have d1 : decide ((60 : Int) < N) = false := by rw [decide_eq_false_iff_not]; omega
    obtain ⟨lim, hlim⟩ : ∃ lim : Int, lim = if z then 0 else -1 := ⟨_, rfl⟩
    have Hlim := Lib.hid hlim
    have hl2 : -1 ≤ lim ∧ lim ≤ 1099511627776 := by rw [hlim]; cases z <;> decide
    have Hl2 := Lib.hid hl2
    clear hlim hl2
    (refine calls_of_marks Try.func5 rfl ?_; simp only [Try.ntmps5, List.size_toArray, List.length_cons, List.length_nil, Nat.reduceAdd, Nat.reduceSub, Array.replicate_succ, Array.replicate_zero, List.push_toArray, List.append_toArray, List.nil_append, List.cons_append])
    go_upto_if 22 with fail
    rw [← hX]
    clear hX
    go_cut [7] from 18 to 158 (fun l wx => l = .int .i64 lim ∧ wx = w.alloc (.cells #[.bool false] 4 (0, 0)))
    case first =>
      have hlim := Hlim.out
      cases z with
      | true =>
        simp only [if_true] at hlim
        subst hlim
        go_wp2
        go_meet
        case rel => exact ⟨rfl, rfl⟩
      | false =>
        simp only [Bool.false_eq_true, if_false] at hlim
        subst hlim
        go_wp2
        go_meet
        case rel => exact ⟨rfl, rfl⟩
    case rest =>
      obtain ⟨rfl, rfl⟩ := hcut
      have hbX : (w.alloc (.cells #[.bool false] 4 (0, 0))).heap[X]? = some (.cells #[.bool false] 4 (0, 0)) := by rw [HX.out]; exact alloc_new _ _
      have hF0 : Frm (fun _ => False) w (w.alloc (.cells #[.bool false] 4 (0, 0))) := (Frm.refl _ w).alloc _
      have HbX := Lib.hid hbX
      have HF0 := Lib.hid hF0
      generalize w.alloc (.cells #[.bool false] 4 (0, 0)) = w0 at *
      clear hbX hF0
      go_wp2_with (go_at_call 8; refine (segNew_calls lim Hl2.out).mono ?_)
      rintro e w1 ⟨p, fp, rfl, hS1, hg1, hf1⟩
      have HS1 := Lib.hid hS1
      have Hg1 := Lib.hid hg1
      have Hf1 := Lib.hid hf1
      clear hS1 hg1 hf1
      go_wp2_with (go_at_call 20; refine lruNew_calls.mono ?_)
      rintro e w2 ⟨q, fq, rfl, hL2, hg2, hf2⟩
      have HK := Lib.hid (show SP w w2 0 [] X p fp q fq 0 [] (fun _ => none) lim by
        have e0 := HF0.out.size
        have e1 := Hf1.out.size
        have e2 := hf2.size
        have eX := lt_of_some HbX.out
        refine ⟨HS1.out.frm hf2 (fun _ _ h => h), hL2, ⟨fun b hb => ?_, fun b hb => ?_, fun b hb hq => ?_, fun b hb => ?_, ?_⟩, by omega, by simp, ⟨false, hf2.heap (Hf1.out.heap HbX.out (fun h => h)) (fun h => h)⟩, fun D hD => (by cases hD), List.nodup_nil⟩
        · have h1 := Hg1.out b hb; have h2 := HS1.out.lt b hb; omega
        · have h1 := hg2 b hb; have h2 := hL2.lt b hb; omega
        · have h1 := HS1.out.lt b hb; have h2 := hg2 b hq; omega
        · rcases hb with rfl | hb
          · refine ⟨by have := HX.out; omega, by omega, fun h => ?_, fun h => ?_⟩
            · have := Hg1.out _ h; omega
            · have := hg2 _ h; omega
          · cases hb
        · exact (HF0.out.trans Hf1.out (fun _ _ h => h)).trans hf2 (fun _ _ h => h))
      clear hL2 hg2 hf2 HS1 Hg1 Hf1 HbX HF0
      have hN60 : N ≤ 60 := by omega
      go_upto_region 11 with fail
      refine wp_loop_ghost_k (fun gg a' w' => ∃ (k : Nat) (Ds : List Nat) (fp fq : List Nat) (n : Nat) (P : List Nat) (g : Nat → Option Int), (gg + k = N ∧ SP w w' k Ds X p fp q fq n P g lim) ∧ ∃ u : Nat → Value, a' = { tmps := #[.slice a0 N c0, .slice a1 M c1, .bool z, u 3, u 4, u 5, .pointer (some ⟨X, 0, none⟩), .int .i64 lim, .pointer (some ⟨p, 0, none⟩), .int .i64 0, .pointer (some ⟨q, 0, none⟩), .int .i64 (k : Nat), u 12, u 13, u 14, u 15, u 16, u 17, u 18, u 19, u 20, u 21, u 22, u 23, u 24, u 25, u 26, u 27, u 28, u 29, u 30, u 31, u 32, u 33, u 34, u 35, u 36, u 37, u 38, u 39, u 40, u 41, u 42, u 43, u 44, u 45, u 46, u 47, u 48, u 49, u 50, u 51, u 52, u 53, u 54, u 55, u 56, u 57, u 58, u 59, u 60, u 61, u 62, u 63, u 64, u 65, u 66, u 67, u 68, u 69, u 70, u 71, u 72, u 73, u 74, u 75, u 76, u 77, u 78, u 79, u 80, u 81, u 82, u 83, u 84, u 85, u 86, u 87, u 88, u 89, u 90, u 91, u 92, u 93, u 94, u 95, u 96, u 97, u 98, u 99, u 100, u 101, u 102, u 103, u 104, u 105, u 106, u 107, u 108, u 109, u 110, u 111, u 112, u 113, u 114, u 115, u 116, u 117, u 118, u 119, u 120, u 121, u 122, u 123, u 124, u 125, u 126, u 127, u 128, u 129, u 130, u 131, u 132, u 133, u 134, u 135, u 136, u 137, u 138, u 139, u 140, u 141, u 142, u 143, u 144, u 145, u 146, u 147, u 148, u 149, u 150, u 151, u 152, u 153, u 154, u 155, u 156, u 157, u 158], defers := Ds.map Go.Cub.mark }) N ?_ ?_
      · exact ⟨0, [], fp, fq, 0, [], _, ⟨rfl, HK.out⟩, frame_intro rfl⟩
      · clear HK fp fq
        intro gg a wr hinv
        obtain ⟨k, Ds, fp, fq, n, P, g, ⟨hgk, hS⟩, u, rfl⟩ := hinv
        have HS := Lib.hid hS
        have Hgk := Lib.hid hgk
        clear hS hgk
        intro J K hJ hK
        have hk60 : k ≤ 60 := by have := Hgk.out; omega
        rcases Nat.lt_or_ge k N with hlt | hge
        · have hlt' : k < xs.length := by rw [← HN.out]; exact hlt
          obtain ⟨_, _, q1, h1⟩ := HH.out
          injection q1 with q1 q1n q1c
          subst q1; subst q1c
          clear q1n
          obtain ⟨b1, o1, e1, g1⟩ := h1 k hlt'
          subst e1
          clear h1
          generalize xs[k] = s at g1
          have HG := Lib.hid (show ∀ W, Frm (fun _ => False) w W → W.cell? ⟨b1, o1 + k, none⟩ = some (.int .u32 (s : Int)) from fun W hf => cell_frm hf (fun _ _ h => h) g1)
          have g1 := HG.out _ HS.out.two.frm
          by_cases h5 : 5000 ≤ s
          · have d5 : decide ((5000 : Int) ≤ s) = true := by rw [decide_eq_true_iff]; omega
            go_wp2_with (go_at_call 10; refine known_calls.mono ?_)
            rintro e w3 ⟨rfl, hf3⟩
            have S3 := Lib.hid (HS.out.same hf3)
            obtain ⟨r, hb3⟩ := S3.out.box
            have g3 := cell_at hb3 (o := 0) rfl
            have r3 := free_at hb3 0
            have HX3 := Lib.hid hb3
            clear hf3 hb3 g1
            go_wp2
            refine bodyPostM_ret' (B := w.heap.size) Ds rfl S3.out.nd (fun D hD => ⟨(S3.out.two.oth D (.inr hD)).1, set_other (S3.out.marks D hD) (S3.out.ne D hD) _⟩) (v := .bool true) (fun W' hb => ?_) (fun W' hb => ?_)
            · have := cell_at (hb.cells (set_same HX3.out 0 (.bool true))) (o := 0) rfl
              simp [results, loadVar, go_sem, this]
            · exact ⟨rfl, hb.frm (S3.out.two.frm.setCell (a := ⟨X, 0, none⟩) (fun h => by have := (S3.out.two.oth X (.inl rfl)).1; simp at h; omega) _) (Nat.le_refl _)⟩
          · have d5 : decide ((5000 : Int) ≤ s) = false := by rw [decide_eq_false_iff_not]; omega
            have Hs5 := Lib.hid (Nat.lt_of_not_le h5)
            go_upto_if 53 with fail
            go_cut [12] from 39 to 157 (fun c wx => ∃ cc : Int, c = .int .i64 cc ∧ 1 ≤ cc ∧ cc ≤ 65536 ∧ wx = wr)
            case first =>
              by_cases hM : M = 0
              · subst hM
                go_wp2
                go_meet
                case rel => exact ⟨1, rfl, by omega, by omega, rfl⟩
              · have hM0 : 0 < M := by omega
                have hkm := Nat.mod_lt k hM0
                obtain ⟨_, _, q1, h1⟩ := HC.out.frm HS.out.two.frm (fun _ _ h => h)
                injection q1 with q1 q1n q1c
                subst q1; subst q1c
                clear q1n
                obtain ⟨b2, o2, e2, g2, u2⟩ := h1 (k % M) (by rw [← HM.out]; exact hkm)
                subst e2
                clear h1
                generalize cs[k % M]'(by rw [← HM.out]; exact hkm) = cc at g2 u2
                have hrem : (k : Int).tmod (M : Int) = ((k % M : Nat) : Int) := by rw [Int.ofNat_tmod]
                have hMb : (M : Int) ≤ 9223372036854775807 := by have := Hc.out; unfold maxLen at this; omega
                go_wp2
                go_meet
                case rel => exact ⟨_, rfl, by omega, by omega, rfl⟩
            case rest =>
              obtain ⟨cc, rfl, hc1, hc2, rfl⟩ := hcut
              have g1 := HG.out _ HS.out.two.frm
              have Hcc := Lib.hid (show 0 ≤ cc ∧ cc ≤ 1099511627776 by omega)
              have Hc1 := Lib.hid hc1
              have hs4 : s < 4194304 := by have := Hs5.out; omega
              have Hs4 := Lib.hid hs4
              clear hc1 hc2 hs4
              go_upto_if 68 with (go_at_call 21; refine (lruHas_calls HS.out.lru s Hs4.out).mono ?_; rintro e w' ⟨rfl, rfl⟩)
              go_cut [12] from 39 to 157 (fun c wx => ∃ fp' fq' n' P' g', SP w wx (k + 1) Ds X p fp' q fq' n' P' g' lim)
              case first =>
                as_aux_lemma =>
                by_cases hm : s ∈ P
                · rw [decide_eq_true hm]
                  have Hm := Lib.hid hm
                  obtain ⟨c0, hg⟩ : ∃ c0, g s = some c0 := by
                    have := (HS.out.seg.ok.dom s).2 (.inl hm)
                    cases h : g s with
                    | none => rw [h] at this; cases this
                    | some c => exact ⟨c, rfl⟩
                  have Hg := Lib.hid hg
                  clear hm hg
                  have hpl : (P.erase s ++ [s]).length = P.length := by
                    have h1 := List.length_erase_of_mem Hm.out
                    have h2 := List.length_pos_of_mem Hm.out
                    rw [List.length_append, List.length_singleton, h1]; omega
                  have Hpl := Lib.hid hpl
                  clear hpl
                  have hlim := Hlim.out
                  cases z with
                  | true =>
                    simp only [if_true] at hlim
                    subst hlim
                    go_wp2_with (go_at_call 15; refine (segUse_ok HS.out.seg s cc Hcc.out c0 Hg.out (by have := HS.out.cnt; simp; omega)).mono ?_)
                    rintro e w3 ⟨v3, fp3, rfl, hv3, hF3, hs3, ho3, hf3⟩
                    rw [show useQ 0 ([] : List Nat) s = [s] from rfl, dn_one rfl Hc1.out] at hv3 hF3
                    rw [show useP 0 P s = P.erase s from rfl] at hF3
                    have HV3 := Lib.hid (show SlU w3 wc.heap.size v3 [s] from hv3)
                    have HR3 := Lib.hid (RU.own HV3.out)
                    have HF3 := Lib.hid (show SegF w3 fp3 p (n + 1 + 1) (P.erase s ++ [s]) [] (upd g s (some cc)) 0 from hF3)
                    have Hs3 := Lib.hid hs3
                    have Hf3 := Lib.hid hf3
                    have HL3 := Lib.hid (HS.out.lru.frm hf3 (fun b hb hp => HS.out.two.dis b hp hb))
                    have HT3 := Lib.hid (HS.out.two.step1 hs3 HF3.out.lt hf3)
                    have g3 := HG.out _ HT3.out.frm
                    obtain ⟨a3, c3, rfl, -⟩ := HR3.out
                    clear hv3 hF3 hs3 hf3 g1
                    go_wp2_with (go_at_call 22; refine (lruUse_calls HL3.out s Hm.out).mono ?_)
                    rintro e w4 ⟨rfl, hL4, hf4⟩
                    have HS4 := Lib.hid (HS.out.both HF3.out Hs3.out Hf3.out hL4 (fun b hb => .inl hb) hf4 (by have := HS.out.cnt; omega) (by rw [Hpl.out]; have := HS.out.len; omega))
                    have g4 := HG.out _ HS4.out.two.frm
                    have HR4 := Lib.hid (RU.own (own_frm HV3.out hf4 (fun b hb h => by have h1 := own_ge HV3.out hb; have h2 := (HS.out.two.ge2 b h).2; omega)))
                    clear hf4 hL4 g3
                    go_wp2_with (go_at_call 23; refine (same15_calls (HR4.out.frm ((Frm.refl (fun _ => False) w4).alloc _) (fun _ _ h => h)) (RU.lit w4 [s] _) (by simp)).mono ?_)
                    rintro e w5 ⟨rfl, hf5⟩
                    have HS5 := Lib.hid (HS4.out.same (((Frm.refl (fun _ => False) w4).alloc _).trans hf5 (fun _ _ h => h)))
                    clear hf5
                    go_wp2
                    go_meet
                    case rel => exact ⟨_, _, _, _, _, HS5.out⟩
                  | false =>
                    simp only [Bool.false_eq_true, if_false] at hlim
                    subst hlim
                    go_wp2_with (go_at_call 15; refine (segUse_ok HS.out.seg s cc Hcc.out c0 Hg.out (by have := HS.out.cnt; simp; omega)).mono ?_)
                    rintro e w3 ⟨v3, fp3, rfl, hv3, hF3, hs3, ho3, hf3⟩
                    rw [show useQ (-1) ([] : List Nat) s = [] from rfl, show dn (-1) (upd g s (some cc)) [] = 0 from rfl] at hv3 hF3
                    rw [show useP (-1) P s = P.erase s ++ [s] from rfl] at hF3
                    have HR3 := Lib.hid (RU.own (show SlU w3 wc.heap.size v3 [] from hv3))
                    have HF3 := Lib.hid (show SegF w3 fp3 p (n + 1 + 0) (P.erase s ++ [s]) [] (upd g s (some cc)) (-1) from by simpa using hF3)
                    have Hs3 := Lib.hid hs3
                    have Hf3 := Lib.hid hf3
                    have HL3 := Lib.hid (HS.out.lru.frm hf3 (fun b hb hp => HS.out.two.dis b hp hb))
                    have HT3 := Lib.hid (HS.out.two.step1 hs3 HF3.out.lt hf3)
                    have g3 := HG.out _ HT3.out.frm
                    obtain ⟨a3, c3, rfl, -⟩ := HR3.out
                    clear hv3 hF3 hs3 hf3 g1
                    go_wp2_with (go_at_call 22; refine (lruUse_calls HL3.out s Hm.out).mono ?_)
                    rintro e w4 ⟨rfl, hL4, hf4⟩
                    have HS4 := Lib.hid (HS.out.both HF3.out Hs3.out Hf3.out hL4 (fun b hb => .inl hb) hf4 (by have := HS.out.cnt; omega) (by rw [Hpl.out]; have := HS.out.len; omega))
                    clear hf4 hL4 g3
                    go_wp2
                    go_meet
                    case rel => exact ⟨_, _, _, _, _, HS4.out⟩
                · rw [decide_eq_false hm]
                  have Hm := Lib.hid hm
                  have hg : g s = none := by
                    cases h : g s with
                    | none => rfl
                    | some c => rcases (HS.out.seg.ok.dom s).1 (by rw [h]; rfl) with h | h; exact absurd h hm; cases h
                  have Hg := Lib.hid hg
                  clear hm hg
                  go_wp2_with (go_at_call 24; refine (lruAdd_calls HS.out.lru s Hs4.out Hm.out).mono ?_)
                  rintro e w3 ⟨rfl, fq3, hL3, hs3, hf3⟩
                  have HL3 := Lib.hid hL3
                  have Hs3 := Lib.hid hs3
                  have Hf3 := Lib.hid hf3
                  have HT3 := Lib.hid (HS.out.two.step2 hs3 HL3.out.lt hf3)
                  have HF3 := Lib.hid (HS.out.seg.frm hf3 (fun b hb hq => HS.out.two.dis b hb hq))
                  have g3 := HG.out _ HT3.out.frm
                  clear hL3 hs3 hf3 g1
                  go_wp2_with (go_at_call 14; refine (segAdd_ok HF3.out s Hs4.out cc Hcc.out Hg.out (by have := HS.out.len; simp; omega) (by have := HS.out.cnt; omega)).mono ?_)
                  rintro e w4 ⟨rfl, fp4, hF4, hs4, hf4⟩
                  have HS4 := Lib.hid (HS.out.both' HL3.out Hs3.out Hf3.out hF4 hs4 hf4 (by have := HS.out.cnt; omega) (by have := HS.out.len; simp; omega))
                  clear hF4 hs4 hf4 g3
                  go_wp2
                  go_meet
                  case rel => exact ⟨_, _, _, _, _, HS4.out⟩
              case rest =>
                clear HS g1
                obtain ⟨fp', fq', n', P', g', hS'⟩ := hcut
                have HS := Lib.hid hS'
                have hPl : P'.length ≤ 61 := by have := hS'.len; omega
                clear hS'
                go_wp2_with (go_at_call 18; refine (segList0 HS.out.seg).mono ?_)
                rintro e w3 ⟨v3, rfl, hv3, hf3⟩
                have HV3 := Lib.hid hv3
                obtain ⟨a3, c3, hsh⟩ := hv3.shape
                rw [wl_length] at hsh
                subst hsh
                have HS3 := Lib.hid (HS.out.same hf3)
                have Hf3 := Lib.hid hf3
                clear hv3 hf3
                have hal : ∀ o1 o2, Frm (fun _ => False) w3 ((w3.alloc o1).alloc o2) := fun o1 o2 => ((Frm.refl _ w3).alloc _).alloc _
                go_wp2_with (go_at_call 25; refine (lruAll_calls (HS3.out.lru.frm (hal _ _) (fun _ _ h => h))).mono ?_)
                rintro e w4 ⟨It, vi, rfl, hIt, hf4⟩
                go_wp2
                obtain ⟨bN, hbN⟩ : ∃ b, b = w3.heap.size + 1 := ⟨_, rfl⟩
                obtain ⟨bL, hbL⟩ : ∃ b, b = w3.heap.size := ⟨_, rfl⟩
                rw [← hbN, ← hbL]
                have hN4 : w4.heap[bN]? = some (.cells #[.int .i64 0] 3 (0, 0)) := hf4.heap (by rw [hbN]; have := alloc_new (w3.alloc (.cells #[.slice a3 P'.length c3] 26 (0, 0))) (.cells #[.int .i64 0] 3 (0, 0)); simpa using this) (fun h => h)
                have hL4 : w4.heap[bL]? = some (.cells #[.slice a3 P'.length c3] 26 (0, 0)) := hf4.heap (by rw [hbL]; exact alloc_old (alloc_new _ _) _) (fun h => h)
                have hF4 : Frm (fun _ => False) w3 w4 := (hal _ _).trans hf4 (fun _ _ h => h)
                have hwc := Hf3.out.size
                have hlt3 := fun b hb => own_lt HV3.out (b := b) hb
                have Hlt := Lib.hid (show bL ≠ bN ∧ wc.heap.size ≤ bN ∧ bN < w4.heap.size ∧ (∀ b, vi.ownBlock = some b → b ≠ bN) ∧ (∀ b, (Value.slice a3 P'.length c3).ownBlock = some b → b ≠ bN) from
                  ⟨by omega, by omega, lt_of_some hN4, fun b hb e => by have := own_ge hIt.own hb; simp at this; omega, fun b hb e => by have := hlt3 b hb; omega⟩)
                have HV4 := Lib.hid (own_frm HV3.out hF4 (fun _ _ h => h))
                have HF4 := Lib.hid (Hf3.out.trans hF4 (fun _ _ h => h))
                have Hlen := Lib.hid HS3.out.lru.facts.2.2
                have HL4 := Lib.hid hL4
                clear hbN hbL hal hwc hlt3 hF4 hL4
                refine wp_range (gf := 72) (lb := #[.pointer (some ⟨It, 0, none⟩)]) (N := P'.length) (encs := fun j => #[.int .u32 (nth P' j 0 : Nat)]) (Kp := fun W W' => ∀ b, vi.ownBlock = some b → KeepB b W W')
                  rfl ?eg (fun _ => rfl) (fun W hW => all1_iter (hIt.bk hW) Hlen.out) (fun A B C D h1 h2 h3 b hb => KeepB.bk h1 (h2 b hb) h3)
                  (fun j W => W.heap[bN]? = some (.cells #[.int .i64 (j : Nat)] 3 (0, 0)) ∧ Frm (fun b => b = bN) w4 W)
                  (fun _ _ => False) ?hI (fun _ _ _ h _ => h) ⟨hN4, Frm.refl _ _⟩ ?hround ?hdone (fun _ _ _ _ h _ => h.elim)
                case eg => intro args w; rfl
                case hI =>
                  rintro j W W' ⟨h1, h2⟩ hb
                  exact ⟨hb.cells h1, hb.frm h2 (Nat.le_refl _)⟩
                case hround =>
                  as_aux_lemma =>
                  rintro l j W hj ⟨h1, h2⟩
                  obtain ⟨y, hy⟩ : ∃ y, y = nth P' j 0 := ⟨_, rfl⟩
                  rw [← hy]
                  have hyP : P'[j] = y := by rw [hy, nth_lt _ hj]
                  have Hy := Lib.hid hyP
                  clear hy hyP
                  simp only []
                  gi_wp2
                  refine ⟨KeepsFrom.refl _ _, fun W2 hW2 => ?_⟩
                  have h1 := hW2.cells h1
                  have h2 := hW2.frm h2 (Nat.le_refl _)
                  have hL2 := h2.heap HL4.out Hlt.out.1
                  have hV2 := RW.own (own_frm HV4.out h2 (fun b hb h => Hlt.out.2.2.2.2 b hb h))
                  obtain ⟨_, _, q1, hx⟩ := hV2
                  injection q1 with q1 q1n q1c
                  subst q1; subst q1c
                  clear q1n
                  obtain ⟨b5, o5, e5, g5, -⟩ := hx j (by rw [wl_length]; exact hj)
                  subst e5
                  rw [show (wl g' P')[j]'(by rw [wl_length]; exact hj) = (P'[j], (g' P'[j]).getD 0) by simp [wl], Hy.out] at g5
                  simp only [] at g5
                  have gN := cell_at h1 (o := 0) rfl
                  have rN := free_at h1 0
                  have gL := cell_at hL2 (o := 0) rfl
                  have H1 := Lib.hid h1
                  have H2 := Lib.hid h2
                  have hj61 : j ≤ 61 := by omega
                  clear h1 h2 hL2 hx
                  gi_wp2
                  refine (⟨⟨?_, ?_⟩, ?_, ?_⟩ : KeepsFrom _ _ _ ∧ _ ∧ _)
                  · show W2.heap.size ≤ (W2.setCell _ _).heap.size
                    simp [World.setCell]
                  · intro i o hi ho hnc
                    exact set_other ho (show i ≠ bN by have := Hlt.out.2.2.1; omega) _
                  · intro b hb A t f hA
                    exact set_other (hW2.cells hA) (show b ≠ bN from Hlt.out.2.2.2.1 b hb) _
                  · refine ⟨?_, H2.out.setCell (a := ⟨bN, 0, none⟩) (fun _ => rfl) _⟩
                    have := set_same H1.out 0 (.int .i64 ((j : Int) + 1))
                    simpa using this
                case hdone =>
                  rintro D W hD ⟨h1, h2⟩ hDd
                  have hFW : Frm (fun _ => False) wc W := HF4.out.trans h2 (fun b hb h => by have := Hlt.out.2.1; omega)
                  have HS5 := Lib.hid (HS.out.mark hFW (by have := HF4.out.size; omega) hDd)
                  have gN := cell_at h1 (o := 0) rfl
                  have gL := cell_at (h2.heap HL4.out Hlt.out.1) (o := 0) rfl
                  have HLn := Lib.hid (segLen1 HS5.out.seg)
                  clear h1 h2 hFW hDd hN4 hIt hf4
                  simp only []
                  go_wp2_with (go_at_call 13; with_reducible refine Calls.mono HLn.out ?_; rintro e w' ⟨rfl, rfl⟩)
                  refine Handed.intro (gg - 1) ?_ (hJ _ _ _ ⟨k + 1, D :: Ds, fp', fq', n', P', g', ⟨by have := Hgk.out; omega, HS5.out⟩, frame_intro rfl⟩)
                  have := Hgk.out
                  omega
        · have hkN : k = N := by have := Hgk.out; omega
          subst hkN
          go_wp2_with (go_at_call 10; refine known_calls.mono ?_)
          rintro e w3 ⟨rfl, hf3⟩
          have S3 := Lib.hid (HS.out.same hf3)
          obtain ⟨r, hb3⟩ := S3.out.box
          have g3 := cell_at hb3 (o := 0) rfl
          have r3 := free_at hb3 0
          have HX3 := Lib.hid hb3
          clear hf3 hb3
          go_wp2
          refine bodyPostM_ret' (B := w.heap.size) Ds rfl S3.out.nd (fun D hD => ⟨(S3.out.two.oth D (.inr hD)).1, set_other (S3.out.marks D hD) (S3.out.ne D hD) _⟩) (v := .bool true) (fun W' hb => ?_) (fun W' hb => ?_)
          · have := cell_at (hb.cells (set_same HX3.out 0 (.bool true))) (o := 0) rfl
            simp [results, loadVar, go_sem, this]
          · exact ⟨rfl, hb.frm (S3.out.two.frm.setCell (a := ⟨X, 0, none⟩) (fun h => by have := (S3.out.two.oth X (.inl rfl)).1; simp at h; omega) _) (Nat.le_refl _)⟩
end Go.Proofs.Ytogidmjilbpacaa
