/- Layer 16: demote. -/
import Derived.Test.YtogidmjilbpacaaSeg4
import Derived.Test.YtogidmjilbpacaaApp
namespace Go.Proofs.Ytogidmjilbpacaa
open Go.RowKit Go.Cub

/-- how many protected slots have to go -/
def dn (lim : Int) (g : Nat → Option Int) : List Nat → Nat
  | [] => 0
  | y :: ys => if need lim g (y :: ys) then dn lim g ys + 1 else 0
theorem dn_le (lim : Int) (g : Nat → Option Int) : ∀ Q, dn lim g Q ≤ Q.length
  | [] => Nat.le_refl _
  | y :: ys => by
    have := dn_le lim g ys
    unfold dn
    split <;> simp <;> omega
theorem dn_need (lim : Int) (g : Nat → Option Int) : ∀ (Q : List Nat) (j : Nat), j ≤ dn lim g Q → need lim g (Q.drop j) = decide (j < dn lim g Q)
  | [], j, h => by
    simp [dn] at h; subst h; simp [dn, need]
  | y :: ys, 0, _ => by
    unfold dn
    by_cases h : need lim g (y :: ys) = true
    · rw [if_pos h]; simp [h]
    · rw [if_neg h]; simpa using h
  | y :: ys, j + 1, h => by
    unfold dn at h ⊢
    by_cases hn : need lim g (y :: ys) = true
    · rw [if_pos hn] at h ⊢
      rw [List.drop_succ_cons, dn_need lim g ys j (by omega)]
      simp
    · rw [if_neg hn] at h; omega

theorem wpList_gmap_look1 {P : Program} (w : World) {ops : Array Oper} {rest : List Oper} {o : Oper} {a : Act} {Q : Exit → Act → World → Prop}
    (hg : o.guard = none) (m x : Operand) (t : TypeId) (hop : o.op = Op.lookup t m x false) (K E : TypeId) (kq q : IntKind)
    (hK : P.underlying K = some (.int kq)) (ht : P.underlying t = some (.map K E)) (hE : P.underlying E = some (.int q)) (hz : (zeroValue E).run P w = .ok (.int q 0) w) (b n : Nat) (g : Nat → Option Int)
    (hm : a.eval m = .map (some b)) (hown : GMap P K E kq q w b n g) (key : Nat) (hx : a.eval x = .int kq key) (hkey : (Lit.int kq key).wf = true) (c : Int) (hc : (g key).getD 0 = c)
    (hk : wpList P ops Q rest (a.put o.dst (.int q c)) w) :
    wpList P ops Q (o :: rest) a w := by
  refine wpList_plain hg fun K' hK' => ?_
  have hrun := hown.look1 hK ht hE hz key hkey
  rw [hc] at hrun
  unfold Oper.wp
  simp [execOp, hop, hm, hx, hrun, Result.andThen]
  exact hK' _ _ hk

def lenOf : Value → Nat
  | .slice _ n _ => n
  | _ => 0
theorem lenOf_own {w : World} {base : Nat} {e : TypeId} {size : Nat} {v : Value} {n : Nat} {xs : List Value} (h : w.ownsRow base e size v n xs) : lenOf v = n := by
  rcases h.2 with ⟨hv, h0⟩ | ⟨g, cap, cur, hv, _⟩
  · rw [hv, h0]; rfl
  · rw [hv]; rfl

section
variable {w w1 : World} {p q0 q1 bM n : Nat} {fp fp0 fp1 P Q : List Nat} {g : Nat → Option Int} {lim : Int}

theorem SegB.frm {S : Nat → Prop} (H : SegB w p q0 q1 bM n fp0 fp1 P Q g lim) (hf : Frm S w w1) (h0 : ¬ S p) (h1 : ¬ S bM) (h2 : ∀ b ∈ fp0, ¬ S b) (h3 : ∀ b ∈ fp1, ¬ S b) : SegB w1 p q0 q1 bM n fp0 fp1 P Q g lim :=
  ⟨hf.heap H.box h0, H.l0.frm hf h2, H.l1.frm hf h3, H.map.frm hf h1, H.dom, H.dis, H.cost, H.a0, H.a1, H.a2, H.a3, H.a4, H.a5, H.len, H.cnt, H.lim1⟩
theorem SegF.frm {S : Nat → Prop} (H : SegF w fp p n P Q g lim) (hf : Frm S w w1) (hS : ∀ b ∈ fp, ¬ S b) : SegF w1 fp p n P Q g lim := by
  obtain ⟨q0, q1, bM, fp0, fp1, rfl, H⟩ := H
  exact ⟨q0, q1, bM, fp0, fp1, rfl, H.frm hf (hS _ (by simp)) (hS _ (by simp)) (fun b hb => hS _ (by simp [hb])) (fun b hb => hS _ (by simp [hb]))⟩
theorem SegF.lt (H : SegF w fp p n P Q g lim) : ∀ b ∈ fp, b < w.heap.size := by
  obtain ⟨q0, q1, bM, fp0, fp1, rfl, H⟩ := H
  intro b hb
  simp only [List.mem_cons, List.mem_append] at hb
  rcases hb with rfl | rfl | hb | hb
  · exact lt_of_some H.box
  · exact H.map.lt
  · exact H.l0.lt b hb
  · exact H.l1.lt b hb
theorem SegF.self (H : SegF w fp p n P Q g lim) : p ∈ fp := by obtain ⟨q0, q1, bM, fp0, fp1, rfl, H⟩ := H; simp
theorem SegF.mono (H : SegF w fp p n P Q g lim) {m : Nat} (h : n ≤ m) (hm : m ≤ 1000000) : SegF w fp p m P Q g lim := by
  obtain ⟨q0, q1, bM, fp0, fp1, rfl, H⟩ := H
  exact ⟨q0, q1, bM, fp0, fp1, rfl, H.box, H.l0, H.l1, H.map.mono h, H.dom, H.dis, H.cost, H.a0, H.a1, H.a2, H.a3, H.a4, H.a5, H.len, hm, H.lim1⟩
/-- what the lists are, of themselves -/
structure SegOk (n : Nat) (P Q : List Nat) (g : Nat → Option Int) (lim : Int) : Prop where
  nP : P.Nodup
  nQ : Q.Nodup
  dis : ∀ x, x ∈ P → x ∉ Q
  dom : ∀ x, (g x).isSome = true ↔ (x ∈ P ∨ x ∈ Q)
  cost : ∀ x c, g x = some c → 0 ≤ c ∧ c ≤ 1099511627776
  slot : ∀ x, (x ∈ P ∨ x ∈ Q) → x < 4194304
  len : P.length + Q.length ≤ 1000
  cnt : n ≤ 1000000
  lim1 : -1 ≤ lim ∧ lim ≤ 1099511627776
theorem SegF.ok (H : SegF w fp p n P Q g lim) : SegOk n P Q g lim := by
  obtain ⟨q0, q1, bM, fp0, fp1, rfl, H⟩ := H
  exact ⟨H.l0.facts.1, H.l1.facts.1, H.dis, H.dom, H.cost, fun x hx => hx.elim (H.l0.facts.2.1 x) (H.l1.facts.2.1 x), H.len, H.cnt, H.lim1⟩

theorem segF_take (H : SegF w fp p n P Q g lim) (s : Nat) (c : Int) (hg : g s = some c) :
    Calls Try.prog 41 #[.pointer (some ⟨p, 0, none⟩), .int .u32 s] w (fun e w' => e = .returned (.bool true) ∧ SegF w' fp p n (P.erase s) (Q.erase s) (upd g s none) lim ∧ Frm (fun b => b ∈ fp) w w') := by
  obtain ⟨q0, q1, bM, fp0, fp1, rfl, H⟩ := H
  rcases (H.dom s).1 (by simp [hg]) with h | h
  · refine (segTake0 H s c hg h).mono ?_
    rintro e w' ⟨rfl, h1, h2⟩
    exact ⟨rfl, ⟨q0, q1, bM, fp0, fp1, rfl, h1⟩, h2.mono (fun b _ h => by rcases h with rfl | rfl | h <;> simp_all)⟩
  · refine (segTake1 H s c hg h).mono ?_
    rintro e w' ⟨rfl, h1, h2⟩
    exact ⟨rfl, ⟨q0, q1, bM, fp0, fp1, rfl, h1⟩, h2.mono (fun b _ h => by rcases h with rfl | rfl | h <;> simp_all)⟩
theorem segF_take_none (H : SegF w fp p n P Q g lim) (s : Nat) (hs : s < 4194304) (hg : g s = none) :
    Calls Try.prog 41 #[.pointer (some ⟨p, 0, none⟩), .int .u32 s] w (fun e w' => e = .returned (.bool false) ∧ w = w') := by
  obtain ⟨q0, q1, bM, fp0, fp1, rfl, H⟩ := H
  exact segTake_none H s hs hg
theorem segF_put0 (H : SegF w fp p n P Q g lim) (s : Nat) (hs : s < 4194304) (c : Int) (hc : 0 ≤ c ∧ c ≤ 1099511627776) (hg : g s = none) (hlen : P.length + Q.length < 1000) (hn : n < 1000000) :
    Calls Try.prog 40 #[.pointer (some ⟨p, 0, none⟩), .int .i64 0, .int .u32 s, .int .i64 c] w (GivesSeg w fp p (n + 1) (P ++ [s]) Q (upd g s (some c)) lim (.tuple #[])) := by
  obtain ⟨q0, q1, bM, fp0, fp1, rfl, H⟩ := H
  have hP : s ∉ P := fun h => by have := (H.dom s).2 (.inl h); rw [hg] at this; cases this
  have hQ : s ∉ Q := fun h => by have := (H.dom s).2 (.inr h); rw [hg] at this; cases this
  exact segPut0 H s hs c hc hP hQ hlen hn
theorem segF_put1 (H : SegF w fp p n P Q g lim) (s : Nat) (hs : s < 4194304) (c : Int) (hc : 0 ≤ c ∧ c ≤ 1099511627776) (hg : g s = none) (hlen : P.length + Q.length < 1000) (hn : n < 1000000) :
    Calls Try.prog 40 #[.pointer (some ⟨p, 0, none⟩), .int .i64 1, .int .u32 s, .int .i64 c] w (GivesSeg w fp p (n + 1) P (Q ++ [s]) (upd g s (some c)) lim (.tuple #[])) := by
  obtain ⟨q0, q1, bM, fp0, fp1, rfl, H⟩ := H
  have hP : s ∉ P := fun h => by have := (H.dom s).2 (.inl h); rw [hg] at this; cases this
  have hQ : s ∉ Q := fun h => by have := (H.dom s).2 (.inr h); rw [hg] at this; cases this
  exact segPut1 H s hs c hc hP hQ hlen hn
theorem segF_needed (H : SegF w fp p n P Q g lim) {X : Nat} (hX : w.cell? ⟨X, 0, none⟩ = some (.pointer (some ⟨p, 0, none⟩))) :
    Calls Try.prog 62 #[.pointer (some ⟨X, 0, none⟩)] w (fun e w' => e = .returned (.bool (need lim g Q)) ∧ Frm (fun _ => False) w w') := by
  obtain ⟨q0, q1, bM, fp0, fp1, rfl, H⟩ := H
  exact needed_calls H hX

theorem upd_back {g : Nat → Option Int} {y : Nat} {c : Int} (h : g y = some c) : upd (upd g y none) y (some c) = g := by
  funext x
  by_cases e : x = y
  · subst e; rw [upd_same, h]
  · rw [upd_ne _ _ e, upd_ne _ _ e]

/-- What demote gives: the slots that went, and the list behind it. -/
def DemPost (w : World) (fp : List Nat) (p n : Nat) (P Q : List Nat) (g : Nat → Option Int) (lim : Int) (e : Ending) (w' : World) : Prop :=
  ∃ v fp', e = .returned v ∧ SlU w' w.heap.size v (Q.take (dn lim g Q)) ∧ SegF w' fp' p (n + dn lim g Q) (P ++ Q.take (dn lim g Q)) (Q.drop (dn lim g Q)) g lim ∧ Sub w fp fp' ∧ (∀ b, v.ownBlock = some b → b ∉ fp') ∧ Frm (fun b => b ∈ fp) w w'

set_option maxRecDepth 100000 in
set_option maxHeartbeats 4000000 in
theorem demote_calls (H : SegF w fp p n P Q g lim) (hn : n + Q.length ≤ 1000000) : Calls Try.prog 42 #[.pointer (some ⟨p, 0, none⟩)] w (DemPost w fp p n P Q g lim) := by
  have HH := Lib.hid H
  have hlt := H.lt
  obtain ⟨i0, hi, hz0, hz1, hz2⟩ := info_parts info_u32
  obtain ⟨X, hX⟩ : ∃ X, X = w.heap.size := ⟨_, rfl⟩
  have hXfp : X ∉ fp := fun h => by have := hlt X h; omega
  have HX := Lib.hid hX
  have Hlt := Lib.hid hlt
  have HXf := Lib.hid hXfp
  have hk := dn_le lim g Q
  generalize hkd : dn lim g Q = k at *
  have Hkd := Lib.hid hkd
  have Hn := Lib.hid hn
  have Hk := Lib.hid hk
  unfold DemPost
  rw [hkd]
  clear H hlt hXfp hkd hn hk
  go_enter Try.func42, Try.ntmps42
  go_wp2
  rw [← hX]
  clear hX
  go_loopw [4] (fun v wr => ∃ j fp', j ≤ k ∧ SlU wr w.heap.size v (Q.take j) ∧ SegF wr fp' p (n + j) (P ++ Q.take j) (Q.drop j) g lim ∧ Sub w fp fp' ∧ X ∉ fp' ∧ (∀ b, v.ownBlock = some b → b ∉ fp' ∧ b ≠ X) ∧ wr.heap[X]? = some (.cells #[.pointer (some ⟨p, 0, none⟩)] 22 (0, 0)) ∧ Frm (fun b => b ∈ fp) w wr) (fun v _ => k - lenOf v)
  case atStart =>
    refine ⟨0, fp, Nat.zero_le _, World.ownsRow_nil _ _ _ _, ?_, Sub.refl _ _, HXf.out, fun b hb => (by cases hb), (by rw [HX.out]; exact alloc_new _ _), (Frm.refl _ w).alloc _⟩
    simpa using HH.out.frm ((Frm.refl (fun _ => False) w).alloc (.cells #[.pointer (some ⟨p, 0, none⟩)] 22 (0, 0))) (fun _ _ h => h)
  case round =>
    obtain ⟨j, fp', hj, hS, hF, hsub, hXf, hown, hbx, hfr⟩ := hrel
    have gX := cell_at hbx (o := 0) rfl
    have hnd := dn_need lim g Q j (by rw [Hkd.out]; exact hj)
    rw [Hkd.out] at hnd
    have HS := Lib.hid hS
    have HF := Lib.hid hF
    have Hsub := Lib.hid hsub
    have HXf' := Lib.hid hXf
    have Hown := Lib.hid hown
    have Hbx := Lib.hid hbx
    have Hfr := Lib.hid hfr
    clear hS hF hsub hXf hown hbx hfr
    rcases Nat.lt_or_ge j k with hjk | hjk
    · have hnd1 : need lim g (Q.drop j) = true := by rw [hnd]; exact decide_eq_true hjk
      have Hnd := Lib.hid hnd1
      have hjQ : j < Q.length := by have := Hk.out; omega
      have Hjk := Lib.hid hjk
      clear hnd hnd1 hj hjk
      go_wp2_with (go_at_call 62; refine (segF_needed HF.out gX).mono ?_; rw [Hnd.out])
      rintro e w1 ⟨rfl, hf1⟩
      have hF1 := HF.out.frm hf1 (fun _ _ h => h)
      have hX1 := hf1.heap Hbx.out (fun h => h)
      have gX1 := cell_at hX1 (o := 0) rfl
      have hlt1 := hF1.lt
      obtain ⟨y, hy⟩ : ∃ y, y = Q[j] := ⟨_, rfl⟩
      have hdr : Q.drop j = y :: Q.drop (j + 1) := by rw [hy]; exact List.drop_eq_getElem_cons hjQ
      have htk : Q.take (j + 1) = Q.take j ++ [y] := by rw [hy, List.take_succ_eq_append_getElem hjQ]
      rw [hdr] at hF1
      have hok := hF1.ok
      obtain ⟨c, hgy⟩ : ∃ c, g y = some c := by
        have := (hok.dom y).2 (.inr (by simp))
        cases hh : g y with
        | none => rw [hh] at this; cases this
        | some c => exact ⟨c, rfl⟩
      have hyP : y ∉ P ++ Q.take j := fun h => hok.dis y h (by simp)
      have hys := hok.slot y (.inr (by simp))
      have hcb := hok.cost y c hgy
      have hwf := wf_u32 hys
      have hgc : (g y).getD 0 = c := by rw [hgy]; rfl
      obtain ⟨q0, q1, bM, fp0, fp1, hfp, B⟩ := hF1
      have gq1 := cell_at B.box (o := 1) rfl
      have gq4 := cell_at B.box (o := 4) rfl
      have HB := Lib.hid B
      have HF1 := Lib.hid (show SegF w1 fp' p (n + j) (P ++ Q.take j) (y :: Q.drop (j + 1)) g lim from ⟨q0, q1, bM, fp0, fp1, hfp, B⟩)
      have HX1 := Lib.hid hX1
      have Hf1 := Lib.hid hf1
      have Htk := Lib.hid htk
      have Hgy := Lib.hid hgy
      have Hcb := Lib.hid hcb
      have Hok := Lib.hid hok
      have HyP := Lib.hid hyP
      have Hys := Lib.hid hys
      clear B hfp hX1 hf1 htk hdr hy gX hlt1 hgy hcb hok hyP hys
      go_wp2_with (go_at_call 63; refine (lruOldest_calls HB.out.l1).mono ?_; rw [List.headD_cons])
      intro e w2 he hf2
      subst he
      have HF2 := Lib.hid (HF1.out.frm hf2 (fun _ _ h => h))
      have HX2 := Lib.hid (hf2.heap HX1.out (fun h => h))
      have HB2 := Lib.hid (HB.out.frm hf2 (fun h => h) (fun h => h) (fun _ _ h => h) (fun _ _ h => h))
      have Hf2 := Lib.hid (Hf1.out.trans hf2 (fun _ _ h => h))
      have gX2 := cell_at HX2.out (o := 0) rfl
      have g4 := cell_at HB2.out.box (o := 4) rfl
      clear hf2 gX1 gq1 gq4
      go_wp2_with (first | (at_lookup; refine wpList_gmap_look1 _ rfl _ _ 66 rfl 34 3 .u32 .i64 Try.underlying34 Try.underlying66 Try.underlying3 (zero_int _) bM _ _ rfl HB2.out.map y rfl hwf c hgc ?_) | (go_at_call 41; refine (segF_take HF2.out y c Hgy.out).mono ?_))
      rintro e w3 ⟨rfl, hF3, hf3⟩
      rw [List.erase_of_not_mem HyP.out, List.erase_cons_head] at hF3
      have HF3 := Lib.hid hF3
      have HX3 := Lib.hid (hf3.heap HX2.out HXf'.out)
      have gX3 := cell_at HX3.out (o := 0) rfl
      have Hf3 := Lib.hid ((Hf2.out.mono (T := fun b => b ∈ fp') (fun _ _ h => h.elim)).trans (T := fun b => b ∈ fp') hf3 (fun _ _ h => h))
      have hPl : (P ++ Q.take j).length + (Q.drop (j + 1)).length < 1000 := by have := Hok.out.len; simp at this ⊢; omega
      have hnn : n + j < 1000000 := by have := Hn.out; omega
      have HPl := Lib.hid hPl
      have Hnn := Lib.hid hnn
      clear gX2 g4 hF3 hf3 hPl hnn
      go_wp2_with (go_at_call 40; refine (segF_put0 HF3.out y Hys.out c Hcb.out (upd_same _ _ _) HPl.out Hnn.out).mono ?_)
      rintro e w4 ⟨rfl, fp4, hF4, hs4, hf4⟩
      rw [upd_back Hgy.out, List.append_assoc, ← Htk.out] at hF4
      have hltX := lt_of_some HX3.out
      have hsz3 := Hf3.out.size
      have hltf := HF3.out.lt
      have HX4 := Lib.hid (hf4.heap HX3.out HXf'.out)
      have Hf4 := Lib.hid (Hf3.out.trans (T := fun b => b ∈ fp') hf4 (fun _ _ h => h))
      have hS4 : SlU w4 w.heap.size u4 (Q.take j) := own_frm HS.out Hf4.out (fun b hb => (Hown.out b hb).1)
      have hsub4 : Sub w fp fp4 := Hsub.out.trans (by have := Hfr.out.size; omega) (fun b hb => by
        rcases hs4 b hb with h | h
        · exact .inl h
        · exact .inr (by omega))
      have hXf4 : X ∉ fp4 := fun h => by
        rcases hs4 X h with h | h
        · exact HXf'.out h
        · omega
      have hown4 : ∀ b, u4.ownBlock = some b → b ∉ fp4 := fun b hb h => by
        rcases hs4 b h with h | h
        · exact (Hown.out b hb).1 h
        · have h1 := own_lt HS.out hb
          omega
      have Hsub4 := Lib.hid hsub4
      have HXf4 := Lib.hid hXf4
      have Hown4 := Lib.hid hown4
      have HF4 := Lib.hid hF4
      have hS4' : w4.ownsRow w.heap.size 34 1 u4 j (us (Q.take j)) := by
        have := hS4
        unfold SlU at this
        rw [List.length_take, Nat.min_eq_left (by omega)] at this
        exact this
      have hszw : w.heap.size ≤ w4.heap.size := by have := Hfr.out.size; have := Hf4.out.size; omega
      have hjm : j ≤ 1000000 := by have := Hnn.out; omega
      have HS4 := Lib.hid hS4'
      clear hs4 hf4 hsub4 hXf4 hown4 hF4 hS4 hS4' gX3 hltX hltf hsz3
      go_wp2_with (at_builtin; refine wpList_append2 _ rfl _ _ 38 rfl w.heap.size 34 i0 (.int .u32 0) 1 4 Try.underlying38 hi hz0 hz1 hz2 rfl (by decide) _ _ _ rfl (World.ownsRow.alloc HS4.out _) ⟨w4.heap.size, 0, none⟩ 1 1 [.int .u32 y] rfl rfl (one_cell_at) (one_cell_u y) (by unfold maxLen; omega) (by omega) (by simp; omega) ?_)
      intro v' w5 hown' hgrow hblk
      obtain ⟨gb, capN, hv'⟩ : ∃ gb capN, v' = .slice (some ⟨gb, 0, none⟩) (j + 1) capN := by
        rcases hown'.2 with h | ⟨gb, c, cur, hv, _⟩
        · exact absurd h.2 (by omega)
        · exact ⟨gb, c, hv⟩
      subst hv'
      have hG : Frm (fun b => u4.ownBlock = some b) w4 w5 := ((Frm.refl _ w4).alloc _).trans (T := fun b => u4.ownBlock = some b) (Frm.grown hgrow fun _ _ hb => hb) (fun b _ h => h)
      have HF5 := Lib.hid (HF4.out.frm hG (fun b hb h => Hown4.out b h hb))
      have HX5 := Lib.hid (hG.heap HX4.out (fun h => (Hown.out X h).2 rfl))
      have Hf5 := Lib.hid (show Frm (fun b => b ∈ fp) w w5 from ((Hfr.out.trans (T := fun b => b ∈ fp') Hf4.out (fun b hb h => by
          rcases Hsub.out b h with h | h
          · exact h
          · omega)).trans hG (fun b hb h => by have := own_ge HS4.out h; omega)))
      have HS5 := Lib.hid (show SlU w5 w.heap.size (.slice (some ⟨gb, 0, none⟩) (j + 1) capN) (Q.take (j + 1)) by
        rw [Htk.out]
        refine SlU.snoc ?_
        rw [List.length_take, Nat.min_eq_left (by omega)]
        exact hown')
      have Hown5 := Lib.hid (show ∀ b, (Value.slice (some ⟨gb, 0, none⟩) (j + 1) capN).ownBlock = some b → b ∉ fp4 ∧ b ≠ X from fun b hb => by
        rcases hblk b hb with h | h
        · exact ⟨Hown4.out b h, (Hown.out b h).2⟩
        · have hX4 := lt_of_some HX4.out
          have h : w4.heap.size ≤ b := Nat.le_trans (by simp) h
          refine ⟨fun h2 => ?_, by omega⟩
          have := HF4.out.lt b h2
          omega)
      clear hgrow hown' hblk hG
      go_wp2
      go_roundw
      case rel => exact ⟨j + 1, fp4, by have := Hjk.out; omega, HS5.out, (by rw [← Nat.add_assoc]; exact HF5.out), Hsub4.out, HXf4.out, Hown5.out, HX5.out, Hf5.out⟩
      case measure =>
        have h2 := lenOf_own HS4.out
        have := Hjk.out
        rw [h2]
        simp only [lenOf]
        omega
    · have hjk' : j = k := by omega
      subst hjk'
      have hnd1 : need lim g (Q.drop j) = false := by rw [hnd]; simp
      have Hnd := Lib.hid hnd1
      clear hnd hnd1 hj hjk
      go_wp2_with (go_at_call 62; refine (segF_needed HF.out gX).mono ?_; rw [Hnd.out])
      rintro e w1 ⟨rfl, hf1⟩
      go_wp2
      go_ret
      exact ⟨_, fp', rfl, own_frm HS.out hf1 (fun _ _ h => h), HF.out.frm hf1 (fun _ _ h => h), Hsub.out, fun b hb => (Hown.out b hb).1, Hfr.out.trans hf1 (fun _ _ h => h.elim)⟩
end
end Go.Proofs.Ytogidmjilbpacaa
