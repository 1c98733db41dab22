/- Layer 14: All, its iterator. -/
import Derived.Test.YtogidmjilbpacaaLk6
import Derived.Test.YtogidmjilbpacaaRange
import Derived.OwnWalkIn
import Derived.LoopNIn
import Derived.LoopIn
namespace Go.Proofs.Ytogidmjilbpacaa
open Go.RowKit Go.Cub

attribute [local go_sem] Oper.semAt_some

/-- An iterator's block X holds the slice v of the numbers xs, all of them new since 'base'. -/
structure ItAt (w : World) (base X : Nat) (v : Value) (xs : List Nat) : Prop where
  box : w.heap[X]? = some (.cells #[v] 38 (0, 0))
  own : SlU w base v xs
  new : base ≤ X
  apart : ∀ b, v.ownBlock = some b → b ≠ X

theorem ItAt.bk {B : Nat} {w w1 : World} {base X : Nat} {v : Value} {xs : List Nat} (h : ItAt w base X v xs) (hb : Bk B w w1) : ItAt w1 base X v xs := ⟨hb.cells h.box, hb.owns h.own, h.new, h.apart⟩
theorem ItAt.frm {S : Nat → Prop} {w w1 : World} {base X : Nat} {v : Value} {xs : List Nat} (h : ItAt w base X v xs) (hf : Frm S w w1) (hS : ∀ b, b < w.heap.size → base ≤ b → ¬ S b) : ItAt w1 base X v xs :=
  ⟨hf.heap h.box (hS X (lt_of_some h.box) h.new), own_frm h.own hf (fun b hb => hS b (own_lt h.own hb) (own_ge h.own hb)), h.new, h.apart⟩

theorem SlU.cases {w : World} {base : Nat} {v : Value} {xs : List Nat} (h : SlU w base v xs) :
    (v = .slice none 0 0 ∧ xs = []) ∨ ∃ b cap cur, v = .slice (some ⟨b, 0, none⟩) xs.length cap ∧ base ≤ b ∧ w.heap[b]? = some (.cells cur 34 (0, 0)) ∧ xs.length ≤ cap ∧ cur.size = cap ∧
      ∀ j (hj : j < xs.length), w.cell? ⟨b, j, none⟩ = some (.int .u32 (xs[j] : Int)) := by
  obtain ⟨h1, h2 | ⟨g, cap, cur, hv, hg, hh, hn, hc, hs, ht⟩⟩ := h
  · exact .inl ⟨h2.1, List.length_eq_zero_iff.1 h2.2⟩
  · refine .inr ⟨g, cap, cur, hv, hg, hh, hn, by simpa using hs, fun j hj => cell_at hh ?_⟩
    have h3 : (cur.toList.take (xs.length * 1))[j]? = (us xs)[j]? := by rw [ht]
    rw [Nat.mul_one, List.getElem?_take_of_lt hj] at h3
    rw [← Array.getElem?_toList, h3]
    simp [us, hj]

set_option maxHeartbeats 2000000 in
theorem all1_iter {W : World} {base X : Nat} {v : Value} {xs : List Nat} (H : ItAt W base X v xs) (hN : xs.length ≤ 4194304) :
    Iter Try.prog 72 #[.pointer (some ⟨X, 0, none⟩)] (fun k => #[.int .u32 (nth xs k 0 : Nat)]) (fun W W' => ∀ b, v.ownBlock = some b → KeepB b W W') xs.length W := by
  intro l J Jx hY h0
  have hc0 : W.cell? ⟨X, 0, none⟩ = some v := cell_at H.box rfl
  refine callsIn_of_wp Try.func72 rfl trivial ?_ rfl
  simp only [Try.ntmps72, List.size_toArray, List.length_cons, List.length_nil, Nat.reduceAdd, Nat.reduceSub, Array.replicate_succ, Array.replicate_zero, List.push_toArray, List.append_toArray, List.nil_append, List.cons_append]
  rcases SlU.cases H.own with ⟨hv, hx⟩ | ⟨b, cap, cur, hv, hb, hh, hcap, hsz, hcs⟩
  · subst hv; subst hx
    gi_wp2
    gi_loopw [7] (fun i wr => i = .int .i64 0 ∧ J 0 wr) (fun _ _ => 0)
    case atStart => exact ⟨rfl, h0⟩
    case round =>
      obtain ⟨rfl, hJs⟩ := hrel
      gi_wp2
      go_end0
      exact ⟨⟨_, rfl⟩, .inl hJs⟩
  · subst hv
    gi_wp2
    gi_loopw [7] (fun i wr => ∃ k : Nat, k ≤ xs.length ∧ i = .int .i64 k ∧ J k wr ∧ wr.heap[b]? = some (.cells cur 34 (0, 0))) (fun i _ => xs.length - (intOf i).toNat)
    case atStart => exact ⟨0, Nat.zero_le _, rfl, h0, hh⟩
    case round =>
      obtain ⟨k, hk, rfl, hJs, hhr⟩ := hrel
      by_cases hlt : k < xs.length
      · obtain ⟨fn, tmps, assign, body, hy, hR⟩ := hY k wr hlt hJs
        have hcx : wr.cell? ⟨b, k, none⟩ = some (.int .u32 (nth xs k 0 : Nat)) := by
          have := hcs k hlt
          unfold World.cell? at this ⊢
          rw [hhr]
          rw [hh] at this
          rw [nth_lt _ hlt]; exact this
        gi_wp2
        refine ⟨rfl, hR.mono ?_⟩
        rintro e W3 (⟨rfl, hJ3, hk3⟩ | ⟨rfl, hJx3⟩)
        · have hh3 := hk3 b rfl _ _ _ hhr
          gi_wp2
          go_roundw
          case rel => exact ⟨k + 1, by omega, by simp, hJ3, hh3⟩
          case measure => simp [intOf]; omega
        · gi_wp2
          refine bodyPost_ret (results_none rfl _ _ _) rfl ?_
          exact ⟨⟨_, rfl⟩, .inr hJx3⟩
      · obtain rfl : k = xs.length := by omega
        gi_wp2
        go_end0
        exact ⟨⟨_, rfl⟩, .inl hJs⟩
end Go.Proofs.Ytogidmjilbpacaa
