/- A range over a function whose values are known by their number: one law for the statement; the function's way out; what the book-keeping leaves alone. -/
import Derived.RangeFuncWrites
import Derived.RangeFuncLeaves
import Derived.RangeFuncCalls
import Derived.RangeFuncNested
import Derived.Test.YtogidmjilbpacaaPlan
import Derived.Test.YtogidmjilbpacaaBase
import Derived.TacticsInMore
namespace Go.Cub
open Go Go.RowKit

/-- A step of book-keeping: cells, and whatever lies below B, lie as they lay. -/
structure Bk (B : Nat) (W W' : World) : Prop where
  os : W'.os = W.os
  tape : W'.tape = W.tape
  output : W'.output = W.output
  size : W.heap.size ≤ W'.heap.size
  same : ∀ b o, W.heap[b]? = some o → (o.isCells = true ∨ b < B) → W'.heap[b]? = some o

section
variable {B : Nat} {W W1 W2 : World}
theorem Bk.refl (B : Nat) (W : World) : Bk B W W := ⟨rfl, rfl, rfl, Nat.le_refl _, fun _ _ h _ => h⟩
theorem Bk.trans (h : Bk B W W1) (k : Bk B W1 W2) : Bk B W W2 :=
  ⟨k.os.trans h.os, k.tape.trans h.tape, k.output.trans h.output, Nat.le_trans h.size k.size, fun b o hb hc => k.same b o (h.same b o hb hc) hc⟩
theorem Bk.putObj {l : Nat} {o : Obj} (o' : Obj) (hl : B ≤ l) (h : W.heap[l]? = some o) (ho : o.isCells = false) : Bk B W (W.putObj l o') :=
  ⟨rfl, rfl, rfl, by simp, fun b o2 hb hc => by
    have hne : b ≠ l := by
      intro e; subst e
      rw [h] at hb; cases hb
      rcases hc with hc | hc
      · rw [ho] at hc; cases hc
      · omega
    exact (World.putObj_heap_other hne).trans hb⟩
theorem Bk.alloc (_ : B ≤ W.heap.size) (o : Obj) : Bk B W (W.alloc o) :=
  ⟨rfl, rfl, rfl, by simp, fun b o2 hb _ => (Below.heap_alloc _ _ _ (lt_of_some hb)).trans hb⟩
theorem Bk.cells {b : Nat} {A : Array Value} {t : TypeId} {f : Nat × Nat} (h : Bk B W W1) (hb : W.heap[b]? = some (.cells A t f)) : W1.heap[b]? = some (.cells A t f) := h.same b _ hb (.inl rfl)
theorem Bk.frm {S : Nat → Prop} {w : World} (h : Bk B W W1) (hf : Frm S w W) (hB : w.heap.size ≤ B) : Frm S w W1 :=
  ⟨h.os.trans hf.os, h.tape.trans hf.tape, h.output.trans hf.output, Nat.le_trans hf.size h.size, fun b hb hS => by
    have h1 := hf.block b hb hS
    rw [← h1]
    have h2 : b < W.heap.size := Nat.lt_of_lt_of_le hb hf.size
    exact (h.same b W.heap[b] (Array.getElem?_eq_getElem h2) (.inr (by omega))).trans (Array.getElem?_eq_getElem h2).symm⟩
theorem Bk.row {b : Nat} {k : IntKind} {c : Nat → Int} {M : Nat} (h : Bk B W W1) (hr : Row W b k c M) : Row W1 b k c M := by
  obtain ⟨A, E, h1, h2⟩ := hr
  exact ⟨A, E, h.cells h1, h2⟩
theorem Bk.owns {base : Nat} {e : TypeId} {size : Nat} {v : Value} {n : Nat} {xs : List Value} (h : Bk B W W1) (ho : W.ownsRow base e size v n xs) : W1.ownsRow base e size v n xs := by
  obtain ⟨h1, h2⟩ := ho
  refine ⟨h1, ?_⟩
  rcases h2 with h2 | ⟨g, cap, cur, hv, hg, hh, r⟩
  · exact .inl h2
  · exact .inr ⟨g, cap, cur, hv, hg, h.cells hh, r⟩
end

/-- A block of cells lies as it lay. -/
def KeepB (b : Nat) (W W' : World) : Prop := ∀ A t f, W.heap[b]? = some (.cells A t f) → W'.heap[b]? = some (.cells A t f)
theorem KeepB.bk {B b : Nat} {W W1 W2 W3 : World} (h1 : Bk B W W1) (h : KeepB b W1 W2) (h2 : Bk B W2 W3) : KeepB b W W3 := fun A t f hb => h2.cells (h A t f (h1.cells hb))
theorem KeepB.of_frm {S : Nat → Prop} {b : Nat} {W W' : World} (h : Frm S W W') (hb : ¬ S b) : KeepB b W W' := fun _ _ _ hh => h.heap hh hb

/-- What an iterator does for every loop: the values encs 0, .., encs (N - 1), one after the other, unless a round says 'no more'. -/
def Iter (P : Program) (gf : Nat) (lb : Array Value) (encs : Nat → Array Value) (Kp : World → World → Prop) (N : Nat) (W : World) : Prop :=
  ∀ (l : Nat) (J : Nat → World → Prop) (Jx : World → Prop),
    (∀ k W1, k < N → J k W1 → YieldAt Fence.wide 0 P l (encs k) W1 fun e W' => (e = .returned (.bool true) ∧ J (k + 1) W' ∧ Kp W1 W') ∨ (e = .returned (.bool false) ∧ Jx W')) →
    J 0 W → CallsIn Fence.wide 0 P gf (#[.func (.yield l) #[] #[]] ++ lb) W fun e W' => (∃ v, e = .returned v) ∧ (J N W' ∨ Jx W')

def rPost (B : Nat) (Kp : World → World → Prop) (I : Nat → World → Prop) (Ix : Code → World → Prop) (k : Nat) (W W2 : World) : Exit → Act → World → Prop
  | .normal, _, W' => KeepsFrom B W2 W' ∧ Kp W W' ∧ I (k + 1) W'
  | .ret, _, W' => KeepsFrom B W2 W' ∧ Ix .ret W'
  | .exit id, _, W' => KeepsFrom B W2 W' ∧ Ix (.exit id) W'
  | .goto t, _, W' => KeepsFrom B W2 W' ∧ Ix (.goto t) W'
  | _, _, _ => False

abbrev mark (D : Nat) : Deferred := { target := .collected D, args := #[] }

theorem wp_range {P : Program} {g : Operand} {ps : Array Tmp} {assign body : Code} {Q : Exit → Act → World → Prop} {a : Act} {w : World} {gf : Nat} {lb : Array Value}
    (hg : a.eval g = .func (.func gf) #[] lb) (eg : ∀ args w, (callFunc gf args).run P w = .ok (.enter gf args) w)
    {N : Nat} {encs : Nat → Array Value} {Kp : World → World → Prop} (hps : ∀ k, (encs k).size = ps.size) (hseq : ∀ W, Bk w.heap.size w W → Iter P gf lb encs Kp N W)
    (hKp : ∀ A B C D, Bk w.heap.size A B → Kp B C → Bk w.heap.size C D → Kp A D)
    (I : Nat → World → Prop) (Ix : Code → World → Prop) (hI : ∀ k W W', I k W → Bk w.heap.size W W' → I k W') (hIx : ∀ c W W', Ix c W → Bk w.heap.size W W' → Ix c W') (h0 : I 0 w)
    (hround : ∀ (l k : Nat) (W : World), k < N → I k W →
      assign.wpIn (Fence.wide.inRound l) 0 P (Exit.then (fun a1 W1 => KeepsFrom w.heap.size W W1 ∧ ∀ W2, Bk w.heap.size W1 W2 → body.wpIn (Fence.wide.inRound l) 0 P (rPost w.heap.size Kp I Ix k W W2) a1 W2) (fun _ _ _ => False))
        { tmps := (ps.zip (encs k)).foldl (fun t (p, v) => t.setIfInBounds p v) a.tmps, defers := [] } W)
    (hdone : ∀ (D : Nat) (W : World), w.heap.size ≤ D → I N W → W.heap[D]? = some (.deferred (some [])) → Q .normal { a with defers := mark D :: a.defers } W)
    (hstop : ∀ (D : Nat) (c : Code) (W : World), w.heap.size ≤ D → Ix c W → W.heap[D]? = some (.deferred (some [])) → c.wp P Q { a with defers := mark D :: a.defers } W) :
    (Code.rangeFunc g ps assign body).wp P Q a w := by
  refine (wpIn_wide (n := 0)).1 (wpIn_rangeFunc ?_)
  intro fn hfn
  show ∃ _ _ _ _ _ _ _ _, (Instr.enterLoop fn a.tmps ps assign body none).run P w = _ ∧ _
  obtain ⟨rec, hrec⟩ : ∃ rec : LoopState → Option Code → Loop, rec = fun st pe => { state := st, pending := pe, fn, tmps := a.tmps, params := ps, assign, body, defers := w.heap.size } := ⟨_, rfl⟩
  have hD : w.heap.size < (w.alloc (.deferred (some []))).heap.size := by simp
  obtain ⟨W1, hW1⟩ : ∃ W1, (w.alloc (.deferred (some []))).alloc (.loop (rec .ready none)) = W1 := ⟨_, rfl⟩
  have hL1 : W1.heap[w.heap.size + 1]? = some (.loop (rec .ready none)) := by
    rw [← hW1]; have := World.alloc_heap_new (w.alloc (.deferred (some []))) (.loop (rec .ready none)); rwa [World.size_alloc] at this
  have hK1 : W1.heap[w.heap.size]? = some (.deferred (some [])) := by
    rw [← hW1]; exact alloc_old (alloc_new w _) _
  have hbk1 : Bk w.heap.size w W1 := by rw [← hW1]; exact (Bk.alloc (Nat.le_refl _) _).trans (Bk.alloc (by simp) _)
  refine ⟨w.heap.size + 1, [mark w.heap.size], W1, { target := .fn (.func gf) lb, args := #[.func (.yield (w.heap.size + 1)) #[] #[]] }, W1, gf, #[.func (.yield (w.heap.size + 1)) #[] #[]] ++ lb, W1,
    by rw [← hW1, hrec]; exact run_enterLoop_outer _ _ _ _ _, by simp only [resolve, hg]; simp [go_sem], fun _ _ => trivial, by simp [invoke, go_sem, eg], (fun h => by cases h), ?_⟩
  -- the record and the block for deferred calls through a round
  refine (hseq W1 hbk1 (w.heap.size + 1) (fun k W => I k W ∧ W.heap[w.heap.size + 1]? = some (.loop (rec .ready none)) ∧ W.heap[w.heap.size]? = some (.deferred (some [])))
    (fun W => ∃ c, Ix c W ∧ W.heap[w.heap.size + 1]? = some (.loop (rec .done (some c))) ∧ W.heap[w.heap.size]? = some (.deferred (some []))) ?_ ⟨hI _ _ _ h0 hbk1, hL1, hK1⟩).mono ?_
  · rintro k W hk ⟨hi, hl, hd⟩
    have hy := run_yield (P := P) (args := encs k) hl (by rw [hrec]; exact hps k)
    rw [hrec] at hy
    refine ⟨fn, _, assign, body, hy, roundIn_of_wpIn hfn (wpIn_mono (hround _ k W hk hi) ?_)⟩
    rintro e a1 Wa hq
    cases e with
    | normal =>
      obtain ⟨hka, hb⟩ := hq
      have hla := hka.same _ _ (by omega) hl rfl
      have hda := hka.same _ _ (Nat.le_refl _) hd rfl
      have hbeg := run_beginRound (P := P) hla (by rw [hrec])
      have hbk2 : Bk w.heap.size Wa (Wa.putObj (w.heap.size + 1) (.loop { rec .ready none with state := .busy })) := Bk.putObj _ (by omega) hla rfl
      have hl2 : (Wa.putObj (w.heap.size + 1) (.loop { rec .ready none with state := .busy })).heap[w.heap.size + 1]? = some (.loop { rec .ready none with state := .busy }) := World.putObj_heap_same (lt_of_some hla)
      have hd2 : (Wa.putObj (w.heap.size + 1) (.loop { rec .ready none with state := .busy })).heap[w.heap.size]? = some (.deferred (some [])) := (World.putObj_heap_other (by omega)).trans hda
      refine ⟨_, hbeg, wpIn_mono (hb _ hbk2) ?_⟩
      have fin : ∀ (jump : Option Code) (W3 : World), KeepsFrom w.heap.size (Wa.putObj (w.heap.size + 1) (.loop { rec .ready none with state := .busy })) W3 →
          ∃ W4, (Instr.endRound (w.heap.size + 1) jump).run P W3 = .ok (.bool jump.isNone) W4 ∧ Bk w.heap.size W3 W4 ∧
            W4.heap[w.heap.size + 1]? = some (.loop (rec (if jump.isNone then .ready else .done) jump)) ∧ W4.heap[w.heap.size]? = some (.deferred (some [])) := fun jump W3 hk3 => by
        have hl3 := hk3.same _ _ (by omega) hl2 rfl
        have hd3 := hk3.same _ _ (Nat.le_refl _) hd2 rfl
        have hend := run_endRound (P := P) jump hl3
        refine ⟨_, hend, Bk.putObj _ (by omega) hl3 rfl, ?_, (World.putObj_heap_other (by omega)).trans hd3⟩
        rw [World.putObj_heap_same (lt_of_some hl3), hrec]
      rintro e3 a3 W3 hp
      cases e3 with
      | normal =>
        obtain ⟨hk3, hkp, hi3⟩ := hp
        obtain ⟨W4, hend, hb4, hl4, hd4⟩ := fin none W3 hk3
        exact ⟨_, _, hend, .inl ⟨rfl, ⟨hI _ _ _ hi3 hb4, hl4, hd4⟩, hKp _ _ _ _ (Bk.refl _ _) hkp hb4⟩⟩
      | ret =>
        obtain ⟨hk3, hi3⟩ := hp
        obtain ⟨W4, hend, hb4, hl4, hd4⟩ := fin (some .ret) W3 hk3
        exact ⟨_, _, hend, .inr ⟨rfl, _, hIx _ _ _ hi3 hb4, hl4, hd4⟩⟩
      | exit id =>
        obtain ⟨hk3, hi3⟩ := hp
        obtain ⟨W4, hend, hb4, hl4, hd4⟩ := fin (some (.exit id)) W3 hk3
        exact ⟨_, _, hend, .inr ⟨rfl, _, hIx _ _ _ hi3 hb4, hl4, hd4⟩⟩
      | goto t =>
        obtain ⟨hk3, hi3⟩ := hp
        obtain ⟨W4, hend, hb4, hl4, hd4⟩ := fin (some (.goto t)) W3 hk3
        exact ⟨_, _, hend, .inr ⟨rfl, _, hIx _ _ _ hi3 hb4, hl4, hd4⟩⟩
      | panic ch => exact hp.elim
      | outgrown => exact hp.elim
    | ret => exact hq.elim
    | exit id => exact hq.elim
    | goto t => exact hq.elim
    | panic ch => exact hq.elim
    | outgrown => exact hq.elim
  · rintro e W2 ⟨⟨v, rfl⟩, (⟨hi, hl, hd⟩ | ⟨c, hi, hl, hd⟩)⟩
    · have hend := run_endLoop (P := P) hl (by rw [hrec]; simp)
      rw [hrec] at hend
      exact ⟨none, _, hend, hdone _ _ (Nat.le_refl _) (hI _ _ _ hi (Bk.putObj _ (by omega) hl rfl)) ((World.putObj_heap_other (by omega)).trans hd)⟩
    · have hend := run_endLoop (P := P) hl (by rw [hrec]; simp)
      rw [hrec] at hend
      exact ⟨some c, _, hend, wpIn_wide.2 (hstop _ c _ (Nat.le_refl _) (hIx _ _ _ hi (Bk.putObj _ (by omega) hl rfl)) ((World.putObj_heap_other (by omega)).trans hd))⟩

/-! ### the way out of a function that holds such a statement -/
theorem calls_of_marks {P : Program} {f : FuncId} {fn : Func} {c : Code} {args : Array Value} {w : World} {R : Ending → World → Prop} (hf : P.funcs[f]? = some fn) (hb : fn.body = some c)
    (h : c.wp P (bodyPostM Fence.wide 0 P fn R) { tmps := args ++ Array.replicate (fn.ntmps - args.size) undef, defers := [] } w) : Calls P f args w R :=
  callsIn_wide.1 (callsIn_of_wp_marks hf hb trivial ((wpIn_wide (n := 0)).2 h))

theorem leaves_marks {P : Program} {fn : Func} {tmps : Array Value} {R : Ending → World → Prop} {B : Nat} {v : Value} : ∀ (Ds : List Nat) (w : World), Ds.Nodup → (∀ D ∈ Ds, B ≤ D ∧ w.heap[D]? = some (.deferred (some []))) →
    (∀ W', (results fn tmps).run P W' = .ok v W') → (∀ W', Bk B w W' → R (.returned v) W') → LeavesInM Fence.wide 0 P fn tmps R (Ds.map mark) .returning w
  | [], w, _, _, hr, hR => by
    show LeavesIn Fence.wide 0 P fn tmps R [] .returning w
    exact ⟨v, hr w, hR w (Bk.refl _ _)⟩
  | D :: Ds, w, hn, hd, hr, hR => by
    have h1 := hd D (by simp)
    have hn' := List.nodup_cons.1 hn
    refine ⟨by simp, .inl ⟨D, _, rfl, run_takeDeferred h1.2, ?_⟩⟩
    refine leaves_marks Ds _ hn'.2 (fun D' hD' => ?_) hr (fun W' hW' => hR W' ((Bk.putObj _ h1.1 h1.2 rfl).trans hW'))
    have h2 := hd D' (by simp [hD'])
    exact ⟨h2.1, (World.putObj_heap_other (fun e => hn'.1 (by rw [← e]; exact hD'))).trans h2.2⟩

theorem bodyPostM_ret {P : Program} {fn : Func} {R : Ending → World → Prop} {a : Act} {w : World} {B : Nat} {v : Value} (Ds : List Nat) (hd : a.defers = Ds.map mark) (hn : Ds.Nodup)
    (h : ∀ D ∈ Ds, B ≤ D ∧ w.heap[D]? = some (.deferred (some []))) (hr : ∀ W', (results fn a.tmps).run P W' = .ok v W') (hR : ∀ W', Bk B w W' → R (.returned v) W') : bodyPostM Fence.wide 0 P fn R .ret a w := by
  show LeavesInM Fence.wide 0 P fn a.tmps R a.defers .returning w
  rw [hd]
  exact leaves_marks Ds w hn h hr hR
theorem bodyPostM_end {P : Program} {fn : Func} {R : Ending → World → Prop} {a : Act} {w : World} {B : Nat} {v : Value} (Ds : List Nat) (hd : a.defers = Ds.map mark) (hn : Ds.Nodup)
    (h : ∀ D ∈ Ds, B ≤ D ∧ w.heap[D]? = some (.deferred (some []))) (hr : ∀ W', (results fn a.tmps).run P W' = .ok v W') (hR : ∀ W', Bk B w W' → R (.returned v) W') : bodyPostM Fence.wide 0 P fn R .normal a w :=
  bodyPostM_ret Ds hd hn h hr hR
end Go.Cub
