/- A slice of structs of four fields (a number, a slot, a number, a slice of slots) that came in: its cells. -/
import Derived.Test.YtogidmjilbpacaaRd
import Derived.Deep.Slices
import Derived.ChangeSame
namespace Go.Proofs.Ytogidmjilbpacaa
open Go.RowKit Go.Cub Go.ChangeShapes Go.WideShapes Go.Deep

/-- a call of a law's script -/
structure ActD where
  what : Int
  slot : Nat
  num : Int
  to : List Nat

/-- The slice v reads as these calls. -/
def RA (w : World) (v : Value) (acts : List ActD) : Prop :=
  ∃ a cap, v = .slice a acts.length cap ∧ ∀ i (h : i < acts.length), ∃ b off tv, a = some ⟨b, off, none⟩ ∧ w.cell? ⟨b, off + i * 4, none⟩ = some (.int .i64 acts[i].what) ∧ w.cell? ⟨b, off + i * 4 + 1, none⟩ = some (.int .u32 (acts[i].slot : Int)) ∧
    w.cell? ⟨b, off + i * 4 + 2, none⟩ = some (.int .i64 acts[i].num) ∧ w.cell? ⟨b, off + i * 4 + 3, none⟩ = some tv ∧ RU w tv acts[i].to ∧ acts[i].slot < 4294967296 ∧ (Lit.int .i64 acts[i].num).wf = true ∧ ∀ x ∈ acts[i].to, x < 4294967296
theorem RA.frm {w w1 : World} {v : Value} {xs : List ActD} {S : Nat → Prop} (h : RA w v xs) (hf : Frm S w w1) (hS : ∀ b, b < w.heap.size → ¬ S b) : RA w1 v xs := by
  obtain ⟨a, cap, rfl, h⟩ := h
  refine ⟨a, cap, rfl, fun i hi => ?_⟩
  obtain ⟨b, off, tv, rfl, h1, h2, h3, h4, h5, h6⟩ := h i hi
  exact ⟨b, off, tv, rfl, cell_frm hf hS h1, cell_frm hf hS h2, cell_frm hf hS h3, cell_frm hf hS h4, h5.frm hf hS, h6⟩

section
variable {H : Type} {enc : TypeId × Value → H} {P : Program} {w : World} {base : Nat} {spare : Nat → Bool} {held : Bool}

theorem open_slice4 {t e : TypeId} {f0 f1 f2 f3 : Field} {fuel : Nat} {cs : List Value} {x : DataW H × List MemPlace} (ht : P.underlying t = some (.slice e)) (he : P.underlying e = some (.struct #[f0, f1, f2, f3]))
    (ce : P.cellsOf e = 4) (o0 : f0.offset = 0) (o1 : f1.offset = 1) (o2 : f2.offset = 2) (o3 : f3.offset = 3) (c0 : P.cellsOf f0.type = 1) (c1 : P.cellsOf f1.type = 1) (c2 : P.cellsOf f2.type = 1) (c3 : P.cellsOf f3.type = 1)
    (h : DataW.trod enc P w base spare held fuel t cs = some x) :
    cs = [.slice none 0 0] ∨
    ∃ (a : Addr) (len cap : Nat), cs = [.slice (some a) len cap] ∧ len ≤ cap ∧ cap ≤ maxLen ∧ ∀ i, i < len → ∃ v0 v1 v2 v3 n y0 y1 y2 y3, w.cell? (a.add (i * 4)) = some v0 ∧ w.cell? (a.add (i * 4 + 1)) = some v1 ∧ w.cell? (a.add (i * 4 + 2)) = some v2 ∧ w.cell? (a.add (i * 4 + 3)) = some v3 ∧
        DataW.trod enc P w base spare held n f0.type [v0] = some y0 ∧ DataW.trod enc P w base spare held n f1.type [v1] = some y1 ∧ DataW.trod enc P w base spare held n f2.type [v2] = some y2 ∧ DataW.trod enc P w base spare held n f3.type [v3] = some y3 := by
  rcases open_slice ht h with h0 | ⟨a, len, cap, m, n, D, Pl, rfl, hb, hl, hm, hmm, rfl, hx⟩
  · exact Or.inl h0.1
  right
  have hlm : len ≤ m := by rw [hmm]; split <;> omega
  refine ⟨a, len, cap, rfl, hl, hm, fun i hi => ?_⟩
  obtain ⟨cs', h1, h2⟩ := hx i (by omega)
  rw [ce] at h1
  obtain ⟨_, hlen, hcell⟩ := World.cells?_some h1
  obtain ⟨xs, k, hk, hxy, _, hxl, hf⟩ := DataW.trod_struct he h2
  match xs, hxl, cs', hlen with
  | [y0, y1, y2, y3], _, [v0, v1, v2, v3], _ =>
    have g0 := hf 0 f0 rfl
    have g1 := hf 1 f1 rfl
    have g2 := hf 2 f2 rfl
    have g3 := hf 3 f3 rfl
    simp [o0, o1, o2, o3, c0, c1, c2, c3] at g0 g1 g2 g3
    have e0 := hcell 0 (by omega)
    have e1 := hcell 1 (by omega)
    have e2 := hcell 2 (by omega)
    have e3 := hcell 3 (by omega)
    rw [add_add] at e0 e1 e2 e3
    exact ⟨v0, v1, v2, v3, _, y0, y1, y2, y3, by simpa using e0, by simpa using e1, by simpa using e2, by simpa using e3, g0, g1, g2, g3⟩
end

theorem u32_ge {a : Int} (h : (Lit.int .u32 a).wf = true) : 0 ≤ a := by
  simp [Lit.wf, IntKind.min, IntKind.max, IntKind.signed, IntKind.bits] at h
  omega
theorem u32_lt {a : Int} (h : (Lit.int .u32 a).wf = true) : a < 4294967296 := by
  simp [Lit.wf, IntKind.min, IntKind.max, IntKind.signed, IntKind.bits] at h
  omega
theorem cell_spot {w : World} {x : Addr} {v : Value} (h0 : w.cell? x = some v) : x.spot = none := by
  unfold World.cell? at h0
  split at h0
  · split at h0
    · cases h0
    · rename_i hs; simpa using hs
  · cases h0

/-- a slice of slots that came in -/
theorem ru_of_trod {H : Type} {enc : TypeId × Value → H} {w : World} {base fuel : Nat} {spare : Nat → Bool} {held : Bool} {v : Value} {x : DataW H × List MemPlace} (h : DataW.trod enc Try.prog w base spare held fuel 38 [v] = some x) :
    ∃ xs, RU w v xs ∧ ∀ x ∈ xs, x < 4294967296 := by
  rcases open_ints Try.underlying38 Try.underlying34 (by kernel_rfl) h with ⟨hcs, _⟩ | ⟨a, l, c, zs, hcs, _, hl, hm, hz, _, hcell, hwz⟩
  · simp at hcs
    subst hcs
    exact ⟨[], RU.nil _ _ _, fun x hx => by cases hx⟩
  · simp at hcs
    subst hcs
    have hzl : l ≤ zs.length := by rw [hz]; split <;> omega
    refine ⟨(zs.take l).map Int.toNat, ?_, fun x hx => ?_⟩
    · have hlen : ((zs.take l).map Int.toNat).length = l := by rw [List.length_map, List.length_take]; omega
      refine ⟨some a, c, by rw [hlen], fun i hi => ?_⟩
      rw [hlen] at hi
      have hc := hcell i (by omega)
      have hsp := cell_spot hc
      obtain ⟨b, off, spot⟩ := a
      have hsp' : spot = none := by
        have h0 := cell_spot (hcell 0 (by omega))
        simpa [Addr.add] using h0
      subst hsp'
      refine ⟨b, off, rfl, ?_⟩
      rw [Addr.add_lit] at hc
      rw [hc]
      have hmem : zs.getD i 0 ∈ zs := by
        rw [List.getD_eq_getElem?_getD, List.getElem?_eq_getElem (show i < zs.length by omega)]
        exact List.getElem_mem _
      have h1 := u32_ge (hwz _ hmem)
      congr 2
      rw [List.getElem_map, List.getElem_take]
      have : zs.getD i 0 = zs[i] := by rw [List.getD_eq_getElem?_getD, List.getElem?_eq_getElem (show i < zs.length by omega)]; rfl
      rw [← this]
      omega
    · obtain ⟨y, hy, rfl⟩ := List.mem_map.1 hx
      have hmem := List.mem_of_mem_take hy
      have h1 := u32_ge (hwz _ hmem)
      have h2 := u32_lt (hwz _ hmem)
      omega

instance : Inhabited ActD := ⟨⟨0, 0, 0, []⟩⟩

theorem ra_of_trod {H : Type} {enc : TypeId × Value → H} {w : World} {base fuel : Nat} {spare : Nat → Bool} {held : Bool} {v : Value} {x : DataW H × List MemPlace} (h : DataW.trod enc Try.prog w base spare held fuel 36 [v] = some x) :
    ∃ acts, RA w v acts := by
  rcases open_slice4 Try.underlying36 Try.underlying40 (by kernel_rfl) rfl rfl rfl rfl (by kernel_rfl) (by kernel_rfl) (by kernel_rfl) (by kernel_rfl) h with hcs | ⟨a, len, cap, hcs, hl, hm, hx⟩
  · simp at hcs
    subst hcs
    exact ⟨[], none, 0, rfl, fun i hi => by cases hi⟩
  · simp at hcs
    subst hcs
    have each : ∀ i, i < len → ∃ d : ActD, ∃ b off tv, (some a : Option Addr) = some ⟨b, off, none⟩ ∧ w.cell? ⟨b, off + i * 4, none⟩ = some (.int .i64 d.what) ∧ w.cell? ⟨b, off + i * 4 + 1, none⟩ = some (.int .u32 (d.slot : Int)) ∧
        w.cell? ⟨b, off + i * 4 + 2, none⟩ = some (.int .i64 d.num) ∧ w.cell? ⟨b, off + i * 4 + 3, none⟩ = some tv ∧ RU w tv d.to ∧ d.slot < 4294967296 ∧ (Lit.int .i64 d.num).wf = true ∧ ∀ x ∈ d.to, x < 4294967296 := by
      intro i hi
      obtain ⟨v0, v1, v2, v3, n, y0, y1, y2, y3, e0, e1, e2, e3, g0, g1, g2, g3⟩ := hx i hi
      obtain ⟨n0, h0, -, w0⟩ := DataW.trod_int Try.underlying3 g0
      obtain ⟨n1, h1, -, w1⟩ := DataW.trod_int Try.underlying34 g1
      obtain ⟨n2, h2, -, w2⟩ := DataW.trod_int Try.underlying3 g2
      obtain ⟨to, hto, htl⟩ := ru_of_trod g3
      simp at h0 h1 h2
      subst h0; subst h1; subst h2
      have hsp : a.spot = none := by
        obtain ⟨v0, v1, v2, v3, n, y0, y1, y2, y3, e0, -⟩ := hx 0 (by omega)
        have := cell_spot e0
        simpa [Addr.add] using this
      obtain ⟨b, off, spot⟩ := a
      simp only [] at hsp
      subst hsp
      rw [Addr.add_lit] at e0 e1 e2 e3
      have u1 := u32_ge w1
      have u2 := u32_lt w1
      exact ⟨⟨n0, n1.toNat, n2, to⟩, b, off, v3, rfl, e0, by rw [show ((n1.toNat : Nat) : Int) = n1 by omega]; exact e1, e2, e3, hto, by show n1.toNat < _; omega, w2, htl⟩
    obtain ⟨D, hD⟩ := choose_lt each
    refine ⟨(List.range len).map D, some a, cap, by simp, fun i hi => ?_⟩
    have hi' : i < len := by simpa using hi
    have := hD i hi'
    simpa using this
end Go.Proofs.Ytogidmjilbpacaa
