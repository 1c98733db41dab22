/-
  No cell of these rows narrows 'for every input' (looked for: loops, veiled, ifaces, maps, wideKeys, modest, calm, conditions, laid).
  DERIVED. THE GIVEN ROWS OF THIS SEAT. 5 by the template 'for every input the law returns true; each argument reads behind the call as it read before'; 0 by the template 'total and deterministic' (their statements: YtogidmjilbpacaaTotals.lean).
  GIVEN WITH THE SEED: the statements are not yours to turn. If you find one false, say at which input.
  Laid BY PROGRAM, IN A SANDBOX (cutbox-rows.mjs): the forced cells as the released guide's own fill.sh prints them over the translation 4e2093d3066fb0d6… (all of the seat's roots in one cut). By AI agents, Wed Nov 11 2026. No macro, syntax, notation, axiom, sorry.
-/
import Derived.Test.YtogidmjilbpacaaChecked
import GoSem.Claim
import GoSem.ClaimJoined
import GoSem.ClaimMapViews
import Derived.JoinedTies
import Derived.KernelRfl
namespace Go.Proofs.Ytogidmjilbpacaa
/- THE CELL 'sum', in the pinned program and in every row, IS THE sha256 OF THE DUMP (.gsa) THAT YtogidmjilbpacaaProg.lean LOADS. Nothing in Lean hashes anything: it is a label: what it is worth is what the hold of that sum in a sandbox is worth. -/
noncomputable def Try.pinned : Pinned := { name := "ytogidmjilbpacaa", sum := "4e2093d3066fb0d638bd1aa3a7ba4e5c02c271e8d73dacc3c92c6c28e2f05ee1", checked := Try.checked }
namespace Rows
def none {H : Type} : Left H := { results := [], args := [] }

/-- 'cubbyholelaw16.SegmentNew': WHATEVER THE INPUT: true; the input reads as it did. -/
def segmentNewSpec : ChangeSpec := { name := "segmentNew", fn := fun _ => fun
  | [d] => { results := [.lit (.bool true)], args := [d] }
  | _ => none }
def segmentNewRow : OpenClaim := { program := "ytogidmjilbpacaa", sum := "4e2093d3066fb0d638bd1aa3a7ba4e5c02c271e8d73dacc3c92c6c28e2f05ee1", func := "cubbyhole/cubbyholelaw16.SegmentNew", spec := "segmentNew", unfollowed := true, recurses := true, apart := false }
def SegmentNewSaid : Prop := segmentNewRow.holds Try.pinned (OpenSpec.ofChange segmentNewSpec)

/-- ITS FALSE NEIGHBOUR: 'it returns false'. Refute it at one input. -/
def segmentNewWrong : ChangeSpec := { name := "segmentNew", fn := fun _ => fun
  | [d] => { results := [.lit (.bool false)], args := [d] }
  | _ => none }
def SegmentNewWrongFalsely : Prop := segmentNewRow.holds Try.pinned (OpenSpec.ofChange segmentNewWrong)

/-- 'cubbyholelaw16.SegmentHolds': WHATEVER THE INPUT: true; the input reads as it did. -/
def segmentHoldsSpec : ChangeSpec := { name := "segmentHolds", fn := fun _ => fun
  | [d1, d2] => { results := [.lit (.bool true)], args := [d1, d2] }
  | _ => none }
def segmentHoldsRow : OpenClaim := { program := "ytogidmjilbpacaa", sum := "4e2093d3066fb0d638bd1aa3a7ba4e5c02c271e8d73dacc3c92c6c28e2f05ee1", func := "cubbyhole/cubbyholelaw16.SegmentHolds", spec := "segmentHolds", unfollowed := true, recurses := true, apart := false }
def SegmentHoldsSaid : Prop := segmentHoldsRow.holds Try.pinned (OpenSpec.ofChange segmentHoldsSpec)

/-- ITS FALSE NEIGHBOUR: 'it returns false'. Refute it at one input. -/
def segmentHoldsWrong : ChangeSpec := { name := "segmentHolds", fn := fun _ => fun
  | [d1, d2] => { results := [.lit (.bool false)], args := [d1, d2] }
  | _ => none }
def SegmentHoldsWrongFalsely : Prop := segmentHoldsRow.holds Try.pinned (OpenSpec.ofChange segmentHoldsWrong)

/-- 'cubbyholelaw16.SegmentPlain': WHATEVER THE INPUT: true; the input reads as it did. -/
def segmentPlainSpec : ChangeSpec := { name := "segmentPlain", fn := fun _ => fun
  | [d1, d2, d3] => { results := [.lit (.bool true)], args := [d1, d2, d3] }
  | _ => none }
def segmentPlainRow : OpenClaim := { program := "ytogidmjilbpacaa", sum := "4e2093d3066fb0d638bd1aa3a7ba4e5c02c271e8d73dacc3c92c6c28e2f05ee1", func := "cubbyhole/cubbyholelaw16.SegmentPlain", spec := "segmentPlain", unfollowed := true, recurses := true, apart := false }
def SegmentPlainSaid : Prop := segmentPlainRow.holds Try.pinned (OpenSpec.ofChange segmentPlainSpec)

/-- ITS FALSE NEIGHBOUR: 'it returns false'. Refute it at one input. -/
def segmentPlainWrong : ChangeSpec := { name := "segmentPlain", fn := fun _ => fun
  | [d1, d2, d3] => { results := [.lit (.bool false)], args := [d1, d2, d3] }
  | _ => none }
def SegmentPlainWrongFalsely : Prop := segmentPlainRow.holds Try.pinned (OpenSpec.ofChange segmentPlainWrong)

/-- 'cubbyholelaw16.SegmentPlays': WHATEVER THE INPUT: true; the input reads as it did. -/
def segmentPlaysSpec : ChangeSpec := { name := "segmentPlays", fn := fun _ => fun
  | [d1, d2] => { results := [.lit (.bool true)], args := [d1, d2] }
  | _ => none }
def segmentPlaysRow : OpenClaim := { program := "ytogidmjilbpacaa", sum := "4e2093d3066fb0d638bd1aa3a7ba4e5c02c271e8d73dacc3c92c6c28e2f05ee1", func := "cubbyhole/cubbyholelaw16.SegmentPlays", spec := "segmentPlays", unfollowed := true, recurses := true, apart := false }
def SegmentPlaysSaid : Prop := segmentPlaysRow.holds Try.pinned (OpenSpec.ofChange segmentPlaysSpec)

/-- ITS FALSE NEIGHBOUR: 'it returns false'. Refute it at one input. -/
def segmentPlaysWrong : ChangeSpec := { name := "segmentPlays", fn := fun _ => fun
  | [d1, d2] => { results := [.lit (.bool false)], args := [d1, d2] }
  | _ => none }
def SegmentPlaysWrongFalsely : Prop := segmentPlaysRow.holds Try.pinned (OpenSpec.ofChange segmentPlaysWrong)

/-- 'cubbyholelaw16.SegmentNil': WHATEVER THE INPUT: true; the input reads as it did. -/
def segmentNilSpec : ChangeSpec := { name := "segmentNil", fn := fun _ => fun
  | [d1, d2] => { results := [.lit (.bool true)], args := [d1, d2] }
  | _ => none }
def segmentNilRow : OpenClaim := { program := "ytogidmjilbpacaa", sum := "4e2093d3066fb0d638bd1aa3a7ba4e5c02c271e8d73dacc3c92c6c28e2f05ee1", func := "cubbyhole/cubbyholelaw16.SegmentNil", spec := "segmentNil", unfollowed := true, recurses := true, apart := false }
def SegmentNilSaid : Prop := segmentNilRow.holds Try.pinned (OpenSpec.ofChange segmentNilSpec)

/-- ITS FALSE NEIGHBOUR: 'it returns false'. Refute it at one input. -/
def segmentNilWrong : ChangeSpec := { name := "segmentNil", fn := fun _ => fun
  | [d1, d2] => { results := [.lit (.bool false)], args := [d1, d2] }
  | _ => none }
def SegmentNilWrongFalsely : Prop := segmentNilRow.holds Try.pinned (OpenSpec.ofChange segmentNilWrong)

/- THE SECOND FORM. 'bulk': how many values and letters a reading holds, each counted each time it is reached (what is shared counts as often as it is met; a slice's spare places count too). A statement '..UptoSaid' is the law's where the arguments, and the package variables that the reading takes, are together of bulk at most 1048576: NARROWER than '..Said'. Prove '..Said' where nothing that the law and all that it calls make is longer than what came in: it says more and counts as full. Else prove '..UptoSaid'. A law counts once. -/
mutual
def uptoBulk {H : Type} : DataW H → Nat
  | .lit (.string bytes) => bytes.length + 1
  | .lit _ => 1
  | .nil => 1
  | .ptr d => uptoBulk d + 1
  | .slice elems spare => uptoBulkAll elems + uptoBulkAll spare + 1
  | .agg parts => uptoBulkAll parts + 1
  | .iface _ d => uptoBulk d + 1
  | .map entries => uptoBulkEntries entries + 1
  | .held _ => 1
def uptoBulkAll {H : Type} : List (DataW H) → Nat
  | [] => 0
  | d :: r => uptoBulk d + uptoBulkAll r
def uptoBulkEntries {H : Type} : List (Lit × DataW H) → Nat
  | [] => 0
  | x :: r => uptoBulkEntry x + uptoBulkEntries r
def uptoBulkEntry {H : Type} : Lit × DataW H → Nat
  | (.string bytes, d) => bytes.length + uptoBulk d + 1
  | (_, d) => uptoBulk d + 1
 end
def uptoSmall : (H : Type) → List (DataW H) → Bool := fun _ ds => decide (uptoBulkAll ds ≤ 1048576)
def OpenSpec.upto (s : _root_.Go.ChangeSpec) : _root_.Go.OpenSpec := { _root_.Go.OpenSpec.ofChange s with cond := some uptoSmall }

/-- 'cubbyholelaw16.SegmentNew', WHERE WHAT IT READS IS OF BULK AT MOST 1048576: true; the input reads as it did. -/
def segmentNewUptoRow : OpenClaim := { program := "ytogidmjilbpacaa", sum := "4e2093d3066fb0d638bd1aa3a7ba4e5c02c271e8d73dacc3c92c6c28e2f05ee1", func := "cubbyhole/cubbyholelaw16.SegmentNew", spec := "segmentNew", unfollowed := true, recurses := true, apart := false, narrowed := true }
def SegmentNewUptoSaid : Prop := segmentNewUptoRow.holds Try.pinned (OpenSpec.upto segmentNewSpec)

/-- 'cubbyholelaw16.SegmentHolds', WHERE WHAT IT READS IS OF BULK AT MOST 1048576: true; the input reads as it did. -/
def segmentHoldsUptoRow : OpenClaim := { program := "ytogidmjilbpacaa", sum := "4e2093d3066fb0d638bd1aa3a7ba4e5c02c271e8d73dacc3c92c6c28e2f05ee1", func := "cubbyhole/cubbyholelaw16.SegmentHolds", spec := "segmentHolds", unfollowed := true, recurses := true, apart := false, narrowed := true }
def SegmentHoldsUptoSaid : Prop := segmentHoldsUptoRow.holds Try.pinned (OpenSpec.upto segmentHoldsSpec)

/-- 'cubbyholelaw16.SegmentPlain', WHERE WHAT IT READS IS OF BULK AT MOST 1048576: true; the input reads as it did. -/
def segmentPlainUptoRow : OpenClaim := { program := "ytogidmjilbpacaa", sum := "4e2093d3066fb0d638bd1aa3a7ba4e5c02c271e8d73dacc3c92c6c28e2f05ee1", func := "cubbyhole/cubbyholelaw16.SegmentPlain", spec := "segmentPlain", unfollowed := true, recurses := true, apart := false, narrowed := true }
def SegmentPlainUptoSaid : Prop := segmentPlainUptoRow.holds Try.pinned (OpenSpec.upto segmentPlainSpec)

/-- 'cubbyholelaw16.SegmentPlays', WHERE WHAT IT READS IS OF BULK AT MOST 1048576: true; the input reads as it did. -/
def segmentPlaysUptoRow : OpenClaim := { program := "ytogidmjilbpacaa", sum := "4e2093d3066fb0d638bd1aa3a7ba4e5c02c271e8d73dacc3c92c6c28e2f05ee1", func := "cubbyhole/cubbyholelaw16.SegmentPlays", spec := "segmentPlays", unfollowed := true, recurses := true, apart := false, narrowed := true }
def SegmentPlaysUptoSaid : Prop := segmentPlaysUptoRow.holds Try.pinned (OpenSpec.upto segmentPlaysSpec)

/-- 'cubbyholelaw16.SegmentNil', WHERE WHAT IT READS IS OF BULK AT MOST 1048576: true; the input reads as it did. -/
def segmentNilUptoRow : OpenClaim := { program := "ytogidmjilbpacaa", sum := "4e2093d3066fb0d638bd1aa3a7ba4e5c02c271e8d73dacc3c92c6c28e2f05ee1", func := "cubbyhole/cubbyholelaw16.SegmentNil", spec := "segmentNil", unfollowed := true, recurses := true, apart := false, narrowed := true }
def SegmentNilUptoSaid : Prop := segmentNilUptoRow.holds Try.pinned (OpenSpec.upto segmentNilSpec)

end Rows
end Go.Proofs.Ytogidmjilbpacaa
