/-
  No cell of these rows narrows 'for every input' (looked for: loops, veiled, ifaces, maps, wideKeys, modest, calm, conditions, laid).
  DERIVED. THE GIVEN ROWS OF THIS SEAT. 3 by the template 'for every input the law returns true; each argument reads behind the call as it read before'; 0 by the template 'total and deterministic' (their statements: YtbhnobjjpmmmnaaTotals.lean).
  GIVEN WITH THE SEED: the statements are not yours to turn. If you find one false, say at which input.
  Laid BY PROGRAM, IN A SANDBOX (cutbox-rows.mjs): the forced cells as the released guide's own fill.sh prints them over the translation 81bde21e1e64e3d5… (all of the seat's roots in one cut). By AI agents, Wed Nov 11 2026. No macro, syntax, notation, axiom, sorry.
-/
import Derived.Test.YtbhnobjjpmmmnaaChecked
import GoSem.Claim
import GoSem.ClaimJoined
import GoSem.ClaimMapViews
import Derived.JoinedTies
import Derived.KernelRfl
namespace Go.Proofs.Ytbhnobjjpmmmnaa
/- THE CELL 'sum', in the pinned program and in every row, IS THE sha256 OF THE DUMP (.gsa) THAT YtbhnobjjpmmmnaaProg.lean LOADS. Nothing in Lean hashes anything: it is a label: what it is worth is what the hold of that sum in a sandbox is worth. -/
noncomputable def Try.pinned : Pinned := { name := "ytbhnobjjpmmmnaa", sum := "81bde21e1e64e3d58773577eedbe03144c8296c28e0c564e9721710286cdc068", checked := Try.checked }
namespace Rows
def none {H : Type} : Left H := { results := [], args := [] }

/-- 'cubbyholelaw37.ReuseLongs': WHATEVER THE INPUT: true; the input reads as it did. -/
def reuseLongsSpec : ChangeSpec := { name := "reuseLongs", fn := fun _ => fun
  | [d1, d2] => { results := [.lit (.bool true)], args := [d1, d2] }
  | _ => none }
def reuseLongsRow : OpenClaim := { program := "ytbhnobjjpmmmnaa", sum := "81bde21e1e64e3d58773577eedbe03144c8296c28e0c564e9721710286cdc068", func := "cubbyhole/cubbyholelaw37.ReuseLongs", spec := "reuseLongs", unfollowed := true, recurses := true, apart := false }
def ReuseLongsSaid : Prop := reuseLongsRow.holds Try.pinned (OpenSpec.ofChange reuseLongsSpec)

/-- ITS FALSE NEIGHBOUR: 'it returns false'. Refute it at one input. -/
def reuseLongsWrong : ChangeSpec := { name := "reuseLongs", fn := fun _ => fun
  | [d1, d2] => { results := [.lit (.bool false)], args := [d1, d2] }
  | _ => none }
def ReuseLongsWrongFalsely : Prop := reuseLongsRow.holds Try.pinned (OpenSpec.ofChange reuseLongsWrong)

/-- 'cubbyholelaw37.ReuseHolds': WHATEVER THE INPUT: true; the input reads as it did. -/
def reuseHoldsSpec : ChangeSpec := { name := "reuseHolds", fn := fun _ => fun
  | [d1, d2] => { results := [.lit (.bool true)], args := [d1, d2] }
  | _ => none }
def reuseHoldsRow : OpenClaim := { program := "ytbhnobjjpmmmnaa", sum := "81bde21e1e64e3d58773577eedbe03144c8296c28e0c564e9721710286cdc068", func := "cubbyhole/cubbyholelaw37.ReuseHolds", spec := "reuseHolds", unfollowed := true, recurses := true, apart := false }
def ReuseHoldsSaid : Prop := reuseHoldsRow.holds Try.pinned (OpenSpec.ofChange reuseHoldsSpec)

/-- ITS FALSE NEIGHBOUR: 'it returns false'. Refute it at one input. -/
def reuseHoldsWrong : ChangeSpec := { name := "reuseHolds", fn := fun _ => fun
  | [d1, d2] => { results := [.lit (.bool false)], args := [d1, d2] }
  | _ => none }
def ReuseHoldsWrongFalsely : Prop := reuseHoldsRow.holds Try.pinned (OpenSpec.ofChange reuseHoldsWrong)

/-- 'cubbyholelaw37.ReuseLists': WHATEVER THE INPUT: true; the input reads as it did. -/
def reuseListsSpec : ChangeSpec := { name := "reuseLists", fn := fun _ => fun
  | [d1, d2] => { results := [.lit (.bool true)], args := [d1, d2] }
  | _ => none }
def reuseListsRow : OpenClaim := { program := "ytbhnobjjpmmmnaa", sum := "81bde21e1e64e3d58773577eedbe03144c8296c28e0c564e9721710286cdc068", func := "cubbyhole/cubbyholelaw37.ReuseLists", spec := "reuseLists", unfollowed := true, recurses := true, apart := false }
def ReuseListsSaid : Prop := reuseListsRow.holds Try.pinned (OpenSpec.ofChange reuseListsSpec)

/-- ITS FALSE NEIGHBOUR: 'it returns false'. Refute it at one input. -/
def reuseListsWrong : ChangeSpec := { name := "reuseLists", fn := fun _ => fun
  | [d1, d2] => { results := [.lit (.bool false)], args := [d1, d2] }
  | _ => none }
def ReuseListsWrongFalsely : Prop := reuseListsRow.holds Try.pinned (OpenSpec.ofChange reuseListsWrong)

/- THE SECOND FORM. 'bulk': how many values and letters a reading holds, each counted each time it is reached (what is shared counts as often as it is met; a slice's spare places count too). A statement '..UptoSaid' is the law's where the arguments, and the package variables that the reading takes, are together of bulk at most 1048576: NARROWER than '..Said'. Prove '..Said' where nothing that the law and all that it calls make is longer than what came in: it says more and counts as full. Else prove '..UptoSaid'. A law counts once. -/
mutual
def uptoBulk {H : Type} : DataW H → Nat
  | .lit (.string bytes) => bytes.length + 1
  | .lit _ => 1
  | .nil => 1
  | .ptr d => uptoBulk d + 1
  | .slice elems spare => uptoBulkAll elems + uptoBulkAll spare + 1
  | .agg parts => uptoBulkAll parts + 1
  | .iface _ d => uptoBulk d + 1
  | .map entries => uptoBulkEntries entries + 1
  | .held _ => 1
def uptoBulkAll {H : Type} : List (DataW H) → Nat
  | [] => 0
  | d :: r => uptoBulk d + uptoBulkAll r
def uptoBulkEntries {H : Type} : List (Lit × DataW H) → Nat
  | [] => 0
  | x :: r => uptoBulkEntry x + uptoBulkEntries r
def uptoBulkEntry {H : Type} : Lit × DataW H → Nat
  | (.string bytes, d) => bytes.length + uptoBulk d + 1
  | (_, d) => uptoBulk d + 1
 end
def uptoSmall : (H : Type) → List (DataW H) → Bool := fun _ ds => decide (uptoBulkAll ds ≤ 1048576)
def OpenSpec.upto (s : _root_.Go.ChangeSpec) : _root_.Go.OpenSpec := { _root_.Go.OpenSpec.ofChange s with cond := some uptoSmall }

/-- 'cubbyholelaw37.ReuseLongs', WHERE WHAT IT READS IS OF BULK AT MOST 1048576: true; the input reads as it did. -/
def reuseLongsUptoRow : OpenClaim := { program := "ytbhnobjjpmmmnaa", sum := "81bde21e1e64e3d58773577eedbe03144c8296c28e0c564e9721710286cdc068", func := "cubbyhole/cubbyholelaw37.ReuseLongs", spec := "reuseLongs", unfollowed := true, recurses := true, apart := false, narrowed := true }
def ReuseLongsUptoSaid : Prop := reuseLongsUptoRow.holds Try.pinned (OpenSpec.upto reuseLongsSpec)

/-- 'cubbyholelaw37.ReuseHolds', WHERE WHAT IT READS IS OF BULK AT MOST 1048576: true; the input reads as it did. -/
def reuseHoldsUptoRow : OpenClaim := { program := "ytbhnobjjpmmmnaa", sum := "81bde21e1e64e3d58773577eedbe03144c8296c28e0c564e9721710286cdc068", func := "cubbyhole/cubbyholelaw37.ReuseHolds", spec := "reuseHolds", unfollowed := true, recurses := true, apart := false, narrowed := true }
def ReuseHoldsUptoSaid : Prop := reuseHoldsUptoRow.holds Try.pinned (OpenSpec.upto reuseHoldsSpec)

/-- 'cubbyholelaw37.ReuseLists', WHERE WHAT IT READS IS OF BULK AT MOST 1048576: true; the input reads as it did. -/
def reuseListsUptoRow : OpenClaim := { program := "ytbhnobjjpmmmnaa", sum := "81bde21e1e64e3d58773577eedbe03144c8296c28e0c564e9721710286cdc068", func := "cubbyhole/cubbyholelaw37.ReuseLists", spec := "reuseLists", unfollowed := true, recurses := true, apart := false, narrowed := true }
def ReuseListsUptoSaid : Prop := reuseListsUptoRow.holds Try.pinned (OpenSpec.upto reuseListsSpec)

end Rows
end Go.Proofs.Ytbhnobjjpmmmnaa
