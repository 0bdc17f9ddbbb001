/-
  No cell of these rows narrows 'for every input' (looked for: loops, veiled, ifaces, maps, wideKeys, modest, calm, conditions, laid).
  DERIVED. THE GIVEN ROWS OF THIS SEAT. 4 by the template 'for every input the law returns true; each argument reads behind the call as it read before'; 0 by the template 'total and deterministic' (their statements: YtgnemlfheiaolaaTotals.lean).
  GIVEN WITH THE SEED: the statements are not yours to turn. If you find one false, say at which input.
  Laid BY PROGRAM, IN A SANDBOX (cutbox-rows.mjs): the forced cells as the released guide's own fill.sh prints them over the translation c36972256811a2fd… (all of the seat's roots in one cut). By AI agents, Wed Nov 11 2026. No macro, syntax, notation, axiom, sorry.
-/
import Derived.Test.YtgnemlfheiaolaaChecked
import GoSem.Claim
import GoSem.ClaimJoined
import GoSem.ClaimMapViews
import Derived.JoinedTies
import Derived.KernelRfl
namespace Go.Proofs.Ytgnemlfheiaolaa
/- THE CELL 'sum', in the pinned program and in every row, IS THE sha256 OF THE DUMP (.gsa) THAT YtgnemlfheiaolaaProg.lean LOADS. Nothing in Lean hashes anything: it is a label: what it is worth is what the hold of that sum in a sandbox is worth. -/
noncomputable def Try.pinned : Pinned := { name := "ytgnemlfheiaolaa", sum := "c36972256811a2fdca0291235646531d3919ab1255dfa280ca4e97373a82d810", checked := Try.checked }
namespace Rows
def none {H : Type} : Left H := { results := [], args := [] }

/-- 'weighbridgelaw05.IndexAlike': WHATEVER THE INPUT: true; the input reads as it did. -/
def indexAlikeSpec : ChangeSpec := { name := "indexAlike", fn := fun _ => fun
  | [d1, d2] => { results := [.lit (.bool true)], args := [d1, d2] }
  | _ => none }
def indexAlikeRow : OpenClaim := { program := "ytgnemlfheiaolaa", sum := "c36972256811a2fdca0291235646531d3919ab1255dfa280ca4e97373a82d810", func := "weighbridge/weighbridgelaw05.IndexAlike", spec := "indexAlike", named := ["math/bits.divideError", "math/bits.overflowError"], apart := false }
def IndexAlikeSaid : Prop := indexAlikeRow.holds Try.pinned (OpenSpec.ofChange indexAlikeSpec)

/-- ITS FALSE NEIGHBOUR: 'it returns false'. Refute it at one input. -/
def indexAlikeWrong : ChangeSpec := { name := "indexAlike", fn := fun _ => fun
  | [d1, d2] => { results := [.lit (.bool false)], args := [d1, d2] }
  | _ => none }
def IndexAlikeWrongFalsely : Prop := indexAlikeRow.holds Try.pinned (OpenSpec.ofChange indexAlikeWrong)

/-- 'weighbridgelaw05.IndexBack': WHATEVER THE INPUT: true; the input reads as it did. -/
def indexBackSpec : ChangeSpec := { name := "indexBack", fn := fun _ => fun
  | [d1, d2, d3] => { results := [.lit (.bool true)], args := [d1, d2, d3] }
  | _ => none }
def indexBackRow : OpenClaim := { program := "ytgnemlfheiaolaa", sum := "c36972256811a2fdca0291235646531d3919ab1255dfa280ca4e97373a82d810", func := "weighbridge/weighbridgelaw05.IndexBack", spec := "indexBack", named := ["math/bits.divideError", "math/bits.overflowError"], apart := false }
def IndexBackSaid : Prop := indexBackRow.holds Try.pinned (OpenSpec.ofChange indexBackSpec)

/-- ITS FALSE NEIGHBOUR: 'it returns false'. Refute it at one input. -/
def indexBackWrong : ChangeSpec := { name := "indexBack", fn := fun _ => fun
  | [d1, d2, d3] => { results := [.lit (.bool false)], args := [d1, d2, d3] }
  | _ => none }
def IndexBackWrongFalsely : Prop := indexBackRow.holds Try.pinned (OpenSpec.ofChange indexBackWrong)

/-- 'weighbridgelaw05.IndexFull': WHATEVER THE INPUT: true; the input reads as it did. -/
def indexFullSpec : ChangeSpec := { name := "indexFull", fn := fun _ => fun
  | [d1, d2, d3] => { results := [.lit (.bool true)], args := [d1, d2, d3] }
  | _ => none }
def indexFullRow : OpenClaim := { program := "ytgnemlfheiaolaa", sum := "c36972256811a2fdca0291235646531d3919ab1255dfa280ca4e97373a82d810", func := "weighbridge/weighbridgelaw05.IndexFull", spec := "indexFull", unfollowed := true, recurses := true, named := ["math/bits.divideError", "math/bits.overflowError"], apart := false }
def IndexFullSaid : Prop := indexFullRow.holds Try.pinned (OpenSpec.ofChange indexFullSpec)

/-- ITS FALSE NEIGHBOUR: 'it returns false'. Refute it at one input. -/
def indexFullWrong : ChangeSpec := { name := "indexFull", fn := fun _ => fun
  | [d1, d2, d3] => { results := [.lit (.bool false)], args := [d1, d2, d3] }
  | _ => none }
def IndexFullWrongFalsely : Prop := indexFullRow.holds Try.pinned (OpenSpec.ofChange indexFullWrong)

/-- 'weighbridgelaw05.IndexRuns': WHATEVER THE INPUT: true; the input reads as it did. -/
def indexRunsSpec : ChangeSpec := { name := "indexRuns", fn := fun _ => fun
  | [d1, d2, d3] => { results := [.lit (.bool true)], args := [d1, d2, d3] }
  | _ => none }
def indexRunsRow : OpenClaim := { program := "ytgnemlfheiaolaa", sum := "c36972256811a2fdca0291235646531d3919ab1255dfa280ca4e97373a82d810", func := "weighbridge/weighbridgelaw05.IndexRuns", spec := "indexRuns", named := ["math/bits.divideError", "math/bits.overflowError"], apart := false }
def IndexRunsSaid : Prop := indexRunsRow.holds Try.pinned (OpenSpec.ofChange indexRunsSpec)

/-- ITS FALSE NEIGHBOUR: 'it returns false'. Refute it at one input. -/
def indexRunsWrong : ChangeSpec := { name := "indexRuns", fn := fun _ => fun
  | [d1, d2, d3] => { results := [.lit (.bool false)], args := [d1, d2, d3] }
  | _ => none }
def IndexRunsWrongFalsely : Prop := indexRunsRow.holds Try.pinned (OpenSpec.ofChange indexRunsWrong)

/- THE SECOND FORM. 'bulk': how many values and letters a reading holds, each counted each time it is reached (what is shared counts as often as it is met; a slice's spare places count too). A statement '..UptoSaid' is the law's where the arguments, and the package variables that the reading takes, are together of bulk at most 1048576: NARROWER than '..Said'. Prove '..Said' where nothing that the law and all that it calls make is longer than what came in: it says more and counts as full. Else prove '..UptoSaid'. A law counts once. -/
mutual
def uptoBulk {H : Type} : DataW H → Nat
  | .lit (.string bytes) => bytes.length + 1
  | .lit _ => 1
  | .nil => 1
  | .ptr d => uptoBulk d + 1
  | .slice elems spare => uptoBulkAll elems + uptoBulkAll spare + 1
  | .agg parts => uptoBulkAll parts + 1
  | .iface _ d => uptoBulk d + 1
  | .map entries => uptoBulkEntries entries + 1
  | .held _ => 1
def uptoBulkAll {H : Type} : List (DataW H) → Nat
  | [] => 0
  | d :: r => uptoBulk d + uptoBulkAll r
def uptoBulkEntries {H : Type} : List (Lit × DataW H) → Nat
  | [] => 0
  | x :: r => uptoBulkEntry x + uptoBulkEntries r
def uptoBulkEntry {H : Type} : Lit × DataW H → Nat
  | (.string bytes, d) => bytes.length + uptoBulk d + 1
  | (_, d) => uptoBulk d + 1
 end
def uptoSmall : (H : Type) → List (DataW H) → Bool := fun _ ds => decide (uptoBulkAll ds ≤ 1048576)
def OpenSpec.upto (s : _root_.Go.ChangeSpec) : _root_.Go.OpenSpec := { _root_.Go.OpenSpec.ofChange s with cond := some uptoSmall }

/-- 'weighbridgelaw05.IndexAlike', WHERE WHAT IT READS IS OF BULK AT MOST 1048576: true; the input reads as it did. -/
def indexAlikeUptoRow : OpenClaim := { program := "ytgnemlfheiaolaa", sum := "c36972256811a2fdca0291235646531d3919ab1255dfa280ca4e97373a82d810", func := "weighbridge/weighbridgelaw05.IndexAlike", spec := "indexAlike", named := ["math/bits.divideError", "math/bits.overflowError"], apart := false, narrowed := true }
def IndexAlikeUptoSaid : Prop := indexAlikeUptoRow.holds Try.pinned (OpenSpec.upto indexAlikeSpec)

/-- 'weighbridgelaw05.IndexBack', WHERE WHAT IT READS IS OF BULK AT MOST 1048576: true; the input reads as it did. -/
def indexBackUptoRow : OpenClaim := { program := "ytgnemlfheiaolaa", sum := "c36972256811a2fdca0291235646531d3919ab1255dfa280ca4e97373a82d810", func := "weighbridge/weighbridgelaw05.IndexBack", spec := "indexBack", named := ["math/bits.divideError", "math/bits.overflowError"], apart := false, narrowed := true }
def IndexBackUptoSaid : Prop := indexBackUptoRow.holds Try.pinned (OpenSpec.upto indexBackSpec)

/-- 'weighbridgelaw05.IndexFull', WHERE WHAT IT READS IS OF BULK AT MOST 1048576: true; the input reads as it did. -/
def indexFullUptoRow : OpenClaim := { program := "ytgnemlfheiaolaa", sum := "c36972256811a2fdca0291235646531d3919ab1255dfa280ca4e97373a82d810", func := "weighbridge/weighbridgelaw05.IndexFull", spec := "indexFull", unfollowed := true, recurses := true, named := ["math/bits.divideError", "math/bits.overflowError"], apart := false, narrowed := true }
def IndexFullUptoSaid : Prop := indexFullUptoRow.holds Try.pinned (OpenSpec.upto indexFullSpec)

/-- 'weighbridgelaw05.IndexRuns', WHERE WHAT IT READS IS OF BULK AT MOST 1048576: true; the input reads as it did. -/
def indexRunsUptoRow : OpenClaim := { program := "ytgnemlfheiaolaa", sum := "c36972256811a2fdca0291235646531d3919ab1255dfa280ca4e97373a82d810", func := "weighbridge/weighbridgelaw05.IndexRuns", spec := "indexRuns", named := ["math/bits.divideError", "math/bits.overflowError"], apart := false, narrowed := true }
def IndexRunsUptoSaid : Prop := indexRunsUptoRow.holds Try.pinned (OpenSpec.upto indexRunsSpec)

end Rows
end Go.Proofs.Ytgnemlfheiaolaa
