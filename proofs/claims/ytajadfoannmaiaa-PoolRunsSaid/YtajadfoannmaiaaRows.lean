/-
  No cell of these rows narrows 'for every input' (looked for: loops, veiled, ifaces, maps, wideKeys, modest, calm, conditions, laid).
  DERIVED. THE GIVEN ROWS OF THIS SEAT. 4 by the template 'for every input the law returns true; each argument reads behind the call as it read before'; 0 by the template 'total and deterministic' (their statements: YtajadfoannmaiaaTotals.lean).
  GIVEN WITH THE SEED: the statements are not yours to turn. If you find one false, say at which input.
  Laid BY PROGRAM, IN A SANDBOX (cutbox-rows.mjs): the forced cells as the released guide's own fill.sh prints them over the translation f7c38c83836c64ab… (all of the seat's roots in one cut). By AI agents, Wed Nov 11 2026. No macro, syntax, notation, axiom, sorry.
-/
import Derived.Test.YtajadfoannmaiaaChecked
import GoSem.Claim
import GoSem.ClaimJoined
import GoSem.ClaimMapViews
import Derived.JoinedTies
import Derived.KernelRfl
namespace Go.Proofs.Ytajadfoannmaiaa
/- THE CELL 'sum', in the pinned program and in every row, IS THE sha256 OF THE DUMP (.gsa) THAT YtajadfoannmaiaaProg.lean LOADS. Nothing in Lean hashes anything: it is a label: what it is worth is what the hold of that sum in a sandbox is worth. -/
noncomputable def Try.pinned : Pinned := { name := "ytajadfoannmaiaa", sum := "f7c38c83836c64ab237819ae50fa0828d5ff2770646ae1cd6305c6abe1894232", checked := Try.checked }
namespace Rows
def none {H : Type} : Left H := { results := [], args := [] }

/-- 'weighbridgelaw10.PoolStops': WHATEVER THE INPUT: true; the input reads as it did. -/
def poolStopsSpec : ChangeSpec := { name := "poolStops", fn := fun _ => fun
  | [d1, d2] => { results := [.lit (.bool true)], args := [d1, d2] }
  | _ => none }
def poolStopsRow : OpenClaim := { program := "ytajadfoannmaiaa", sum := "f7c38c83836c64ab237819ae50fa0828d5ff2770646ae1cd6305c6abe1894232", func := "weighbridge/weighbridgelaw10.PoolStops", spec := "poolStops", unfollowed := true, recurses := true, named := ["math/bits.divideError", "math/bits.overflowError"], apart := false }
def PoolStopsSaid : Prop := poolStopsRow.holds Try.pinned (OpenSpec.ofChange poolStopsSpec)

/-- ITS FALSE NEIGHBOUR: 'it returns false'. Refute it at one input. -/
def poolStopsWrong : ChangeSpec := { name := "poolStops", fn := fun _ => fun
  | [d1, d2] => { results := [.lit (.bool false)], args := [d1, d2] }
  | _ => none }
def PoolStopsWrongFalsely : Prop := poolStopsRow.holds Try.pinned (OpenSpec.ofChange poolStopsWrong)

/-- 'weighbridgelaw10.PoolAlike': WHATEVER THE INPUT: true; the input reads as it did. -/
def poolAlikeSpec : ChangeSpec := { name := "poolAlike", fn := fun _ => fun
  | [d1, d2] => { results := [.lit (.bool true)], args := [d1, d2] }
  | _ => none }
def poolAlikeRow : OpenClaim := { program := "ytajadfoannmaiaa", sum := "f7c38c83836c64ab237819ae50fa0828d5ff2770646ae1cd6305c6abe1894232", func := "weighbridge/weighbridgelaw10.PoolAlike", spec := "poolAlike", unfollowed := true, recurses := true, named := ["math/bits.divideError", "math/bits.overflowError"], apart := false }
def PoolAlikeSaid : Prop := poolAlikeRow.holds Try.pinned (OpenSpec.ofChange poolAlikeSpec)

/-- ITS FALSE NEIGHBOUR: 'it returns false'. Refute it at one input. -/
def poolAlikeWrong : ChangeSpec := { name := "poolAlike", fn := fun _ => fun
  | [d1, d2] => { results := [.lit (.bool false)], args := [d1, d2] }
  | _ => none }
def PoolAlikeWrongFalsely : Prop := poolAlikeRow.holds Try.pinned (OpenSpec.ofChange poolAlikeWrong)

/-- 'weighbridgelaw10.PoolRuns': WHATEVER THE INPUT: true; the input reads as it did. -/
def poolRunsSpec : ChangeSpec := { name := "poolRuns", fn := fun _ => fun
  | [d1, d2, d3] => { results := [.lit (.bool true)], args := [d1, d2, d3] }
  | _ => none }
def poolRunsRow : OpenClaim := { program := "ytajadfoannmaiaa", sum := "f7c38c83836c64ab237819ae50fa0828d5ff2770646ae1cd6305c6abe1894232", func := "weighbridge/weighbridgelaw10.PoolRuns", spec := "poolRuns", unfollowed := true, recurses := true, named := ["math/bits.divideError", "math/bits.overflowError"], apart := false }
def PoolRunsSaid : Prop := poolRunsRow.holds Try.pinned (OpenSpec.ofChange poolRunsSpec)

/-- ITS FALSE NEIGHBOUR: 'it returns false'. Refute it at one input. -/
def poolRunsWrong : ChangeSpec := { name := "poolRuns", fn := fun _ => fun
  | [d1, d2, d3] => { results := [.lit (.bool false)], args := [d1, d2, d3] }
  | _ => none }
def PoolRunsWrongFalsely : Prop := poolRunsRow.holds Try.pinned (OpenSpec.ofChange poolRunsWrong)

/-- 'weighbridgelaw10.PoolIdle': WHATEVER THE INPUT: true; the input reads as it did. -/
def poolIdleSpec : ChangeSpec := { name := "poolIdle", fn := fun _ => fun
  | [d1, d2] => { results := [.lit (.bool true)], args := [d1, d2] }
  | _ => none }
def poolIdleRow : OpenClaim := { program := "ytajadfoannmaiaa", sum := "f7c38c83836c64ab237819ae50fa0828d5ff2770646ae1cd6305c6abe1894232", func := "weighbridge/weighbridgelaw10.PoolIdle", spec := "poolIdle", unfollowed := true, recurses := true, named := ["math/bits.divideError", "math/bits.overflowError"], apart := false }
def PoolIdleSaid : Prop := poolIdleRow.holds Try.pinned (OpenSpec.ofChange poolIdleSpec)

/-- ITS FALSE NEIGHBOUR: 'it returns false'. Refute it at one input. -/
def poolIdleWrong : ChangeSpec := { name := "poolIdle", fn := fun _ => fun
  | [d1, d2] => { results := [.lit (.bool false)], args := [d1, d2] }
  | _ => none }
def PoolIdleWrongFalsely : Prop := poolIdleRow.holds Try.pinned (OpenSpec.ofChange poolIdleWrong)

/- THE SECOND FORM. 'bulk': how many values and letters a reading holds, each counted each time it is reached (what is shared counts as often as it is met; a slice's spare places count too). A statement '..UptoSaid' is the law's where the arguments, and the package variables that the reading takes, are together of bulk at most 1048576: NARROWER than '..Said'. Prove '..Said' where nothing that the law and all that it calls make is longer than what came in: it says more and counts as full. Else prove '..UptoSaid'. A law counts once. -/
mutual
def uptoBulk {H : Type} : DataW H → Nat
  | .lit (.string bytes) => bytes.length + 1
  | .lit _ => 1
  | .nil => 1
  | .ptr d => uptoBulk d + 1
  | .slice elems spare => uptoBulkAll elems + uptoBulkAll spare + 1
  | .agg parts => uptoBulkAll parts + 1
  | .iface _ d => uptoBulk d + 1
  | .map entries => uptoBulkEntries entries + 1
  | .held _ => 1
def uptoBulkAll {H : Type} : List (DataW H) → Nat
  | [] => 0
  | d :: r => uptoBulk d + uptoBulkAll r
def uptoBulkEntries {H : Type} : List (Lit × DataW H) → Nat
  | [] => 0
  | x :: r => uptoBulkEntry x + uptoBulkEntries r
def uptoBulkEntry {H : Type} : Lit × DataW H → Nat
  | (.string bytes, d) => bytes.length + uptoBulk d + 1
  | (_, d) => uptoBulk d + 1
 end
def uptoSmall : (H : Type) → List (DataW H) → Bool := fun _ ds => decide (uptoBulkAll ds ≤ 1048576)
def OpenSpec.upto (s : _root_.Go.ChangeSpec) : _root_.Go.OpenSpec := { _root_.Go.OpenSpec.ofChange s with cond := some uptoSmall }

/-- 'weighbridgelaw10.PoolStops', WHERE WHAT IT READS IS OF BULK AT MOST 1048576: true; the input reads as it did. -/
def poolStopsUptoRow : OpenClaim := { program := "ytajadfoannmaiaa", sum := "f7c38c83836c64ab237819ae50fa0828d5ff2770646ae1cd6305c6abe1894232", func := "weighbridge/weighbridgelaw10.PoolStops", spec := "poolStops", unfollowed := true, recurses := true, named := ["math/bits.divideError", "math/bits.overflowError"], apart := false, narrowed := true }
def PoolStopsUptoSaid : Prop := poolStopsUptoRow.holds Try.pinned (OpenSpec.upto poolStopsSpec)

/-- 'weighbridgelaw10.PoolAlike', WHERE WHAT IT READS IS OF BULK AT MOST 1048576: true; the input reads as it did. -/
def poolAlikeUptoRow : OpenClaim := { program := "ytajadfoannmaiaa", sum := "f7c38c83836c64ab237819ae50fa0828d5ff2770646ae1cd6305c6abe1894232", func := "weighbridge/weighbridgelaw10.PoolAlike", spec := "poolAlike", unfollowed := true, recurses := true, named := ["math/bits.divideError", "math/bits.overflowError"], apart := false, narrowed := true }
def PoolAlikeUptoSaid : Prop := poolAlikeUptoRow.holds Try.pinned (OpenSpec.upto poolAlikeSpec)

/-- 'weighbridgelaw10.PoolRuns', WHERE WHAT IT READS IS OF BULK AT MOST 1048576: true; the input reads as it did. -/
def poolRunsUptoRow : OpenClaim := { program := "ytajadfoannmaiaa", sum := "f7c38c83836c64ab237819ae50fa0828d5ff2770646ae1cd6305c6abe1894232", func := "weighbridge/weighbridgelaw10.PoolRuns", spec := "poolRuns", unfollowed := true, recurses := true, named := ["math/bits.divideError", "math/bits.overflowError"], apart := false, narrowed := true }
def PoolRunsUptoSaid : Prop := poolRunsUptoRow.holds Try.pinned (OpenSpec.upto poolRunsSpec)

/-- 'weighbridgelaw10.PoolIdle', WHERE WHAT IT READS IS OF BULK AT MOST 1048576: true; the input reads as it did. -/
def poolIdleUptoRow : OpenClaim := { program := "ytajadfoannmaiaa", sum := "f7c38c83836c64ab237819ae50fa0828d5ff2770646ae1cd6305c6abe1894232", func := "weighbridge/weighbridgelaw10.PoolIdle", spec := "poolIdle", unfollowed := true, recurses := true, named := ["math/bits.divideError", "math/bits.overflowError"], apart := false, narrowed := true }
def PoolIdleUptoSaid : Prop := poolIdleUptoRow.holds Try.pinned (OpenSpec.upto poolIdleSpec)

end Rows
end Go.Proofs.Ytajadfoannmaiaa
