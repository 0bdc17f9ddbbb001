/-
  No cell of these rows narrows 'for every input' (looked for: loops, veiled, ifaces, maps, wideKeys, modest, calm, conditions, laid).
  DERIVED. THE GIVEN ROWS OF THIS SEAT. 7 by the template 'for every input the law returns true; each argument reads behind the call as it read before'; 0 by the template 'total and deterministic' (their statements: YtnhnmpgjbopihaaTotals.lean).
  GIVEN WITH THE SEED: the statements are not yours to turn. If you find one false, say at which input.
  Laid BY PROGRAM, IN A SANDBOX (cutbox-rows.mjs): the forced cells as the released guide's own fill.sh prints them over the translation 2267b177605feea7… (all of the seat's roots in one cut). By AI agents, Wed Nov 11 2026. No macro, syntax, notation, axiom, sorry.
-/
import Derived.Test.YtnhnmpgjbopihaaChecked
import GoSem.Claim
import GoSem.ClaimJoined
import GoSem.ClaimMapViews
import Derived.JoinedTies
import Derived.KernelRfl
namespace Go.Proofs.Ytnhnmpgjbopihaa
/- THE CELL 'sum', in the pinned program and in every row, IS THE sha256 OF THE DUMP (.gsa) THAT YtnhnmpgjbopihaaProg.lean LOADS. Nothing in Lean hashes anything: it is a label: what it is worth is what the hold of that sum in a sandbox is worth. -/
noncomputable def Try.pinned : Pinned := { name := "ytnhnmpgjbopihaa", sum := "2267b177605feea791c7010dfe912bbe9b961d1041f0bc76ffc0a1f73847e75f", checked := Try.checked }
namespace Rows
def none {H : Type} : Left H := { results := [], args := [] }

/-- 'weighbridgelaw16.ConnCuts': WHATEVER THE INPUT: true; the input reads as it did. -/
def connCutsSpec : ChangeSpec := { name := "connCuts", fn := fun _ => fun
  | [d1, d2, d3] => { results := [.lit (.bool true)], args := [d1, d2, d3] }
  | _ => none }
def connCutsRow : OpenClaim := { program := "ytnhnmpgjbopihaa", sum := "2267b177605feea791c7010dfe912bbe9b961d1041f0bc76ffc0a1f73847e75f", func := "weighbridge/weighbridgelaw16.ConnCuts", spec := "connCuts", unfollowed := true, recurses := true, apart := false }
def ConnCutsSaid : Prop := connCutsRow.holds Try.pinned (OpenSpec.ofChange connCutsSpec)

/-- ITS FALSE NEIGHBOUR: 'it returns false'. Refute it at one input. -/
def connCutsWrong : ChangeSpec := { name := "connCuts", fn := fun _ => fun
  | [d1, d2, d3] => { results := [.lit (.bool false)], args := [d1, d2, d3] }
  | _ => none }
def ConnCutsWrongFalsely : Prop := connCutsRow.holds Try.pinned (OpenSpec.ofChange connCutsWrong)

/-- 'weighbridgelaw16.ConnFaults': WHATEVER THE INPUT: true; the input reads as it did. -/
def connFaultsSpec : ChangeSpec := { name := "connFaults", fn := fun _ => fun
  | [d1, d2] => { results := [.lit (.bool true)], args := [d1, d2] }
  | _ => none }
def connFaultsRow : OpenClaim := { program := "ytnhnmpgjbopihaa", sum := "2267b177605feea791c7010dfe912bbe9b961d1041f0bc76ffc0a1f73847e75f", func := "weighbridge/weighbridgelaw16.ConnFaults", spec := "connFaults", unfollowed := true, recurses := true, apart := false }
def ConnFaultsSaid : Prop := connFaultsRow.holds Try.pinned (OpenSpec.ofChange connFaultsSpec)

/-- ITS FALSE NEIGHBOUR: 'it returns false'. Refute it at one input. -/
def connFaultsWrong : ChangeSpec := { name := "connFaults", fn := fun _ => fun
  | [d1, d2] => { results := [.lit (.bool false)], args := [d1, d2] }
  | _ => none }
def ConnFaultsWrongFalsely : Prop := connFaultsRow.holds Try.pinned (OpenSpec.ofChange connFaultsWrong)

/-- 'weighbridgelaw16.ConnSeen': WHATEVER THE INPUT: true; the input reads as it did. -/
def connSeenSpec : ChangeSpec := { name := "connSeen", fn := fun _ => fun
  | [d] => { results := [.lit (.bool true)], args := [d] }
  | _ => none }
def connSeenRow : OpenClaim := { program := "ytnhnmpgjbopihaa", sum := "2267b177605feea791c7010dfe912bbe9b961d1041f0bc76ffc0a1f73847e75f", func := "weighbridge/weighbridgelaw16.ConnSeen", spec := "connSeen", unfollowed := true, recurses := true, apart := false }
def ConnSeenSaid : Prop := connSeenRow.holds Try.pinned (OpenSpec.ofChange connSeenSpec)

/-- ITS FALSE NEIGHBOUR: 'it returns false'. Refute it at one input. -/
def connSeenWrong : ChangeSpec := { name := "connSeen", fn := fun _ => fun
  | [d] => { results := [.lit (.bool false)], args := [d] }
  | _ => none }
def ConnSeenWrongFalsely : Prop := connSeenRow.holds Try.pinned (OpenSpec.ofChange connSeenWrong)

/-- 'weighbridgelaw16.ConnSums': WHATEVER THE INPUT: true; the input reads as it did. -/
def connSumsSpec : ChangeSpec := { name := "connSums", fn := fun _ => fun
  | [d1, d2] => { results := [.lit (.bool true)], args := [d1, d2] }
  | _ => none }
def connSumsRow : OpenClaim := { program := "ytnhnmpgjbopihaa", sum := "2267b177605feea791c7010dfe912bbe9b961d1041f0bc76ffc0a1f73847e75f", func := "weighbridge/weighbridgelaw16.ConnSums", spec := "connSums", unfollowed := true, recurses := true, apart := false }
def ConnSumsSaid : Prop := connSumsRow.holds Try.pinned (OpenSpec.ofChange connSumsSpec)

/-- ITS FALSE NEIGHBOUR: 'it returns false'. Refute it at one input. -/
def connSumsWrong : ChangeSpec := { name := "connSums", fn := fun _ => fun
  | [d1, d2] => { results := [.lit (.bool false)], args := [d1, d2] }
  | _ => none }
def ConnSumsWrongFalsely : Prop := connSumsRow.holds Try.pinned (OpenSpec.ofChange connSumsWrong)

/-- 'weighbridgelaw16.ConnRuns': WHATEVER THE INPUT: true; the input reads as it did. -/
def connRunsSpec : ChangeSpec := { name := "connRuns", fn := fun _ => fun
  | [d1, d2, d3] => { results := [.lit (.bool true)], args := [d1, d2, d3] }
  | _ => none }
def connRunsRow : OpenClaim := { program := "ytnhnmpgjbopihaa", sum := "2267b177605feea791c7010dfe912bbe9b961d1041f0bc76ffc0a1f73847e75f", func := "weighbridge/weighbridgelaw16.ConnRuns", spec := "connRuns", unfollowed := true, recurses := true, apart := false }
def ConnRunsSaid : Prop := connRunsRow.holds Try.pinned (OpenSpec.ofChange connRunsSpec)

/-- ITS FALSE NEIGHBOUR: 'it returns false'. Refute it at one input. -/
def connRunsWrong : ChangeSpec := { name := "connRuns", fn := fun _ => fun
  | [d1, d2, d3] => { results := [.lit (.bool false)], args := [d1, d2, d3] }
  | _ => none }
def ConnRunsWrongFalsely : Prop := connRunsRow.holds Try.pinned (OpenSpec.ofChange connRunsWrong)

/-- 'weighbridgelaw16.ConnAnew': WHATEVER THE INPUT: true; the input reads as it did. -/
def connAnewSpec : ChangeSpec := { name := "connAnew", fn := fun _ => fun
  | [d1, d2] => { results := [.lit (.bool true)], args := [d1, d2] }
  | _ => none }
def connAnewRow : OpenClaim := { program := "ytnhnmpgjbopihaa", sum := "2267b177605feea791c7010dfe912bbe9b961d1041f0bc76ffc0a1f73847e75f", func := "weighbridge/weighbridgelaw16.ConnAnew", spec := "connAnew", unfollowed := true, recurses := true, apart := false }
def ConnAnewSaid : Prop := connAnewRow.holds Try.pinned (OpenSpec.ofChange connAnewSpec)

/-- ITS FALSE NEIGHBOUR: 'it returns false'. Refute it at one input. -/
def connAnewWrong : ChangeSpec := { name := "connAnew", fn := fun _ => fun
  | [d1, d2] => { results := [.lit (.bool false)], args := [d1, d2] }
  | _ => none }
def ConnAnewWrongFalsely : Prop := connAnewRow.holds Try.pinned (OpenSpec.ofChange connAnewWrong)

/-- 'weighbridgelaw16.ConnNone': WHATEVER THE INPUT: true; the input reads as it did. -/
def connNoneSpec : ChangeSpec := { name := "connNone", fn := fun _ => fun
  | [d1, d2] => { results := [.lit (.bool true)], args := [d1, d2] }
  | _ => none }
def connNoneRow : OpenClaim := { program := "ytnhnmpgjbopihaa", sum := "2267b177605feea791c7010dfe912bbe9b961d1041f0bc76ffc0a1f73847e75f", func := "weighbridge/weighbridgelaw16.ConnNone", spec := "connNone", unfollowed := true, recurses := true, apart := false }
def ConnNoneSaid : Prop := connNoneRow.holds Try.pinned (OpenSpec.ofChange connNoneSpec)

/-- ITS FALSE NEIGHBOUR: 'it returns false'. Refute it at one input. -/
def connNoneWrong : ChangeSpec := { name := "connNone", fn := fun _ => fun
  | [d1, d2] => { results := [.lit (.bool false)], args := [d1, d2] }
  | _ => none }
def ConnNoneWrongFalsely : Prop := connNoneRow.holds Try.pinned (OpenSpec.ofChange connNoneWrong)

/- THE SECOND FORM. 'bulk': how many values and letters a reading holds, each counted each time it is reached (what is shared counts as often as it is met; a slice's spare places count too). A statement '..UptoSaid' is the law's where the arguments, and the package variables that the reading takes, are together of bulk at most 1048576: NARROWER than '..Said'. Prove '..Said' where nothing that the law and all that it calls make is longer than what came in: it says more and counts as full. Else prove '..UptoSaid'. A law counts once. -/
mutual
def uptoBulk {H : Type} : DataW H → Nat
  | .lit (.string bytes) => bytes.length + 1
  | .lit _ => 1
  | .nil => 1
  | .ptr d => uptoBulk d + 1
  | .slice elems spare => uptoBulkAll elems + uptoBulkAll spare + 1
  | .agg parts => uptoBulkAll parts + 1
  | .iface _ d => uptoBulk d + 1
  | .map entries => uptoBulkEntries entries + 1
  | .held _ => 1
def uptoBulkAll {H : Type} : List (DataW H) → Nat
  | [] => 0
  | d :: r => uptoBulk d + uptoBulkAll r
def uptoBulkEntries {H : Type} : List (Lit × DataW H) → Nat
  | [] => 0
  | x :: r => uptoBulkEntry x + uptoBulkEntries r
def uptoBulkEntry {H : Type} : Lit × DataW H → Nat
  | (.string bytes, d) => bytes.length + uptoBulk d + 1
  | (_, d) => uptoBulk d + 1
 end
def uptoSmall : (H : Type) → List (DataW H) → Bool := fun _ ds => decide (uptoBulkAll ds ≤ 1048576)
def OpenSpec.upto (s : _root_.Go.ChangeSpec) : _root_.Go.OpenSpec := { _root_.Go.OpenSpec.ofChange s with cond := some uptoSmall }

/-- 'weighbridgelaw16.ConnCuts', WHERE WHAT IT READS IS OF BULK AT MOST 1048576: true; the input reads as it did. -/
def connCutsUptoRow : OpenClaim := { program := "ytnhnmpgjbopihaa", sum := "2267b177605feea791c7010dfe912bbe9b961d1041f0bc76ffc0a1f73847e75f", func := "weighbridge/weighbridgelaw16.ConnCuts", spec := "connCuts", unfollowed := true, recurses := true, apart := false, narrowed := true }
def ConnCutsUptoSaid : Prop := connCutsUptoRow.holds Try.pinned (OpenSpec.upto connCutsSpec)

/-- 'weighbridgelaw16.ConnFaults', WHERE WHAT IT READS IS OF BULK AT MOST 1048576: true; the input reads as it did. -/
def connFaultsUptoRow : OpenClaim := { program := "ytnhnmpgjbopihaa", sum := "2267b177605feea791c7010dfe912bbe9b961d1041f0bc76ffc0a1f73847e75f", func := "weighbridge/weighbridgelaw16.ConnFaults", spec := "connFaults", unfollowed := true, recurses := true, apart := false, narrowed := true }
def ConnFaultsUptoSaid : Prop := connFaultsUptoRow.holds Try.pinned (OpenSpec.upto connFaultsSpec)

/-- 'weighbridgelaw16.ConnSeen', WHERE WHAT IT READS IS OF BULK AT MOST 1048576: true; the input reads as it did. -/
def connSeenUptoRow : OpenClaim := { program := "ytnhnmpgjbopihaa", sum := "2267b177605feea791c7010dfe912bbe9b961d1041f0bc76ffc0a1f73847e75f", func := "weighbridge/weighbridgelaw16.ConnSeen", spec := "connSeen", unfollowed := true, recurses := true, apart := false, narrowed := true }
def ConnSeenUptoSaid : Prop := connSeenUptoRow.holds Try.pinned (OpenSpec.upto connSeenSpec)

/-- 'weighbridgelaw16.ConnSums', WHERE WHAT IT READS IS OF BULK AT MOST 1048576: true; the input reads as it did. -/
def connSumsUptoRow : OpenClaim := { program := "ytnhnmpgjbopihaa", sum := "2267b177605feea791c7010dfe912bbe9b961d1041f0bc76ffc0a1f73847e75f", func := "weighbridge/weighbridgelaw16.ConnSums", spec := "connSums", unfollowed := true, recurses := true, apart := false, narrowed := true }
def ConnSumsUptoSaid : Prop := connSumsUptoRow.holds Try.pinned (OpenSpec.upto connSumsSpec)

/-- 'weighbridgelaw16.ConnRuns', WHERE WHAT IT READS IS OF BULK AT MOST 1048576: true; the input reads as it did. -/
def connRunsUptoRow : OpenClaim := { program := "ytnhnmpgjbopihaa", sum := "2267b177605feea791c7010dfe912bbe9b961d1041f0bc76ffc0a1f73847e75f", func := "weighbridge/weighbridgelaw16.ConnRuns", spec := "connRuns", unfollowed := true, recurses := true, apart := false, narrowed := true }
def ConnRunsUptoSaid : Prop := connRunsUptoRow.holds Try.pinned (OpenSpec.upto connRunsSpec)

/-- 'weighbridgelaw16.ConnAnew', WHERE WHAT IT READS IS OF BULK AT MOST 1048576: true; the input reads as it did. -/
def connAnewUptoRow : OpenClaim := { program := "ytnhnmpgjbopihaa", sum := "2267b177605feea791c7010dfe912bbe9b961d1041f0bc76ffc0a1f73847e75f", func := "weighbridge/weighbridgelaw16.ConnAnew", spec := "connAnew", unfollowed := true, recurses := true, apart := false, narrowed := true }
def ConnAnewUptoSaid : Prop := connAnewUptoRow.holds Try.pinned (OpenSpec.upto connAnewSpec)

/-- 'weighbridgelaw16.ConnNone', WHERE WHAT IT READS IS OF BULK AT MOST 1048576: true; the input reads as it did. -/
def connNoneUptoRow : OpenClaim := { program := "ytnhnmpgjbopihaa", sum := "2267b177605feea791c7010dfe912bbe9b961d1041f0bc76ffc0a1f73847e75f", func := "weighbridge/weighbridgelaw16.ConnNone", spec := "connNone", unfollowed := true, recurses := true, apart := false, narrowed := true }
def ConnNoneUptoSaid : Prop := connNoneUptoRow.holds Try.pinned (OpenSpec.upto connNoneSpec)

end Rows
end Go.Proofs.Ytnhnmpgjbopihaa
