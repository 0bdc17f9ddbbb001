/-
  No cell of these rows narrows 'for every input' (looked for: loops, veiled, ifaces, maps, wideKeys, modest, calm, conditions, laid).
  DERIVED. THE GIVEN ROWS OF THIS SEAT. 5 by the template 'for every input the law returns true; each argument reads behind the call as it read before'; 0 by the template 'total and deterministic' (their statements: YtlhkdikmhhhloaaTotals.lean).
  GIVEN WITH THE SEED: the statements are not yours to turn. If you find one false, say at which input.
  Laid BY PROGRAM, IN A SANDBOX (cutbox-rows.mjs): the forced cells as the released guide's own fill.sh prints them over the translation 7aca157d38bf83b9… (all of the seat's roots in one cut). By AI agents, Wed Nov 11 2026. No macro, syntax, notation, axiom, sorry.
-/
import Derived.Test.YtlhkdikmhhhloaaChecked
import GoSem.Claim
import GoSem.ClaimJoined
import GoSem.ClaimMapViews
import Derived.JoinedTies
import Derived.KernelRfl
namespace Go.Proofs.Ytlhkdikmhhhloaa
/- THE CELL 'sum', in the pinned program and in every row, IS THE sha256 OF THE DUMP (.gsa) THAT YtlhkdikmhhhloaaProg.lean LOADS. Nothing in Lean hashes anything: it is a label: what it is worth is what the hold of that sum in a sandbox is worth. -/
noncomputable def Try.pinned : Pinned := { name := "ytlhkdikmhhhloaa", sum := "7aca157d38bf83b9b38e850c10b6b2d524caf8aeee9205e380c6dc4ebd6f4c1c", checked := Try.checked }
namespace Rows
def none {H : Type} : Left H := { results := [], args := [] }

/-- 'weighbridgelaw15.OutbufRuns': WHATEVER THE INPUT: true; the input reads as it did. -/
def outbufRunsSpec : ChangeSpec := { name := "outbufRuns", fn := fun _ => fun
  | [d1, d2] => { results := [.lit (.bool true)], args := [d1, d2] }
  | _ => none }
def outbufRunsRow : OpenClaim := { program := "ytlhkdikmhhhloaa", sum := "7aca157d38bf83b9b38e850c10b6b2d524caf8aeee9205e380c6dc4ebd6f4c1c", func := "weighbridge/weighbridgelaw15.OutbufRuns", spec := "outbufRuns", apart := false }
def OutbufRunsSaid : Prop := outbufRunsRow.holds Try.pinned (OpenSpec.ofChange outbufRunsSpec)

/-- ITS FALSE NEIGHBOUR: 'it returns false'. Refute it at one input. -/
def outbufRunsWrong : ChangeSpec := { name := "outbufRuns", fn := fun _ => fun
  | [d1, d2] => { results := [.lit (.bool false)], args := [d1, d2] }
  | _ => none }
def OutbufRunsWrongFalsely : Prop := outbufRunsRow.holds Try.pinned (OpenSpec.ofChange outbufRunsWrong)

/-- 'weighbridgelaw15.OutbufRound': WHATEVER THE INPUT: true; the input reads as it did. -/
def outbufRoundSpec : ChangeSpec := { name := "outbufRound", fn := fun _ => fun
  | [d1, d2, d3] => { results := [.lit (.bool true)], args := [d1, d2, d3] }
  | _ => none }
def outbufRoundRow : OpenClaim := { program := "ytlhkdikmhhhloaa", sum := "7aca157d38bf83b9b38e850c10b6b2d524caf8aeee9205e380c6dc4ebd6f4c1c", func := "weighbridge/weighbridgelaw15.OutbufRound", spec := "outbufRound", apart := false }
def OutbufRoundSaid : Prop := outbufRoundRow.holds Try.pinned (OpenSpec.ofChange outbufRoundSpec)

/-- ITS FALSE NEIGHBOUR: 'it returns false'. Refute it at one input. -/
def outbufRoundWrong : ChangeSpec := { name := "outbufRound", fn := fun _ => fun
  | [d1, d2, d3] => { results := [.lit (.bool false)], args := [d1, d2, d3] }
  | _ => none }
def OutbufRoundWrongFalsely : Prop := outbufRoundRow.holds Try.pinned (OpenSpec.ofChange outbufRoundWrong)

/-- 'weighbridgelaw15.OutbufParts': WHATEVER THE INPUT: true; the input reads as it did. -/
def outbufPartsSpec : ChangeSpec := { name := "outbufParts", fn := fun _ => fun
  | [d1, d2] => { results := [.lit (.bool true)], args := [d1, d2] }
  | _ => none }
def outbufPartsRow : OpenClaim := { program := "ytlhkdikmhhhloaa", sum := "7aca157d38bf83b9b38e850c10b6b2d524caf8aeee9205e380c6dc4ebd6f4c1c", func := "weighbridge/weighbridgelaw15.OutbufParts", spec := "outbufParts", apart := false }
def OutbufPartsSaid : Prop := outbufPartsRow.holds Try.pinned (OpenSpec.ofChange outbufPartsSpec)

/-- ITS FALSE NEIGHBOUR: 'it returns false'. Refute it at one input. -/
def outbufPartsWrong : ChangeSpec := { name := "outbufParts", fn := fun _ => fun
  | [d1, d2] => { results := [.lit (.bool false)], args := [d1, d2] }
  | _ => none }
def OutbufPartsWrongFalsely : Prop := outbufPartsRow.holds Try.pinned (OpenSpec.ofChange outbufPartsWrong)

/-- 'weighbridgelaw15.OutbufOnes': WHATEVER THE INPUT: true; the input reads as it did. -/
def outbufOnesSpec : ChangeSpec := { name := "outbufOnes", fn := fun _ => fun
  | [d1, d2] => { results := [.lit (.bool true)], args := [d1, d2] }
  | _ => none }
def outbufOnesRow : OpenClaim := { program := "ytlhkdikmhhhloaa", sum := "7aca157d38bf83b9b38e850c10b6b2d524caf8aeee9205e380c6dc4ebd6f4c1c", func := "weighbridge/weighbridgelaw15.OutbufOnes", spec := "outbufOnes", apart := false }
def OutbufOnesSaid : Prop := outbufOnesRow.holds Try.pinned (OpenSpec.ofChange outbufOnesSpec)

/-- ITS FALSE NEIGHBOUR: 'it returns false'. Refute it at one input. -/
def outbufOnesWrong : ChangeSpec := { name := "outbufOnes", fn := fun _ => fun
  | [d1, d2] => { results := [.lit (.bool false)], args := [d1, d2] }
  | _ => none }
def OutbufOnesWrongFalsely : Prop := outbufOnesRow.holds Try.pinned (OpenSpec.ofChange outbufOnesWrong)

/-- 'weighbridgelaw15.OutbufNone': WHATEVER THE INPUT: true; the input reads as it did. -/
def outbufNoneSpec : ChangeSpec := { name := "outbufNone", fn := fun _ => fun
  | [d1, d2] => { results := [.lit (.bool true)], args := [d1, d2] }
  | _ => none }
def outbufNoneRow : OpenClaim := { program := "ytlhkdikmhhhloaa", sum := "7aca157d38bf83b9b38e850c10b6b2d524caf8aeee9205e380c6dc4ebd6f4c1c", func := "weighbridge/weighbridgelaw15.OutbufNone", spec := "outbufNone", apart := false }
def OutbufNoneSaid : Prop := outbufNoneRow.holds Try.pinned (OpenSpec.ofChange outbufNoneSpec)

/-- ITS FALSE NEIGHBOUR: 'it returns false'. Refute it at one input. -/
def outbufNoneWrong : ChangeSpec := { name := "outbufNone", fn := fun _ => fun
  | [d1, d2] => { results := [.lit (.bool false)], args := [d1, d2] }
  | _ => none }
def OutbufNoneWrongFalsely : Prop := outbufNoneRow.holds Try.pinned (OpenSpec.ofChange outbufNoneWrong)

/- THE SECOND FORM. 'bulk': how many values and letters a reading holds, each counted each time it is reached (what is shared counts as often as it is met; a slice's spare places count too). A statement '..UptoSaid' is the law's where the arguments, and the package variables that the reading takes, are together of bulk at most 1048576: NARROWER than '..Said'. Prove '..Said' where nothing that the law and all that it calls make is longer than what came in: it says more and counts as full. Else prove '..UptoSaid'. A law counts once. -/
mutual
def uptoBulk {H : Type} : DataW H → Nat
  | .lit (.string bytes) => bytes.length + 1
  | .lit _ => 1
  | .nil => 1
  | .ptr d => uptoBulk d + 1
  | .slice elems spare => uptoBulkAll elems + uptoBulkAll spare + 1
  | .agg parts => uptoBulkAll parts + 1
  | .iface _ d => uptoBulk d + 1
  | .map entries => uptoBulkEntries entries + 1
  | .held _ => 1
def uptoBulkAll {H : Type} : List (DataW H) → Nat
  | [] => 0
  | d :: r => uptoBulk d + uptoBulkAll r
def uptoBulkEntries {H : Type} : List (Lit × DataW H) → Nat
  | [] => 0
  | x :: r => uptoBulkEntry x + uptoBulkEntries r
def uptoBulkEntry {H : Type} : Lit × DataW H → Nat
  | (.string bytes, d) => bytes.length + uptoBulk d + 1
  | (_, d) => uptoBulk d + 1
 end
def uptoSmall : (H : Type) → List (DataW H) → Bool := fun _ ds => decide (uptoBulkAll ds ≤ 1048576)
def OpenSpec.upto (s : _root_.Go.ChangeSpec) : _root_.Go.OpenSpec := { _root_.Go.OpenSpec.ofChange s with cond := some uptoSmall }

/-- 'weighbridgelaw15.OutbufRuns', WHERE WHAT IT READS IS OF BULK AT MOST 1048576: true; the input reads as it did. -/
def outbufRunsUptoRow : OpenClaim := { program := "ytlhkdikmhhhloaa", sum := "7aca157d38bf83b9b38e850c10b6b2d524caf8aeee9205e380c6dc4ebd6f4c1c", func := "weighbridge/weighbridgelaw15.OutbufRuns", spec := "outbufRuns", apart := false, narrowed := true }
def OutbufRunsUptoSaid : Prop := outbufRunsUptoRow.holds Try.pinned (OpenSpec.upto outbufRunsSpec)

/-- 'weighbridgelaw15.OutbufRound', WHERE WHAT IT READS IS OF BULK AT MOST 1048576: true; the input reads as it did. -/
def outbufRoundUptoRow : OpenClaim := { program := "ytlhkdikmhhhloaa", sum := "7aca157d38bf83b9b38e850c10b6b2d524caf8aeee9205e380c6dc4ebd6f4c1c", func := "weighbridge/weighbridgelaw15.OutbufRound", spec := "outbufRound", apart := false, narrowed := true }
def OutbufRoundUptoSaid : Prop := outbufRoundUptoRow.holds Try.pinned (OpenSpec.upto outbufRoundSpec)

/-- 'weighbridgelaw15.OutbufParts', WHERE WHAT IT READS IS OF BULK AT MOST 1048576: true; the input reads as it did. -/
def outbufPartsUptoRow : OpenClaim := { program := "ytlhkdikmhhhloaa", sum := "7aca157d38bf83b9b38e850c10b6b2d524caf8aeee9205e380c6dc4ebd6f4c1c", func := "weighbridge/weighbridgelaw15.OutbufParts", spec := "outbufParts", apart := false, narrowed := true }
def OutbufPartsUptoSaid : Prop := outbufPartsUptoRow.holds Try.pinned (OpenSpec.upto outbufPartsSpec)

/-- 'weighbridgelaw15.OutbufOnes', WHERE WHAT IT READS IS OF BULK AT MOST 1048576: true; the input reads as it did. -/
def outbufOnesUptoRow : OpenClaim := { program := "ytlhkdikmhhhloaa", sum := "7aca157d38bf83b9b38e850c10b6b2d524caf8aeee9205e380c6dc4ebd6f4c1c", func := "weighbridge/weighbridgelaw15.OutbufOnes", spec := "outbufOnes", apart := false, narrowed := true }
def OutbufOnesUptoSaid : Prop := outbufOnesUptoRow.holds Try.pinned (OpenSpec.upto outbufOnesSpec)

/-- 'weighbridgelaw15.OutbufNone', WHERE WHAT IT READS IS OF BULK AT MOST 1048576: true; the input reads as it did. -/
def outbufNoneUptoRow : OpenClaim := { program := "ytlhkdikmhhhloaa", sum := "7aca157d38bf83b9b38e850c10b6b2d524caf8aeee9205e380c6dc4ebd6f4c1c", func := "weighbridge/weighbridgelaw15.OutbufNone", spec := "outbufNone", apart := false, narrowed := true }
def OutbufNoneUptoSaid : Prop := outbufNoneUptoRow.holds Try.pinned (OpenSpec.upto outbufNoneSpec)

end Rows
end Go.Proofs.Ytlhkdikmhhhloaa
