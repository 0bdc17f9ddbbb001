/-
  No cell of these rows narrows 'for every input' (looked for: loops, veiled, ifaces, maps, wideKeys, modest, calm, conditions, laid).
  DERIVED. THE GIVEN ROWS OF THIS SEAT. 8 by the template 'for every input the law returns true; each argument reads behind the call as it read before'; 0 by the template 'total and deterministic' (their statements: YtpobjhmfidebbaaTotals.lean).
  GIVEN WITH THE SEED: the statements are not yours to turn. If you find one false, say at which input.
  Laid BY PROGRAM, IN A SANDBOX (cutbox-rows.mjs): the forced cells as the released guide's own fill.sh prints them over the translation ef36af0d8fa84a89… (all of the seat's roots in one cut). By AI agents, Wed Nov 11 2026. No macro, syntax, notation, axiom, sorry.
-/
import Derived.Test.YtpobjhmfidebbaaChecked
import GoSem.Claim
import GoSem.ClaimJoined
import GoSem.ClaimMapViews
import Derived.JoinedTies
import Derived.KernelRfl
namespace Go.Proofs.Ytpobjhmfidebbaa
/- THE CELL 'sum', in the pinned program and in every row, IS THE sha256 OF THE DUMP (.gsa) THAT YtpobjhmfidebbaaProg.lean LOADS. Nothing in Lean hashes anything: it is a label: what it is worth is what the hold of that sum in a sandbox is worth. -/
noncomputable def Try.pinned : Pinned := { name := "ytpobjhmfidebbaa", sum := "ef36af0d8fa84a8923f9fc4d892a941db0b73a746ad3b2ec2cbaf1befe002848", checked := Try.checked }
namespace Rows
def none {H : Type} : Left H := { results := [], args := [] }

/-- 'weighbridgelaw08.SummaryFew': WHATEVER THE INPUT: true; the input reads as it did. -/
def summaryFewSpec : ChangeSpec := { name := "summaryFew", fn := fun _ => fun
  | [d1, d2] => { results := [.lit (.bool true)], args := [d1, d2] }
  | _ => none }
def summaryFewRow : OpenClaim := { program := "ytpobjhmfidebbaa", sum := "ef36af0d8fa84a8923f9fc4d892a941db0b73a746ad3b2ec2cbaf1befe002848", func := "weighbridge/weighbridgelaw08.SummaryFew", spec := "summaryFew", named := ["math/bits.divideError", "math/bits.overflowError"], apart := false }
def SummaryFewSaid : Prop := summaryFewRow.holds Try.pinned (OpenSpec.ofChange summaryFewSpec)

/-- ITS FALSE NEIGHBOUR: 'it returns false'. Refute it at one input. -/
def summaryFewWrong : ChangeSpec := { name := "summaryFew", fn := fun _ => fun
  | [d1, d2] => { results := [.lit (.bool false)], args := [d1, d2] }
  | _ => none }
def SummaryFewWrongFalsely : Prop := summaryFewRow.holds Try.pinned (OpenSpec.ofChange summaryFewWrong)

/-- 'weighbridgelaw08.SummaryBytes': WHATEVER THE INPUT: true; the input reads as it did. -/
def summaryBytesSpec : ChangeSpec := { name := "summaryBytes", fn := fun _ => fun
  | [d] => { results := [.lit (.bool true)], args := [d] }
  | _ => none }
def summaryBytesRow : OpenClaim := { program := "ytpobjhmfidebbaa", sum := "ef36af0d8fa84a8923f9fc4d892a941db0b73a746ad3b2ec2cbaf1befe002848", func := "weighbridge/weighbridgelaw08.SummaryBytes", spec := "summaryBytes", named := ["math/bits.divideError", "math/bits.overflowError"], apart := false }
def SummaryBytesSaid : Prop := summaryBytesRow.holds Try.pinned (OpenSpec.ofChange summaryBytesSpec)

/-- ITS FALSE NEIGHBOUR: 'it returns false'. Refute it at one input. -/
def summaryBytesWrong : ChangeSpec := { name := "summaryBytes", fn := fun _ => fun
  | [d] => { results := [.lit (.bool false)], args := [d] }
  | _ => none }
def SummaryBytesWrongFalsely : Prop := summaryBytesRow.holds Try.pinned (OpenSpec.ofChange summaryBytesWrong)

/-- 'weighbridgelaw08.SummaryBounds': WHATEVER THE INPUT: true; the input reads as it did. -/
def summaryBoundsSpec : ChangeSpec := { name := "summaryBounds", fn := fun _ => fun
  | [d1, d2, d3] => { results := [.lit (.bool true)], args := [d1, d2, d3] }
  | _ => none }
def summaryBoundsRow : OpenClaim := { program := "ytpobjhmfidebbaa", sum := "ef36af0d8fa84a8923f9fc4d892a941db0b73a746ad3b2ec2cbaf1befe002848", func := "weighbridge/weighbridgelaw08.SummaryBounds", spec := "summaryBounds", unfollowed := true, recurses := true, named := ["math/bits.divideError", "math/bits.overflowError"], apart := false }
def SummaryBoundsSaid : Prop := summaryBoundsRow.holds Try.pinned (OpenSpec.ofChange summaryBoundsSpec)

/-- ITS FALSE NEIGHBOUR: 'it returns false'. Refute it at one input. -/
def summaryBoundsWrong : ChangeSpec := { name := "summaryBounds", fn := fun _ => fun
  | [d1, d2, d3] => { results := [.lit (.bool false)], args := [d1, d2, d3] }
  | _ => none }
def SummaryBoundsWrongFalsely : Prop := summaryBoundsRow.holds Try.pinned (OpenSpec.ofChange summaryBoundsWrong)

/-- 'weighbridgelaw08.SummaryTop': WHATEVER THE INPUT: true; the input reads as it did. -/
def summaryTopSpec : ChangeSpec := { name := "summaryTop", fn := fun _ => fun
  | [d1, d2, d3] => { results := [.lit (.bool true)], args := [d1, d2, d3] }
  | _ => none }
def summaryTopRow : OpenClaim := { program := "ytpobjhmfidebbaa", sum := "ef36af0d8fa84a8923f9fc4d892a941db0b73a746ad3b2ec2cbaf1befe002848", func := "weighbridge/weighbridgelaw08.SummaryTop", spec := "summaryTop", unfollowed := true, recurses := true, named := ["math/bits.divideError", "math/bits.overflowError"], apart := false }
def SummaryTopSaid : Prop := summaryTopRow.holds Try.pinned (OpenSpec.ofChange summaryTopSpec)

/-- ITS FALSE NEIGHBOUR: 'it returns false'. Refute it at one input. -/
def summaryTopWrong : ChangeSpec := { name := "summaryTop", fn := fun _ => fun
  | [d1, d2, d3] => { results := [.lit (.bool false)], args := [d1, d2, d3] }
  | _ => none }
def SummaryTopWrongFalsely : Prop := summaryTopRow.holds Try.pinned (OpenSpec.ofChange summaryTopWrong)

/-- 'weighbridgelaw08.SummaryAlike': WHATEVER THE INPUT: true; the input reads as it did. -/
def summaryAlikeSpec : ChangeSpec := { name := "summaryAlike", fn := fun _ => fun
  | [d1, d2] => { results := [.lit (.bool true)], args := [d1, d2] }
  | _ => none }
def summaryAlikeRow : OpenClaim := { program := "ytpobjhmfidebbaa", sum := "ef36af0d8fa84a8923f9fc4d892a941db0b73a746ad3b2ec2cbaf1befe002848", func := "weighbridge/weighbridgelaw08.SummaryAlike", spec := "summaryAlike", unfollowed := true, recurses := true, named := ["math/bits.divideError", "math/bits.overflowError"], apart := false }
def SummaryAlikeSaid : Prop := summaryAlikeRow.holds Try.pinned (OpenSpec.ofChange summaryAlikeSpec)

/-- ITS FALSE NEIGHBOUR: 'it returns false'. Refute it at one input. -/
def summaryAlikeWrong : ChangeSpec := { name := "summaryAlike", fn := fun _ => fun
  | [d1, d2] => { results := [.lit (.bool false)], args := [d1, d2] }
  | _ => none }
def SummaryAlikeWrongFalsely : Prop := summaryAlikeRow.holds Try.pinned (OpenSpec.ofChange summaryAlikeWrong)

/-- 'weighbridgelaw08.SummaryHeads': WHATEVER THE INPUT: true; the input reads as it did. -/
def summaryHeadsSpec : ChangeSpec := { name := "summaryHeads", fn := fun _ => fun
  | [d1, d2, d3] => { results := [.lit (.bool true)], args := [d1, d2, d3] }
  | _ => none }
def summaryHeadsRow : OpenClaim := { program := "ytpobjhmfidebbaa", sum := "ef36af0d8fa84a8923f9fc4d892a941db0b73a746ad3b2ec2cbaf1befe002848", func := "weighbridge/weighbridgelaw08.SummaryHeads", spec := "summaryHeads", unfollowed := true, recurses := true, named := ["math/bits.divideError", "math/bits.overflowError"], apart := false }
def SummaryHeadsSaid : Prop := summaryHeadsRow.holds Try.pinned (OpenSpec.ofChange summaryHeadsSpec)

/-- ITS FALSE NEIGHBOUR: 'it returns false'. Refute it at one input. -/
def summaryHeadsWrong : ChangeSpec := { name := "summaryHeads", fn := fun _ => fun
  | [d1, d2, d3] => { results := [.lit (.bool false)], args := [d1, d2, d3] }
  | _ => none }
def SummaryHeadsWrongFalsely : Prop := summaryHeadsRow.holds Try.pinned (OpenSpec.ofChange summaryHeadsWrong)

/-- 'weighbridgelaw08.SummaryRuns': WHATEVER THE INPUT: true; the input reads as it did. -/
def summaryRunsSpec : ChangeSpec := { name := "summaryRuns", fn := fun _ => fun
  | [d1, d2, d3] => { results := [.lit (.bool true)], args := [d1, d2, d3] }
  | _ => none }
def summaryRunsRow : OpenClaim := { program := "ytpobjhmfidebbaa", sum := "ef36af0d8fa84a8923f9fc4d892a941db0b73a746ad3b2ec2cbaf1befe002848", func := "weighbridge/weighbridgelaw08.SummaryRuns", spec := "summaryRuns", unfollowed := true, recurses := true, named := ["math/bits.divideError", "math/bits.overflowError"], apart := false }
def SummaryRunsSaid : Prop := summaryRunsRow.holds Try.pinned (OpenSpec.ofChange summaryRunsSpec)

/-- ITS FALSE NEIGHBOUR: 'it returns false'. Refute it at one input. -/
def summaryRunsWrong : ChangeSpec := { name := "summaryRuns", fn := fun _ => fun
  | [d1, d2, d3] => { results := [.lit (.bool false)], args := [d1, d2, d3] }
  | _ => none }
def SummaryRunsWrongFalsely : Prop := summaryRunsRow.holds Try.pinned (OpenSpec.ofChange summaryRunsWrong)

/-- 'weighbridgelaw08.SummaryEpochs': WHATEVER THE INPUT: true; the input reads as it did. -/
def summaryEpochsSpec : ChangeSpec := { name := "summaryEpochs", fn := fun _ => fun
  | [d1, d2] => { results := [.lit (.bool true)], args := [d1, d2] }
  | _ => none }
def summaryEpochsRow : OpenClaim := { program := "ytpobjhmfidebbaa", sum := "ef36af0d8fa84a8923f9fc4d892a941db0b73a746ad3b2ec2cbaf1befe002848", func := "weighbridge/weighbridgelaw08.SummaryEpochs", spec := "summaryEpochs", unfollowed := true, recurses := true, named := ["math/bits.divideError", "math/bits.overflowError"], apart := false }
def SummaryEpochsSaid : Prop := summaryEpochsRow.holds Try.pinned (OpenSpec.ofChange summaryEpochsSpec)

/-- ITS FALSE NEIGHBOUR: 'it returns false'. Refute it at one input. -/
def summaryEpochsWrong : ChangeSpec := { name := "summaryEpochs", fn := fun _ => fun
  | [d1, d2] => { results := [.lit (.bool false)], args := [d1, d2] }
  | _ => none }
def SummaryEpochsWrongFalsely : Prop := summaryEpochsRow.holds Try.pinned (OpenSpec.ofChange summaryEpochsWrong)

/- THE SECOND FORM. 'bulk': how many values and letters a reading holds, each counted each time it is reached (what is shared counts as often as it is met; a slice's spare places count too). A statement '..UptoSaid' is the law's where the arguments, and the package variables that the reading takes, are together of bulk at most 1048576: NARROWER than '..Said'. Prove '..Said' where nothing that the law and all that it calls make is longer than what came in: it says more and counts as full. Else prove '..UptoSaid'. A law counts once. -/
mutual
def uptoBulk {H : Type} : DataW H → Nat
  | .lit (.string bytes) => bytes.length + 1
  | .lit _ => 1
  | .nil => 1
  | .ptr d => uptoBulk d + 1
  | .slice elems spare => uptoBulkAll elems + uptoBulkAll spare + 1
  | .agg parts => uptoBulkAll parts + 1
  | .iface _ d => uptoBulk d + 1
  | .map entries => uptoBulkEntries entries + 1
  | .held _ => 1
def uptoBulkAll {H : Type} : List (DataW H) → Nat
  | [] => 0
  | d :: r => uptoBulk d + uptoBulkAll r
def uptoBulkEntries {H : Type} : List (Lit × DataW H) → Nat
  | [] => 0
  | x :: r => uptoBulkEntry x + uptoBulkEntries r
def uptoBulkEntry {H : Type} : Lit × DataW H → Nat
  | (.string bytes, d) => bytes.length + uptoBulk d + 1
  | (_, d) => uptoBulk d + 1
 end
def uptoSmall : (H : Type) → List (DataW H) → Bool := fun _ ds => decide (uptoBulkAll ds ≤ 1048576)
def OpenSpec.upto (s : _root_.Go.ChangeSpec) : _root_.Go.OpenSpec := { _root_.Go.OpenSpec.ofChange s with cond := some uptoSmall }

/-- 'weighbridgelaw08.SummaryFew', WHERE WHAT IT READS IS OF BULK AT MOST 1048576: true; the input reads as it did. -/
def summaryFewUptoRow : OpenClaim := { program := "ytpobjhmfidebbaa", sum := "ef36af0d8fa84a8923f9fc4d892a941db0b73a746ad3b2ec2cbaf1befe002848", func := "weighbridge/weighbridgelaw08.SummaryFew", spec := "summaryFew", named := ["math/bits.divideError", "math/bits.overflowError"], apart := false, narrowed := true }
def SummaryFewUptoSaid : Prop := summaryFewUptoRow.holds Try.pinned (OpenSpec.upto summaryFewSpec)

/-- 'weighbridgelaw08.SummaryBytes', WHERE WHAT IT READS IS OF BULK AT MOST 1048576: true; the input reads as it did. -/
def summaryBytesUptoRow : OpenClaim := { program := "ytpobjhmfidebbaa", sum := "ef36af0d8fa84a8923f9fc4d892a941db0b73a746ad3b2ec2cbaf1befe002848", func := "weighbridge/weighbridgelaw08.SummaryBytes", spec := "summaryBytes", named := ["math/bits.divideError", "math/bits.overflowError"], apart := false, narrowed := true }
def SummaryBytesUptoSaid : Prop := summaryBytesUptoRow.holds Try.pinned (OpenSpec.upto summaryBytesSpec)

/-- 'weighbridgelaw08.SummaryBounds', WHERE WHAT IT READS IS OF BULK AT MOST 1048576: true; the input reads as it did. -/
def summaryBoundsUptoRow : OpenClaim := { program := "ytpobjhmfidebbaa", sum := "ef36af0d8fa84a8923f9fc4d892a941db0b73a746ad3b2ec2cbaf1befe002848", func := "weighbridge/weighbridgelaw08.SummaryBounds", spec := "summaryBounds", unfollowed := true, recurses := true, named := ["math/bits.divideError", "math/bits.overflowError"], apart := false, narrowed := true }
def SummaryBoundsUptoSaid : Prop := summaryBoundsUptoRow.holds Try.pinned (OpenSpec.upto summaryBoundsSpec)

/-- 'weighbridgelaw08.SummaryTop', WHERE WHAT IT READS IS OF BULK AT MOST 1048576: true; the input reads as it did. -/
def summaryTopUptoRow : OpenClaim := { program := "ytpobjhmfidebbaa", sum := "ef36af0d8fa84a8923f9fc4d892a941db0b73a746ad3b2ec2cbaf1befe002848", func := "weighbridge/weighbridgelaw08.SummaryTop", spec := "summaryTop", unfollowed := true, recurses := true, named := ["math/bits.divideError", "math/bits.overflowError"], apart := false, narrowed := true }
def SummaryTopUptoSaid : Prop := summaryTopUptoRow.holds Try.pinned (OpenSpec.upto summaryTopSpec)

/-- 'weighbridgelaw08.SummaryAlike', WHERE WHAT IT READS IS OF BULK AT MOST 1048576: true; the input reads as it did. -/
def summaryAlikeUptoRow : OpenClaim := { program := "ytpobjhmfidebbaa", sum := "ef36af0d8fa84a8923f9fc4d892a941db0b73a746ad3b2ec2cbaf1befe002848", func := "weighbridge/weighbridgelaw08.SummaryAlike", spec := "summaryAlike", unfollowed := true, recurses := true, named := ["math/bits.divideError", "math/bits.overflowError"], apart := false, narrowed := true }
def SummaryAlikeUptoSaid : Prop := summaryAlikeUptoRow.holds Try.pinned (OpenSpec.upto summaryAlikeSpec)

/-- 'weighbridgelaw08.SummaryHeads', WHERE WHAT IT READS IS OF BULK AT MOST 1048576: true; the input reads as it did. -/
def summaryHeadsUptoRow : OpenClaim := { program := "ytpobjhmfidebbaa", sum := "ef36af0d8fa84a8923f9fc4d892a941db0b73a746ad3b2ec2cbaf1befe002848", func := "weighbridge/weighbridgelaw08.SummaryHeads", spec := "summaryHeads", unfollowed := true, recurses := true, named := ["math/bits.divideError", "math/bits.overflowError"], apart := false, narrowed := true }
def SummaryHeadsUptoSaid : Prop := summaryHeadsUptoRow.holds Try.pinned (OpenSpec.upto summaryHeadsSpec)

/-- 'weighbridgelaw08.SummaryRuns', WHERE WHAT IT READS IS OF BULK AT MOST 1048576: true; the input reads as it did. -/
def summaryRunsUptoRow : OpenClaim := { program := "ytpobjhmfidebbaa", sum := "ef36af0d8fa84a8923f9fc4d892a941db0b73a746ad3b2ec2cbaf1befe002848", func := "weighbridge/weighbridgelaw08.SummaryRuns", spec := "summaryRuns", unfollowed := true, recurses := true, named := ["math/bits.divideError", "math/bits.overflowError"], apart := false, narrowed := true }
def SummaryRunsUptoSaid : Prop := summaryRunsUptoRow.holds Try.pinned (OpenSpec.upto summaryRunsSpec)

/-- 'weighbridgelaw08.SummaryEpochs', WHERE WHAT IT READS IS OF BULK AT MOST 1048576: true; the input reads as it did. -/
def summaryEpochsUptoRow : OpenClaim := { program := "ytpobjhmfidebbaa", sum := "ef36af0d8fa84a8923f9fc4d892a941db0b73a746ad3b2ec2cbaf1befe002848", func := "weighbridge/weighbridgelaw08.SummaryEpochs", spec := "summaryEpochs", unfollowed := true, recurses := true, named := ["math/bits.divideError", "math/bits.overflowError"], apart := false, narrowed := true }
def SummaryEpochsUptoSaid : Prop := summaryEpochsUptoRow.holds Try.pinned (OpenSpec.upto summaryEpochsSpec)

end Rows
end Go.Proofs.Ytpobjhmfidebbaa
