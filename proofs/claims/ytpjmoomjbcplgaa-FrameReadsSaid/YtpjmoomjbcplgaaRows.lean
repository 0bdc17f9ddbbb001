/-
  No cell of these rows narrows 'for every input' (looked for: loops, veiled, ifaces, maps, wideKeys, modest, calm, conditions, laid).
  DERIVED. THE GIVEN ROWS OF THIS SEAT. 9 by the template 'for every input the law returns true; each argument reads behind the call as it read before'; 0 by the template 'total and deterministic' (their statements: YtpjmoomjbcplgaaTotals.lean).
  GIVEN WITH THE SEED: the statements are not yours to turn. If you find one false, say at which input.
  Laid BY PROGRAM, IN A SANDBOX (cutbox-rows.mjs): the forced cells as the released guide's own fill.sh prints them over the translation 3c8834cd97188f2e… (all of the seat's roots in one cut). By AI agents, Wed Nov 11 2026. No macro, syntax, notation, axiom, sorry.
-/
import Derived.Test.YtpjmoomjbcplgaaChecked
import GoSem.Claim
import GoSem.ClaimJoined
import GoSem.ClaimMapViews
import Derived.JoinedTies
import Derived.KernelRfl
namespace Go.Proofs.Ytpjmoomjbcplgaa
/- THE CELL 'sum', in the pinned program and in every row, IS THE sha256 OF THE DUMP (.gsa) THAT YtpjmoomjbcplgaaProg.lean LOADS. Nothing in Lean hashes anything: it is a label: what it is worth is what the hold of that sum in a sandbox is worth. -/
noncomputable def Try.pinned : Pinned := { name := "ytpjmoomjbcplgaa", sum := "3c8834cd97188f2e81403e18a72b812848c5068a591e124ff3c1339b0a18cf23", checked := Try.checked }
namespace Rows
def none {H : Type} : Left H := { results := [], args := [] }

/-- 'weighbridgelaw13.FrameApart': WHATEVER THE INPUT: true; the input reads as it did. -/
def frameApartSpec : ChangeSpec := { name := "frameApart", fn := fun _ => fun
  | [d1, d2] => { results := [.lit (.bool true)], args := [d1, d2] }
  | _ => none }
def frameApartRow : OpenClaim := { program := "ytpjmoomjbcplgaa", sum := "3c8834cd97188f2e81403e18a72b812848c5068a591e124ff3c1339b0a18cf23", func := "weighbridge/weighbridgelaw13.FrameApart", spec := "frameApart", apart := false }
def FrameApartSaid : Prop := frameApartRow.holds Try.pinned (OpenSpec.ofChange frameApartSpec)

/-- ITS FALSE NEIGHBOUR: 'it returns false'. Refute it at one input. -/
def frameApartWrong : ChangeSpec := { name := "frameApart", fn := fun _ => fun
  | [d1, d2] => { results := [.lit (.bool false)], args := [d1, d2] }
  | _ => none }
def FrameApartWrongFalsely : Prop := frameApartRow.holds Try.pinned (OpenSpec.ofChange frameApartWrong)

/-- 'weighbridgelaw13.FrameSizes': WHATEVER THE INPUT: true; the input reads as it did. -/
def frameSizesSpec : ChangeSpec := { name := "frameSizes", fn := fun _ => fun
  | [d1, d2] => { results := [.lit (.bool true)], args := [d1, d2] }
  | _ => none }
def frameSizesRow : OpenClaim := { program := "ytpjmoomjbcplgaa", sum := "3c8834cd97188f2e81403e18a72b812848c5068a591e124ff3c1339b0a18cf23", func := "weighbridge/weighbridgelaw13.FrameSizes", spec := "frameSizes", apart := false }
def FrameSizesSaid : Prop := frameSizesRow.holds Try.pinned (OpenSpec.ofChange frameSizesSpec)

/-- ITS FALSE NEIGHBOUR: 'it returns false'. Refute it at one input. -/
def frameSizesWrong : ChangeSpec := { name := "frameSizes", fn := fun _ => fun
  | [d1, d2] => { results := [.lit (.bool false)], args := [d1, d2] }
  | _ => none }
def FrameSizesWrongFalsely : Prop := frameSizesRow.holds Try.pinned (OpenSpec.ofChange frameSizesWrong)

/-- 'weighbridgelaw13.FrameBack': WHATEVER THE INPUT: true; the input reads as it did. -/
def frameBackSpec : ChangeSpec := { name := "frameBack", fn := fun _ => fun
  | [d1, d2, d3] => { results := [.lit (.bool true)], args := [d1, d2, d3] }
  | _ => none }
def frameBackRow : OpenClaim := { program := "ytpjmoomjbcplgaa", sum := "3c8834cd97188f2e81403e18a72b812848c5068a591e124ff3c1339b0a18cf23", func := "weighbridge/weighbridgelaw13.FrameBack", spec := "frameBack", apart := false }
def FrameBackSaid : Prop := frameBackRow.holds Try.pinned (OpenSpec.ofChange frameBackSpec)

/-- ITS FALSE NEIGHBOUR: 'it returns false'. Refute it at one input. -/
def frameBackWrong : ChangeSpec := { name := "frameBack", fn := fun _ => fun
  | [d1, d2, d3] => { results := [.lit (.bool false)], args := [d1, d2, d3] }
  | _ => none }
def FrameBackWrongFalsely : Prop := frameBackRow.holds Try.pinned (OpenSpec.ofChange frameBackWrong)

/-- 'weighbridgelaw13.FrameAny': WHATEVER THE INPUT: true; the input reads as it did. -/
def frameAnySpec : ChangeSpec := { name := "frameAny", fn := fun _ => fun
  | [d1, d2] => { results := [.lit (.bool true)], args := [d1, d2] }
  | _ => none }
def frameAnyRow : OpenClaim := { program := "ytpjmoomjbcplgaa", sum := "3c8834cd97188f2e81403e18a72b812848c5068a591e124ff3c1339b0a18cf23", func := "weighbridge/weighbridgelaw13.FrameAny", spec := "frameAny", apart := false }
def FrameAnySaid : Prop := frameAnyRow.holds Try.pinned (OpenSpec.ofChange frameAnySpec)

/-- ITS FALSE NEIGHBOUR: 'it returns false'. Refute it at one input. -/
def frameAnyWrong : ChangeSpec := { name := "frameAny", fn := fun _ => fun
  | [d1, d2] => { results := [.lit (.bool false)], args := [d1, d2] }
  | _ => none }
def FrameAnyWrongFalsely : Prop := frameAnyRow.holds Try.pinned (OpenSpec.ofChange frameAnyWrong)

/-- 'weighbridgelaw13.FrameFaults': WHATEVER THE INPUT: true; the input reads as it did. -/
def frameFaultsSpec : ChangeSpec := { name := "frameFaults", fn := fun _ => fun
  | [d1, d2, d3] => { results := [.lit (.bool true)], args := [d1, d2, d3] }
  | _ => none }
def frameFaultsRow : OpenClaim := { program := "ytpjmoomjbcplgaa", sum := "3c8834cd97188f2e81403e18a72b812848c5068a591e124ff3c1339b0a18cf23", func := "weighbridge/weighbridgelaw13.FrameFaults", spec := "frameFaults", apart := false }
def FrameFaultsSaid : Prop := frameFaultsRow.holds Try.pinned (OpenSpec.ofChange frameFaultsSpec)

/-- ITS FALSE NEIGHBOUR: 'it returns false'. Refute it at one input. -/
def frameFaultsWrong : ChangeSpec := { name := "frameFaults", fn := fun _ => fun
  | [d1, d2, d3] => { results := [.lit (.bool false)], args := [d1, d2, d3] }
  | _ => none }
def FrameFaultsWrongFalsely : Prop := frameFaultsRow.holds Try.pinned (OpenSpec.ofChange frameFaultsWrong)

/-- 'weighbridgelaw13.FrameRules': WHATEVER THE INPUT: true; the input reads as it did. -/
def frameRulesSpec : ChangeSpec := { name := "frameRules", fn := fun _ => fun
  | [d1, d2] => { results := [.lit (.bool true)], args := [d1, d2] }
  | _ => none }
def frameRulesRow : OpenClaim := { program := "ytpjmoomjbcplgaa", sum := "3c8834cd97188f2e81403e18a72b812848c5068a591e124ff3c1339b0a18cf23", func := "weighbridge/weighbridgelaw13.FrameRules", spec := "frameRules", apart := false }
def FrameRulesSaid : Prop := frameRulesRow.holds Try.pinned (OpenSpec.ofChange frameRulesSpec)

/-- ITS FALSE NEIGHBOUR: 'it returns false'. Refute it at one input. -/
def frameRulesWrong : ChangeSpec := { name := "frameRules", fn := fun _ => fun
  | [d1, d2] => { results := [.lit (.bool false)], args := [d1, d2] }
  | _ => none }
def FrameRulesWrongFalsely : Prop := frameRulesRow.holds Try.pinned (OpenSpec.ofChange frameRulesWrong)

/-- 'weighbridgelaw13.FrameLists': WHATEVER THE INPUT: true; the input reads as it did. -/
def frameListsSpec : ChangeSpec := { name := "frameLists", fn := fun _ => fun
  | [d1, d2, d3] => { results := [.lit (.bool true)], args := [d1, d2, d3] }
  | _ => none }
def frameListsRow : OpenClaim := { program := "ytpjmoomjbcplgaa", sum := "3c8834cd97188f2e81403e18a72b812848c5068a591e124ff3c1339b0a18cf23", func := "weighbridge/weighbridgelaw13.FrameLists", spec := "frameLists", unfollowed := true, recurses := true, apart := false }
def FrameListsSaid : Prop := frameListsRow.holds Try.pinned (OpenSpec.ofChange frameListsSpec)

/-- ITS FALSE NEIGHBOUR: 'it returns false'. Refute it at one input. -/
def frameListsWrong : ChangeSpec := { name := "frameLists", fn := fun _ => fun
  | [d1, d2, d3] => { results := [.lit (.bool false)], args := [d1, d2, d3] }
  | _ => none }
def FrameListsWrongFalsely : Prop := frameListsRow.holds Try.pinned (OpenSpec.ofChange frameListsWrong)

/-- 'weighbridgelaw13.FrameAnswers': WHATEVER THE INPUT: true; the input reads as it did. -/
def frameAnswersSpec : ChangeSpec := { name := "frameAnswers", fn := fun _ => fun
  | [d1, d2, d3] => { results := [.lit (.bool true)], args := [d1, d2, d3] }
  | _ => none }
def frameAnswersRow : OpenClaim := { program := "ytpjmoomjbcplgaa", sum := "3c8834cd97188f2e81403e18a72b812848c5068a591e124ff3c1339b0a18cf23", func := "weighbridge/weighbridgelaw13.FrameAnswers", spec := "frameAnswers", unfollowed := true, recurses := true, apart := false }
def FrameAnswersSaid : Prop := frameAnswersRow.holds Try.pinned (OpenSpec.ofChange frameAnswersSpec)

/-- ITS FALSE NEIGHBOUR: 'it returns false'. Refute it at one input. -/
def frameAnswersWrong : ChangeSpec := { name := "frameAnswers", fn := fun _ => fun
  | [d1, d2, d3] => { results := [.lit (.bool false)], args := [d1, d2, d3] }
  | _ => none }
def FrameAnswersWrongFalsely : Prop := frameAnswersRow.holds Try.pinned (OpenSpec.ofChange frameAnswersWrong)

/-- 'weighbridgelaw13.FrameReads': WHATEVER THE INPUT: true; the input reads as it did. -/
def frameReadsSpec : ChangeSpec := { name := "frameReads", fn := fun _ => fun
  | [d1, d2] => { results := [.lit (.bool true)], args := [d1, d2] }
  | _ => none }
def frameReadsRow : OpenClaim := { program := "ytpjmoomjbcplgaa", sum := "3c8834cd97188f2e81403e18a72b812848c5068a591e124ff3c1339b0a18cf23", func := "weighbridge/weighbridgelaw13.FrameReads", spec := "frameReads", unfollowed := true, recurses := true, apart := false }
def FrameReadsSaid : Prop := frameReadsRow.holds Try.pinned (OpenSpec.ofChange frameReadsSpec)

/-- ITS FALSE NEIGHBOUR: 'it returns false'. Refute it at one input. -/
def frameReadsWrong : ChangeSpec := { name := "frameReads", fn := fun _ => fun
  | [d1, d2] => { results := [.lit (.bool false)], args := [d1, d2] }
  | _ => none }
def FrameReadsWrongFalsely : Prop := frameReadsRow.holds Try.pinned (OpenSpec.ofChange frameReadsWrong)

/- THE SECOND FORM. 'bulk': how many values and letters a reading holds, each counted each time it is reached (what is shared counts as often as it is met; a slice's spare places count too). A statement '..UptoSaid' is the law's where the arguments, and the package variables that the reading takes, are together of bulk at most 1048576: NARROWER than '..Said'. Prove '..Said' where nothing that the law and all that it calls make is longer than what came in: it says more and counts as full. Else prove '..UptoSaid'. A law counts once. -/
mutual
def uptoBulk {H : Type} : DataW H → Nat
  | .lit (.string bytes) => bytes.length + 1
  | .lit _ => 1
  | .nil => 1
  | .ptr d => uptoBulk d + 1
  | .slice elems spare => uptoBulkAll elems + uptoBulkAll spare + 1
  | .agg parts => uptoBulkAll parts + 1
  | .iface _ d => uptoBulk d + 1
  | .map entries => uptoBulkEntries entries + 1
  | .held _ => 1
def uptoBulkAll {H : Type} : List (DataW H) → Nat
  | [] => 0
  | d :: r => uptoBulk d + uptoBulkAll r
def uptoBulkEntries {H : Type} : List (Lit × DataW H) → Nat
  | [] => 0
  | x :: r => uptoBulkEntry x + uptoBulkEntries r
def uptoBulkEntry {H : Type} : Lit × DataW H → Nat
  | (.string bytes, d) => bytes.length + uptoBulk d + 1
  | (_, d) => uptoBulk d + 1
 end
def uptoSmall : (H : Type) → List (DataW H) → Bool := fun _ ds => decide (uptoBulkAll ds ≤ 1048576)
def OpenSpec.upto (s : _root_.Go.ChangeSpec) : _root_.Go.OpenSpec := { _root_.Go.OpenSpec.ofChange s with cond := some uptoSmall }

/-- 'weighbridgelaw13.FrameApart', WHERE WHAT IT READS IS OF BULK AT MOST 1048576: true; the input reads as it did. -/
def frameApartUptoRow : OpenClaim := { program := "ytpjmoomjbcplgaa", sum := "3c8834cd97188f2e81403e18a72b812848c5068a591e124ff3c1339b0a18cf23", func := "weighbridge/weighbridgelaw13.FrameApart", spec := "frameApart", apart := false, narrowed := true }
def FrameApartUptoSaid : Prop := frameApartUptoRow.holds Try.pinned (OpenSpec.upto frameApartSpec)

/-- 'weighbridgelaw13.FrameSizes', WHERE WHAT IT READS IS OF BULK AT MOST 1048576: true; the input reads as it did. -/
def frameSizesUptoRow : OpenClaim := { program := "ytpjmoomjbcplgaa", sum := "3c8834cd97188f2e81403e18a72b812848c5068a591e124ff3c1339b0a18cf23", func := "weighbridge/weighbridgelaw13.FrameSizes", spec := "frameSizes", apart := false, narrowed := true }
def FrameSizesUptoSaid : Prop := frameSizesUptoRow.holds Try.pinned (OpenSpec.upto frameSizesSpec)

/-- 'weighbridgelaw13.FrameBack', WHERE WHAT IT READS IS OF BULK AT MOST 1048576: true; the input reads as it did. -/
def frameBackUptoRow : OpenClaim := { program := "ytpjmoomjbcplgaa", sum := "3c8834cd97188f2e81403e18a72b812848c5068a591e124ff3c1339b0a18cf23", func := "weighbridge/weighbridgelaw13.FrameBack", spec := "frameBack", apart := false, narrowed := true }
def FrameBackUptoSaid : Prop := frameBackUptoRow.holds Try.pinned (OpenSpec.upto frameBackSpec)

/-- 'weighbridgelaw13.FrameAny', WHERE WHAT IT READS IS OF BULK AT MOST 1048576: true; the input reads as it did. -/
def frameAnyUptoRow : OpenClaim := { program := "ytpjmoomjbcplgaa", sum := "3c8834cd97188f2e81403e18a72b812848c5068a591e124ff3c1339b0a18cf23", func := "weighbridge/weighbridgelaw13.FrameAny", spec := "frameAny", apart := false, narrowed := true }
def FrameAnyUptoSaid : Prop := frameAnyUptoRow.holds Try.pinned (OpenSpec.upto frameAnySpec)

/-- 'weighbridgelaw13.FrameFaults', WHERE WHAT IT READS IS OF BULK AT MOST 1048576: true; the input reads as it did. -/
def frameFaultsUptoRow : OpenClaim := { program := "ytpjmoomjbcplgaa", sum := "3c8834cd97188f2e81403e18a72b812848c5068a591e124ff3c1339b0a18cf23", func := "weighbridge/weighbridgelaw13.FrameFaults", spec := "frameFaults", apart := false, narrowed := true }
def FrameFaultsUptoSaid : Prop := frameFaultsUptoRow.holds Try.pinned (OpenSpec.upto frameFaultsSpec)

/-- 'weighbridgelaw13.FrameRules', WHERE WHAT IT READS IS OF BULK AT MOST 1048576: true; the input reads as it did. -/
def frameRulesUptoRow : OpenClaim := { program := "ytpjmoomjbcplgaa", sum := "3c8834cd97188f2e81403e18a72b812848c5068a591e124ff3c1339b0a18cf23", func := "weighbridge/weighbridgelaw13.FrameRules", spec := "frameRules", apart := false, narrowed := true }
def FrameRulesUptoSaid : Prop := frameRulesUptoRow.holds Try.pinned (OpenSpec.upto frameRulesSpec)

/-- 'weighbridgelaw13.FrameLists', WHERE WHAT IT READS IS OF BULK AT MOST 1048576: true; the input reads as it did. -/
def frameListsUptoRow : OpenClaim := { program := "ytpjmoomjbcplgaa", sum := "3c8834cd97188f2e81403e18a72b812848c5068a591e124ff3c1339b0a18cf23", func := "weighbridge/weighbridgelaw13.FrameLists", spec := "frameLists", unfollowed := true, recurses := true, apart := false, narrowed := true }
def FrameListsUptoSaid : Prop := frameListsUptoRow.holds Try.pinned (OpenSpec.upto frameListsSpec)

/-- 'weighbridgelaw13.FrameAnswers', WHERE WHAT IT READS IS OF BULK AT MOST 1048576: true; the input reads as it did. -/
def frameAnswersUptoRow : OpenClaim := { program := "ytpjmoomjbcplgaa", sum := "3c8834cd97188f2e81403e18a72b812848c5068a591e124ff3c1339b0a18cf23", func := "weighbridge/weighbridgelaw13.FrameAnswers", spec := "frameAnswers", unfollowed := true, recurses := true, apart := false, narrowed := true }
def FrameAnswersUptoSaid : Prop := frameAnswersUptoRow.holds Try.pinned (OpenSpec.upto frameAnswersSpec)

/-- 'weighbridgelaw13.FrameReads', WHERE WHAT IT READS IS OF BULK AT MOST 1048576: true; the input reads as it did. -/
def frameReadsUptoRow : OpenClaim := { program := "ytpjmoomjbcplgaa", sum := "3c8834cd97188f2e81403e18a72b812848c5068a591e124ff3c1339b0a18cf23", func := "weighbridge/weighbridgelaw13.FrameReads", spec := "frameReads", unfollowed := true, recurses := true, apart := false, narrowed := true }
def FrameReadsUptoSaid : Prop := frameReadsUptoRow.holds Try.pinned (OpenSpec.upto frameReadsSpec)

end Rows
end Go.Proofs.Ytpjmoomjbcplgaa
