/-
  No cell of these rows narrows 'for every input' (looked for: loops, veiled, ifaces, maps, wideKeys, modest, calm, conditions, laid).
  DERIVED. THE GIVEN ROWS OF THIS SEAT. 4 by the template 'for every input the law returns true; each argument reads behind the call as it read before'; 0 by the template 'total and deterministic' (their statements: YtmiagiemagdnfaaTotals.lean).
  GIVEN WITH THE SEED: the statements are not yours to turn. If you find one false, say at which input.
  Laid BY PROGRAM, IN A SANDBOX (cutbox-rows.mjs): the forced cells as the released guide's own fill.sh prints them over the translation 1365d45c98a101f0… (all of the seat's roots in one cut). By AI agents, Wed Nov 11 2026. No macro, syntax, notation, axiom, sorry.
-/
import Derived.Test.YtmiagiemagdnfaaChecked
import GoSem.Claim
import GoSem.ClaimJoined
import GoSem.ClaimMapViews
import Derived.JoinedTies
import Derived.KernelRfl
namespace Go.Proofs.Ytmiagiemagdnfaa
/- THE CELL 'sum', in the pinned program and in every row, IS THE sha256 OF THE DUMP (.gsa) THAT YtmiagiemagdnfaaProg.lean LOADS. Nothing in Lean hashes anything: it is a label: what it is worth is what the hold of that sum in a sandbox is worth. -/
noncomputable def Try.pinned : Pinned := { name := "ytmiagiemagdnfaa", sum := "1365d45c98a101f0ab16079e0f7a30afc5fed9ebd63de8309c86f56e17091937", checked := Try.checked }
namespace Rows
def none {H : Type} : Left H := { results := [], args := [] }

/-- 'weighbridgelaw19.ScriptAny': WHATEVER THE INPUT: true; the input reads as it did. -/
def scriptAnySpec : ChangeSpec := { name := "scriptAny", fn := fun _ => fun
  | [d] => { results := [.lit (.bool true)], args := [d] }
  | _ => none }
def scriptAnyRow : OpenClaim := { program := "ytmiagiemagdnfaa", sum := "1365d45c98a101f0ab16079e0f7a30afc5fed9ebd63de8309c86f56e17091937", func := "weighbridge/weighbridgelaw19.ScriptAny", spec := "scriptAny", apart := false }
def ScriptAnySaid : Prop := scriptAnyRow.holds Try.pinned (OpenSpec.ofChange scriptAnySpec)

/-- ITS FALSE NEIGHBOUR: 'it returns false'. Refute it at one input. -/
def scriptAnyWrong : ChangeSpec := { name := "scriptAny", fn := fun _ => fun
  | [d] => { results := [.lit (.bool false)], args := [d] }
  | _ => none }
def ScriptAnyWrongFalsely : Prop := scriptAnyRow.holds Try.pinned (OpenSpec.ofChange scriptAnyWrong)

/-- 'weighbridgelaw19.ScriptClocks': WHATEVER THE INPUT: true; the input reads as it did. -/
def scriptClocksSpec : ChangeSpec := { name := "scriptClocks", fn := fun _ => fun
  | [d] => { results := [.lit (.bool true)], args := [d] }
  | _ => none }
def scriptClocksRow : OpenClaim := { program := "ytmiagiemagdnfaa", sum := "1365d45c98a101f0ab16079e0f7a30afc5fed9ebd63de8309c86f56e17091937", func := "weighbridge/weighbridgelaw19.ScriptClocks", spec := "scriptClocks", apart := false }
def ScriptClocksSaid : Prop := scriptClocksRow.holds Try.pinned (OpenSpec.ofChange scriptClocksSpec)

/-- ITS FALSE NEIGHBOUR: 'it returns false'. Refute it at one input. -/
def scriptClocksWrong : ChangeSpec := { name := "scriptClocks", fn := fun _ => fun
  | [d] => { results := [.lit (.bool false)], args := [d] }
  | _ => none }
def ScriptClocksWrongFalsely : Prop := scriptClocksRow.holds Try.pinned (OpenSpec.ofChange scriptClocksWrong)

/-- 'weighbridgelaw19.ScriptHeads': WHATEVER THE INPUT: true; the input reads as it did. -/
def scriptHeadsSpec : ChangeSpec := { name := "scriptHeads", fn := fun _ => fun
  | [d1, d2, d3] => { results := [.lit (.bool true)], args := [d1, d2, d3] }
  | _ => none }
def scriptHeadsRow : OpenClaim := { program := "ytmiagiemagdnfaa", sum := "1365d45c98a101f0ab16079e0f7a30afc5fed9ebd63de8309c86f56e17091937", func := "weighbridge/weighbridgelaw19.ScriptHeads", spec := "scriptHeads", apart := false }
def ScriptHeadsSaid : Prop := scriptHeadsRow.holds Try.pinned (OpenSpec.ofChange scriptHeadsSpec)

/-- ITS FALSE NEIGHBOUR: 'it returns false'. Refute it at one input. -/
def scriptHeadsWrong : ChangeSpec := { name := "scriptHeads", fn := fun _ => fun
  | [d1, d2, d3] => { results := [.lit (.bool false)], args := [d1, d2, d3] }
  | _ => none }
def ScriptHeadsWrongFalsely : Prop := scriptHeadsRow.holds Try.pinned (OpenSpec.ofChange scriptHeadsWrong)

/-- 'weighbridgelaw19.ScriptBack': WHATEVER THE INPUT: true; the input reads as it did. -/
def scriptBackSpec : ChangeSpec := { name := "scriptBack", fn := fun _ => fun
  | [d] => { results := [.lit (.bool true)], args := [d] }
  | _ => none }
def scriptBackRow : OpenClaim := { program := "ytmiagiemagdnfaa", sum := "1365d45c98a101f0ab16079e0f7a30afc5fed9ebd63de8309c86f56e17091937", func := "weighbridge/weighbridgelaw19.ScriptBack", spec := "scriptBack", apart := false }
def ScriptBackSaid : Prop := scriptBackRow.holds Try.pinned (OpenSpec.ofChange scriptBackSpec)

/-- ITS FALSE NEIGHBOUR: 'it returns false'. Refute it at one input. -/
def scriptBackWrong : ChangeSpec := { name := "scriptBack", fn := fun _ => fun
  | [d] => { results := [.lit (.bool false)], args := [d] }
  | _ => none }
def ScriptBackWrongFalsely : Prop := scriptBackRow.holds Try.pinned (OpenSpec.ofChange scriptBackWrong)

/- THE SECOND FORM. 'bulk': how many values and letters a reading holds, each counted each time it is reached (what is shared counts as often as it is met; a slice's spare places count too). A statement '..UptoSaid' is the law's where the arguments, and the package variables that the reading takes, are together of bulk at most 1048576: NARROWER than '..Said'. Prove '..Said' where nothing that the law and all that it calls make is longer than what came in: it says more and counts as full. Else prove '..UptoSaid'. A law counts once. -/
mutual
def uptoBulk {H : Type} : DataW H → Nat
  | .lit (.string bytes) => bytes.length + 1
  | .lit _ => 1
  | .nil => 1
  | .ptr d => uptoBulk d + 1
  | .slice elems spare => uptoBulkAll elems + uptoBulkAll spare + 1
  | .agg parts => uptoBulkAll parts + 1
  | .iface _ d => uptoBulk d + 1
  | .map entries => uptoBulkEntries entries + 1
  | .held _ => 1
def uptoBulkAll {H : Type} : List (DataW H) → Nat
  | [] => 0
  | d :: r => uptoBulk d + uptoBulkAll r
def uptoBulkEntries {H : Type} : List (Lit × DataW H) → Nat
  | [] => 0
  | x :: r => uptoBulkEntry x + uptoBulkEntries r
def uptoBulkEntry {H : Type} : Lit × DataW H → Nat
  | (.string bytes, d) => bytes.length + uptoBulk d + 1
  | (_, d) => uptoBulk d + 1
 end
def uptoSmall : (H : Type) → List (DataW H) → Bool := fun _ ds => decide (uptoBulkAll ds ≤ 1048576)
def OpenSpec.upto (s : _root_.Go.ChangeSpec) : _root_.Go.OpenSpec := { _root_.Go.OpenSpec.ofChange s with cond := some uptoSmall }

/-- 'weighbridgelaw19.ScriptAny', WHERE WHAT IT READS IS OF BULK AT MOST 1048576: true; the input reads as it did. -/
def scriptAnyUptoRow : OpenClaim := { program := "ytmiagiemagdnfaa", sum := "1365d45c98a101f0ab16079e0f7a30afc5fed9ebd63de8309c86f56e17091937", func := "weighbridge/weighbridgelaw19.ScriptAny", spec := "scriptAny", apart := false, narrowed := true }
def ScriptAnyUptoSaid : Prop := scriptAnyUptoRow.holds Try.pinned (OpenSpec.upto scriptAnySpec)

/-- 'weighbridgelaw19.ScriptClocks', WHERE WHAT IT READS IS OF BULK AT MOST 1048576: true; the input reads as it did. -/
def scriptClocksUptoRow : OpenClaim := { program := "ytmiagiemagdnfaa", sum := "1365d45c98a101f0ab16079e0f7a30afc5fed9ebd63de8309c86f56e17091937", func := "weighbridge/weighbridgelaw19.ScriptClocks", spec := "scriptClocks", apart := false, narrowed := true }
def ScriptClocksUptoSaid : Prop := scriptClocksUptoRow.holds Try.pinned (OpenSpec.upto scriptClocksSpec)

/-- 'weighbridgelaw19.ScriptHeads', WHERE WHAT IT READS IS OF BULK AT MOST 1048576: true; the input reads as it did. -/
def scriptHeadsUptoRow : OpenClaim := { program := "ytmiagiemagdnfaa", sum := "1365d45c98a101f0ab16079e0f7a30afc5fed9ebd63de8309c86f56e17091937", func := "weighbridge/weighbridgelaw19.ScriptHeads", spec := "scriptHeads", apart := false, narrowed := true }
def ScriptHeadsUptoSaid : Prop := scriptHeadsUptoRow.holds Try.pinned (OpenSpec.upto scriptHeadsSpec)

/-- 'weighbridgelaw19.ScriptBack', WHERE WHAT IT READS IS OF BULK AT MOST 1048576: true; the input reads as it did. -/
def scriptBackUptoRow : OpenClaim := { program := "ytmiagiemagdnfaa", sum := "1365d45c98a101f0ab16079e0f7a30afc5fed9ebd63de8309c86f56e17091937", func := "weighbridge/weighbridgelaw19.ScriptBack", spec := "scriptBack", apart := false, narrowed := true }
def ScriptBackUptoSaid : Prop := scriptBackUptoRow.holds Try.pinned (OpenSpec.upto scriptBackSpec)

end Rows
end Go.Proofs.Ytmiagiemagdnfaa
