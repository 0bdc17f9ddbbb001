/-
  No cell of these rows narrows 'for every input' (looked for: loops, veiled, ifaces, maps, wideKeys, modest, calm, conditions, laid).
  DERIVED. THE GIVEN ROWS OF THIS SEAT. 6 by the template 'for every input the law returns true; each argument reads behind the call as it read before'; 0 by the template 'total and deterministic' (their statements: YtfmojpkggkjceaaTotals.lean).
  GIVEN WITH THE SEED: the statements are not yours to turn. If you find one false, say at which input.
  Laid BY PROGRAM, IN A SANDBOX (cutbox-rows.mjs): the forced cells as the released guide's own fill.sh prints them over the translation eeb8cf43b7532522… (all of the seat's roots in one cut). By AI agents, Wed Nov 11 2026. No macro, syntax, notation, axiom, sorry.
-/
import Derived.Test.YtfmojpkggkjceaaChecked
import GoSem.Claim
import GoSem.ClaimJoined
import GoSem.ClaimMapViews
import Derived.JoinedTies
import Derived.KernelRfl
namespace Go.Proofs.Ytfmojpkggkjceaa
/- THE CELL 'sum', in the pinned program and in every row, IS THE sha256 OF THE DUMP (.gsa) THAT YtfmojpkggkjceaaProg.lean LOADS. Nothing in Lean hashes anything: it is a label: what it is worth is what the hold of that sum in a sandbox is worth. -/
noncomputable def Try.pinned : Pinned := { name := "ytfmojpkggkjceaa", sum := "eeb8cf43b7532522f610b8f7185b1a308d28a5322e814e4cd3c0fb069ba9df86", checked := Try.checked }
namespace Rows
def none {H : Type} : Left H := { results := [], args := [] }

/-- 'weighbridgelaw14.DecodeBytes': WHATEVER THE INPUT: true; the input reads as it did. -/
def decodeBytesSpec : ChangeSpec := { name := "decodeBytes", fn := fun _ => fun
  | [d1, d2] => { results := [.lit (.bool true)], args := [d1, d2] }
  | _ => none }
def decodeBytesRow : OpenClaim := { program := "ytfmojpkggkjceaa", sum := "eeb8cf43b7532522f610b8f7185b1a308d28a5322e814e4cd3c0fb069ba9df86", func := "weighbridge/weighbridgelaw14.DecodeBytes", spec := "decodeBytes", apart := false }
def DecodeBytesSaid : Prop := decodeBytesRow.holds Try.pinned (OpenSpec.ofChange decodeBytesSpec)

/-- ITS FALSE NEIGHBOUR: 'it returns false'. Refute it at one input. -/
def decodeBytesWrong : ChangeSpec := { name := "decodeBytes", fn := fun _ => fun
  | [d1, d2] => { results := [.lit (.bool false)], args := [d1, d2] }
  | _ => none }
def DecodeBytesWrongFalsely : Prop := decodeBytesRow.holds Try.pinned (OpenSpec.ofChange decodeBytesWrong)

/-- 'weighbridgelaw14.DecodeEnds': WHATEVER THE INPUT: true; the input reads as it did. -/
def decodeEndsSpec : ChangeSpec := { name := "decodeEnds", fn := fun _ => fun
  | [d1, d2] => { results := [.lit (.bool true)], args := [d1, d2] }
  | _ => none }
def decodeEndsRow : OpenClaim := { program := "ytfmojpkggkjceaa", sum := "eeb8cf43b7532522f610b8f7185b1a308d28a5322e814e4cd3c0fb069ba9df86", func := "weighbridge/weighbridgelaw14.DecodeEnds", spec := "decodeEnds", apart := false }
def DecodeEndsSaid : Prop := decodeEndsRow.holds Try.pinned (OpenSpec.ofChange decodeEndsSpec)

/-- ITS FALSE NEIGHBOUR: 'it returns false'. Refute it at one input. -/
def decodeEndsWrong : ChangeSpec := { name := "decodeEnds", fn := fun _ => fun
  | [d1, d2] => { results := [.lit (.bool false)], args := [d1, d2] }
  | _ => none }
def DecodeEndsWrongFalsely : Prop := decodeEndsRow.holds Try.pinned (OpenSpec.ofChange decodeEndsWrong)

/-- 'weighbridgelaw14.DecodeOne': WHATEVER THE INPUT: true; the input reads as it did. -/
def decodeOneSpec : ChangeSpec := { name := "decodeOne", fn := fun _ => fun
  | [d] => { results := [.lit (.bool true)], args := [d] }
  | _ => none }
def decodeOneRow : OpenClaim := { program := "ytfmojpkggkjceaa", sum := "eeb8cf43b7532522f610b8f7185b1a308d28a5322e814e4cd3c0fb069ba9df86", func := "weighbridge/weighbridgelaw14.DecodeOne", spec := "decodeOne", apart := false }
def DecodeOneSaid : Prop := decodeOneRow.holds Try.pinned (OpenSpec.ofChange decodeOneSpec)

/-- ITS FALSE NEIGHBOUR: 'it returns false'. Refute it at one input. -/
def decodeOneWrong : ChangeSpec := { name := "decodeOne", fn := fun _ => fun
  | [d] => { results := [.lit (.bool false)], args := [d] }
  | _ => none }
def DecodeOneWrongFalsely : Prop := decodeOneRow.holds Try.pinned (OpenSpec.ofChange decodeOneWrong)

/-- 'weighbridgelaw14.DecodeStreams': WHATEVER THE INPUT: true; the input reads as it did. -/
def decodeStreamsSpec : ChangeSpec := { name := "decodeStreams", fn := fun _ => fun
  | [d1, d2] => { results := [.lit (.bool true)], args := [d1, d2] }
  | _ => none }
def decodeStreamsRow : OpenClaim := { program := "ytfmojpkggkjceaa", sum := "eeb8cf43b7532522f610b8f7185b1a308d28a5322e814e4cd3c0fb069ba9df86", func := "weighbridge/weighbridgelaw14.DecodeStreams", spec := "decodeStreams", apart := false }
def DecodeStreamsSaid : Prop := decodeStreamsRow.holds Try.pinned (OpenSpec.ofChange decodeStreamsSpec)

/-- ITS FALSE NEIGHBOUR: 'it returns false'. Refute it at one input. -/
def decodeStreamsWrong : ChangeSpec := { name := "decodeStreams", fn := fun _ => fun
  | [d1, d2] => { results := [.lit (.bool false)], args := [d1, d2] }
  | _ => none }
def DecodeStreamsWrongFalsely : Prop := decodeStreamsRow.holds Try.pinned (OpenSpec.ofChange decodeStreamsWrong)

/-- 'weighbridgelaw14.DecodeJoins': WHATEVER THE INPUT: true; the input reads as it did. -/
def decodeJoinsSpec : ChangeSpec := { name := "decodeJoins", fn := fun _ => fun
  | [d1, d2] => { results := [.lit (.bool true)], args := [d1, d2] }
  | _ => none }
def decodeJoinsRow : OpenClaim := { program := "ytfmojpkggkjceaa", sum := "eeb8cf43b7532522f610b8f7185b1a308d28a5322e814e4cd3c0fb069ba9df86", func := "weighbridge/weighbridgelaw14.DecodeJoins", spec := "decodeJoins", apart := false }
def DecodeJoinsSaid : Prop := decodeJoinsRow.holds Try.pinned (OpenSpec.ofChange decodeJoinsSpec)

/-- ITS FALSE NEIGHBOUR: 'it returns false'. Refute it at one input. -/
def decodeJoinsWrong : ChangeSpec := { name := "decodeJoins", fn := fun _ => fun
  | [d1, d2] => { results := [.lit (.bool false)], args := [d1, d2] }
  | _ => none }
def DecodeJoinsWrongFalsely : Prop := decodeJoinsRow.holds Try.pinned (OpenSpec.ofChange decodeJoinsWrong)

/-- 'weighbridgelaw14.DecodeCuts': WHATEVER THE INPUT: true; the input reads as it did. -/
def decodeCutsSpec : ChangeSpec := { name := "decodeCuts", fn := fun _ => fun
  | [d1, d2] => { results := [.lit (.bool true)], args := [d1, d2] }
  | _ => none }
def decodeCutsRow : OpenClaim := { program := "ytfmojpkggkjceaa", sum := "eeb8cf43b7532522f610b8f7185b1a308d28a5322e814e4cd3c0fb069ba9df86", func := "weighbridge/weighbridgelaw14.DecodeCuts", spec := "decodeCuts", apart := false }
def DecodeCutsSaid : Prop := decodeCutsRow.holds Try.pinned (OpenSpec.ofChange decodeCutsSpec)

/-- ITS FALSE NEIGHBOUR: 'it returns false'. Refute it at one input. -/
def decodeCutsWrong : ChangeSpec := { name := "decodeCuts", fn := fun _ => fun
  | [d1, d2] => { results := [.lit (.bool false)], args := [d1, d2] }
  | _ => none }
def DecodeCutsWrongFalsely : Prop := decodeCutsRow.holds Try.pinned (OpenSpec.ofChange decodeCutsWrong)

/- THE SECOND FORM. 'bulk': how many values and letters a reading holds, each counted each time it is reached (what is shared counts as often as it is met; a slice's spare places count too). A statement '..UptoSaid' is the law's where the arguments, and the package variables that the reading takes, are together of bulk at most 1048576: NARROWER than '..Said'. Prove '..Said' where nothing that the law and all that it calls make is longer than what came in: it says more and counts as full. Else prove '..UptoSaid'. A law counts once. -/
mutual
def uptoBulk {H : Type} : DataW H → Nat
  | .lit (.string bytes) => bytes.length + 1
  | .lit _ => 1
  | .nil => 1
  | .ptr d => uptoBulk d + 1
  | .slice elems spare => uptoBulkAll elems + uptoBulkAll spare + 1
  | .agg parts => uptoBulkAll parts + 1
  | .iface _ d => uptoBulk d + 1
  | .map entries => uptoBulkEntries entries + 1
  | .held _ => 1
def uptoBulkAll {H : Type} : List (DataW H) → Nat
  | [] => 0
  | d :: r => uptoBulk d + uptoBulkAll r
def uptoBulkEntries {H : Type} : List (Lit × DataW H) → Nat
  | [] => 0
  | x :: r => uptoBulkEntry x + uptoBulkEntries r
def uptoBulkEntry {H : Type} : Lit × DataW H → Nat
  | (.string bytes, d) => bytes.length + uptoBulk d + 1
  | (_, d) => uptoBulk d + 1
 end
def uptoSmall : (H : Type) → List (DataW H) → Bool := fun _ ds => decide (uptoBulkAll ds ≤ 1048576)
def OpenSpec.upto (s : _root_.Go.ChangeSpec) : _root_.Go.OpenSpec := { _root_.Go.OpenSpec.ofChange s with cond := some uptoSmall }

/-- 'weighbridgelaw14.DecodeBytes', WHERE WHAT IT READS IS OF BULK AT MOST 1048576: true; the input reads as it did. -/
def decodeBytesUptoRow : OpenClaim := { program := "ytfmojpkggkjceaa", sum := "eeb8cf43b7532522f610b8f7185b1a308d28a5322e814e4cd3c0fb069ba9df86", func := "weighbridge/weighbridgelaw14.DecodeBytes", spec := "decodeBytes", apart := false, narrowed := true }
def DecodeBytesUptoSaid : Prop := decodeBytesUptoRow.holds Try.pinned (OpenSpec.upto decodeBytesSpec)

/-- 'weighbridgelaw14.DecodeEnds', WHERE WHAT IT READS IS OF BULK AT MOST 1048576: true; the input reads as it did. -/
def decodeEndsUptoRow : OpenClaim := { program := "ytfmojpkggkjceaa", sum := "eeb8cf43b7532522f610b8f7185b1a308d28a5322e814e4cd3c0fb069ba9df86", func := "weighbridge/weighbridgelaw14.DecodeEnds", spec := "decodeEnds", apart := false, narrowed := true }
def DecodeEndsUptoSaid : Prop := decodeEndsUptoRow.holds Try.pinned (OpenSpec.upto decodeEndsSpec)

/-- 'weighbridgelaw14.DecodeOne', WHERE WHAT IT READS IS OF BULK AT MOST 1048576: true; the input reads as it did. -/
def decodeOneUptoRow : OpenClaim := { program := "ytfmojpkggkjceaa", sum := "eeb8cf43b7532522f610b8f7185b1a308d28a5322e814e4cd3c0fb069ba9df86", func := "weighbridge/weighbridgelaw14.DecodeOne", spec := "decodeOne", apart := false, narrowed := true }
def DecodeOneUptoSaid : Prop := decodeOneUptoRow.holds Try.pinned (OpenSpec.upto decodeOneSpec)

/-- 'weighbridgelaw14.DecodeStreams', WHERE WHAT IT READS IS OF BULK AT MOST 1048576: true; the input reads as it did. -/
def decodeStreamsUptoRow : OpenClaim := { program := "ytfmojpkggkjceaa", sum := "eeb8cf43b7532522f610b8f7185b1a308d28a5322e814e4cd3c0fb069ba9df86", func := "weighbridge/weighbridgelaw14.DecodeStreams", spec := "decodeStreams", apart := false, narrowed := true }
def DecodeStreamsUptoSaid : Prop := decodeStreamsUptoRow.holds Try.pinned (OpenSpec.upto decodeStreamsSpec)

/-- 'weighbridgelaw14.DecodeJoins', WHERE WHAT IT READS IS OF BULK AT MOST 1048576: true; the input reads as it did. -/
def decodeJoinsUptoRow : OpenClaim := { program := "ytfmojpkggkjceaa", sum := "eeb8cf43b7532522f610b8f7185b1a308d28a5322e814e4cd3c0fb069ba9df86", func := "weighbridge/weighbridgelaw14.DecodeJoins", spec := "decodeJoins", apart := false, narrowed := true }
def DecodeJoinsUptoSaid : Prop := decodeJoinsUptoRow.holds Try.pinned (OpenSpec.upto decodeJoinsSpec)

/-- 'weighbridgelaw14.DecodeCuts', WHERE WHAT IT READS IS OF BULK AT MOST 1048576: true; the input reads as it did. -/
def decodeCutsUptoRow : OpenClaim := { program := "ytfmojpkggkjceaa", sum := "eeb8cf43b7532522f610b8f7185b1a308d28a5322e814e4cd3c0fb069ba9df86", func := "weighbridge/weighbridgelaw14.DecodeCuts", spec := "decodeCuts", apart := false, narrowed := true }
def DecodeCutsUptoSaid : Prop := decodeCutsUptoRow.holds Try.pinned (OpenSpec.upto decodeCutsSpec)

end Rows
end Go.Proofs.Ytfmojpkggkjceaa
