/-
  No cell of these rows narrows 'for every input' (looked for: loops, veiled, ifaces, maps, wideKeys, modest, calm, conditions, laid).
  DERIVED. THE GIVEN ROWS OF THIS SEAT. 11 by the template 'for every input the law returns true; each argument reads behind the call as it read before'; 0 by the template 'total and deterministic' (their statements: YtndekdafiaogmaaTotals.lean).
  GIVEN WITH THE SEED: the statements are not yours to turn. If you find one false, say at which input.
  Laid BY PROGRAM, IN A SANDBOX (cutbox-rows.mjs): the forced cells as the released guide's own fill.sh prints them over the translation 3bd46a1e4e0c7465… (all of the seat's roots in one cut). By AI agents, Wed Nov 11 2026. No macro, syntax, notation, axiom, sorry.
-/
import Derived.Test.YtndekdafiaogmaaChecked
import GoSem.Claim
import GoSem.ClaimJoined
import GoSem.ClaimMapViews
import Derived.JoinedTies
import Derived.KernelRfl
namespace Go.Proofs.Ytndekdafiaogmaa
/- THE CELL 'sum', in the pinned program and in every row, IS THE sha256 OF THE DUMP (.gsa) THAT YtndekdafiaogmaaProg.lean LOADS. Nothing in Lean hashes anything: it is a label: what it is worth is what the hold of that sum in a sandbox is worth. -/
noncomputable def Try.pinned : Pinned := { name := "ytndekdafiaogmaa", sum := "3bd46a1e4e0c74652c456a73f85b2ce32f3143a1f68e7ea4e88d623e94e84921", checked := Try.checked }
namespace Rows
def none {H : Type} : Left H := { results := [], args := [] }

/-- 'weighbridgelaw12.LimiterLimit': WHATEVER THE INPUT: true; the input reads as it did. -/
def limiterLimitSpec : ChangeSpec := { name := "limiterLimit", fn := fun _ => fun
  | [d1, d2, d3] => { results := [.lit (.bool true)], args := [d1, d2, d3] }
  | _ => none }
def limiterLimitRow : OpenClaim := { program := "ytndekdafiaogmaa", sum := "3bd46a1e4e0c74652c456a73f85b2ce32f3143a1f68e7ea4e88d623e94e84921", func := "weighbridge/weighbridgelaw12.LimiterLimit", spec := "limiterLimit", unfollowed := true, recurses := true, named := ["math/bits.divideError", "math/bits.overflowError"], apart := false }
def LimiterLimitSaid : Prop := limiterLimitRow.holds Try.pinned (OpenSpec.ofChange limiterLimitSpec)

/-- ITS FALSE NEIGHBOUR: 'it returns false'. Refute it at one input. -/
def limiterLimitWrong : ChangeSpec := { name := "limiterLimit", fn := fun _ => fun
  | [d1, d2, d3] => { results := [.lit (.bool false)], args := [d1, d2, d3] }
  | _ => none }
def LimiterLimitWrongFalsely : Prop := limiterLimitRow.holds Try.pinned (OpenSpec.ofChange limiterLimitWrong)

/-- 'weighbridgelaw12.LimiterTotals': WHATEVER THE INPUT: true; the input reads as it did. -/
def limiterTotalsSpec : ChangeSpec := { name := "limiterTotals", fn := fun _ => fun
  | [d1, d2] => { results := [.lit (.bool true)], args := [d1, d2] }
  | _ => none }
def limiterTotalsRow : OpenClaim := { program := "ytndekdafiaogmaa", sum := "3bd46a1e4e0c74652c456a73f85b2ce32f3143a1f68e7ea4e88d623e94e84921", func := "weighbridge/weighbridgelaw12.LimiterTotals", spec := "limiterTotals", unfollowed := true, recurses := true, named := ["math/bits.divideError", "math/bits.overflowError"], apart := false }
def LimiterTotalsSaid : Prop := limiterTotalsRow.holds Try.pinned (OpenSpec.ofChange limiterTotalsSpec)

/-- ITS FALSE NEIGHBOUR: 'it returns false'. Refute it at one input. -/
def limiterTotalsWrong : ChangeSpec := { name := "limiterTotals", fn := fun _ => fun
  | [d1, d2] => { results := [.lit (.bool false)], args := [d1, d2] }
  | _ => none }
def LimiterTotalsWrongFalsely : Prop := limiterTotalsRow.holds Try.pinned (OpenSpec.ofChange limiterTotalsWrong)

/-- 'weighbridgelaw12.LimiterEvents': WHATEVER THE INPUT: true; the input reads as it did. -/
def limiterEventsSpec : ChangeSpec := { name := "limiterEvents", fn := fun _ => fun
  | [d1, d2, d3] => { results := [.lit (.bool true)], args := [d1, d2, d3] }
  | _ => none }
def limiterEventsRow : OpenClaim := { program := "ytndekdafiaogmaa", sum := "3bd46a1e4e0c74652c456a73f85b2ce32f3143a1f68e7ea4e88d623e94e84921", func := "weighbridge/weighbridgelaw12.LimiterEvents", spec := "limiterEvents", unfollowed := true, recurses := true, named := ["math/bits.divideError", "math/bits.overflowError"], apart := false }
def LimiterEventsSaid : Prop := limiterEventsRow.holds Try.pinned (OpenSpec.ofChange limiterEventsSpec)

/-- ITS FALSE NEIGHBOUR: 'it returns false'. Refute it at one input. -/
def limiterEventsWrong : ChangeSpec := { name := "limiterEvents", fn := fun _ => fun
  | [d1, d2, d3] => { results := [.lit (.bool false)], args := [d1, d2, d3] }
  | _ => none }
def LimiterEventsWrongFalsely : Prop := limiterEventsRow.holds Try.pinned (OpenSpec.ofChange limiterEventsWrong)

/-- 'weighbridgelaw12.LimiterHeavy': WHATEVER THE INPUT: true; the input reads as it did. -/
def limiterHeavySpec : ChangeSpec := { name := "limiterHeavy", fn := fun _ => fun
  | [d1, d2] => { results := [.lit (.bool true)], args := [d1, d2] }
  | _ => none }
def limiterHeavyRow : OpenClaim := { program := "ytndekdafiaogmaa", sum := "3bd46a1e4e0c74652c456a73f85b2ce32f3143a1f68e7ea4e88d623e94e84921", func := "weighbridge/weighbridgelaw12.LimiterHeavy", spec := "limiterHeavy", unfollowed := true, recurses := true, named := ["math/bits.divideError", "math/bits.overflowError"], apart := false }
def LimiterHeavySaid : Prop := limiterHeavyRow.holds Try.pinned (OpenSpec.ofChange limiterHeavySpec)

/-- ITS FALSE NEIGHBOUR: 'it returns false'. Refute it at one input. -/
def limiterHeavyWrong : ChangeSpec := { name := "limiterHeavy", fn := fun _ => fun
  | [d1, d2] => { results := [.lit (.bool false)], args := [d1, d2] }
  | _ => none }
def LimiterHeavyWrongFalsely : Prop := limiterHeavyRow.holds Try.pinned (OpenSpec.ofChange limiterHeavyWrong)

/-- 'weighbridgelaw12.LimiterExact': WHATEVER THE INPUT: true; the input reads as it did. -/
def limiterExactSpec : ChangeSpec := { name := "limiterExact", fn := fun _ => fun
  | [d1, d2, d3] => { results := [.lit (.bool true)], args := [d1, d2, d3] }
  | _ => none }
def limiterExactRow : OpenClaim := { program := "ytndekdafiaogmaa", sum := "3bd46a1e4e0c74652c456a73f85b2ce32f3143a1f68e7ea4e88d623e94e84921", func := "weighbridge/weighbridgelaw12.LimiterExact", spec := "limiterExact", unfollowed := true, recurses := true, named := ["math/bits.divideError", "math/bits.overflowError"], apart := false }
def LimiterExactSaid : Prop := limiterExactRow.holds Try.pinned (OpenSpec.ofChange limiterExactSpec)

/-- ITS FALSE NEIGHBOUR: 'it returns false'. Refute it at one input. -/
def limiterExactWrong : ChangeSpec := { name := "limiterExact", fn := fun _ => fun
  | [d1, d2, d3] => { results := [.lit (.bool false)], args := [d1, d2, d3] }
  | _ => none }
def LimiterExactWrongFalsely : Prop := limiterExactRow.holds Try.pinned (OpenSpec.ofChange limiterExactWrong)

/-- 'weighbridgelaw12.LimiterAlone': WHATEVER THE INPUT: true; the input reads as it did. -/
def limiterAloneSpec : ChangeSpec := { name := "limiterAlone", fn := fun _ => fun
  | [d1, d2, d3] => { results := [.lit (.bool true)], args := [d1, d2, d3] }
  | _ => none }
def limiterAloneRow : OpenClaim := { program := "ytndekdafiaogmaa", sum := "3bd46a1e4e0c74652c456a73f85b2ce32f3143a1f68e7ea4e88d623e94e84921", func := "weighbridge/weighbridgelaw12.LimiterAlone", spec := "limiterAlone", unfollowed := true, recurses := true, named := ["math/bits.divideError", "math/bits.overflowError"], apart := false }
def LimiterAloneSaid : Prop := limiterAloneRow.holds Try.pinned (OpenSpec.ofChange limiterAloneSpec)

/-- ITS FALSE NEIGHBOUR: 'it returns false'. Refute it at one input. -/
def limiterAloneWrong : ChangeSpec := { name := "limiterAlone", fn := fun _ => fun
  | [d1, d2, d3] => { results := [.lit (.bool false)], args := [d1, d2, d3] }
  | _ => none }
def LimiterAloneWrongFalsely : Prop := limiterAloneRow.holds Try.pinned (OpenSpec.ofChange limiterAloneWrong)

/-- 'weighbridgelaw12.LimiterTells': WHATEVER THE INPUT: true; the input reads as it did. -/
def limiterTellsSpec : ChangeSpec := { name := "limiterTells", fn := fun _ => fun
  | [d1, d2, d3] => { results := [.lit (.bool true)], args := [d1, d2, d3] }
  | _ => none }
def limiterTellsRow : OpenClaim := { program := "ytndekdafiaogmaa", sum := "3bd46a1e4e0c74652c456a73f85b2ce32f3143a1f68e7ea4e88d623e94e84921", func := "weighbridge/weighbridgelaw12.LimiterTells", spec := "limiterTells", unfollowed := true, recurses := true, named := ["math/bits.divideError", "math/bits.overflowError"], apart := false }
def LimiterTellsSaid : Prop := limiterTellsRow.holds Try.pinned (OpenSpec.ofChange limiterTellsSpec)

/-- ITS FALSE NEIGHBOUR: 'it returns false'. Refute it at one input. -/
def limiterTellsWrong : ChangeSpec := { name := "limiterTells", fn := fun _ => fun
  | [d1, d2, d3] => { results := [.lit (.bool false)], args := [d1, d2, d3] }
  | _ => none }
def LimiterTellsWrongFalsely : Prop := limiterTellsRow.holds Try.pinned (OpenSpec.ofChange limiterTellsWrong)

/-- 'weighbridgelaw12.LimiterShift': WHATEVER THE INPUT: true; the input reads as it did. -/
def limiterShiftSpec : ChangeSpec := { name := "limiterShift", fn := fun _ => fun
  | [d1, d2, d3] => { results := [.lit (.bool true)], args := [d1, d2, d3] }
  | _ => none }
def limiterShiftRow : OpenClaim := { program := "ytndekdafiaogmaa", sum := "3bd46a1e4e0c74652c456a73f85b2ce32f3143a1f68e7ea4e88d623e94e84921", func := "weighbridge/weighbridgelaw12.LimiterShift", spec := "limiterShift", unfollowed := true, recurses := true, named := ["math/bits.divideError", "math/bits.overflowError"], apart := false }
def LimiterShiftSaid : Prop := limiterShiftRow.holds Try.pinned (OpenSpec.ofChange limiterShiftSpec)

/-- ITS FALSE NEIGHBOUR: 'it returns false'. Refute it at one input. -/
def limiterShiftWrong : ChangeSpec := { name := "limiterShift", fn := fun _ => fun
  | [d1, d2, d3] => { results := [.lit (.bool false)], args := [d1, d2, d3] }
  | _ => none }
def LimiterShiftWrongFalsely : Prop := limiterShiftRow.holds Try.pinned (OpenSpec.ofChange limiterShiftWrong)

/-- 'weighbridgelaw12.LimiterRows': WHATEVER THE INPUT: true; the input reads as it did. -/
def limiterRowsSpec : ChangeSpec := { name := "limiterRows", fn := fun _ => fun
  | [d1, d2, d3] => { results := [.lit (.bool true)], args := [d1, d2, d3] }
  | _ => none }
def limiterRowsRow : OpenClaim := { program := "ytndekdafiaogmaa", sum := "3bd46a1e4e0c74652c456a73f85b2ce32f3143a1f68e7ea4e88d623e94e84921", func := "weighbridge/weighbridgelaw12.LimiterRows", spec := "limiterRows", unfollowed := true, recurses := true, named := ["math/bits.divideError", "math/bits.overflowError"], apart := false }
def LimiterRowsSaid : Prop := limiterRowsRow.holds Try.pinned (OpenSpec.ofChange limiterRowsSpec)

/-- ITS FALSE NEIGHBOUR: 'it returns false'. Refute it at one input. -/
def limiterRowsWrong : ChangeSpec := { name := "limiterRows", fn := fun _ => fun
  | [d1, d2, d3] => { results := [.lit (.bool false)], args := [d1, d2, d3] }
  | _ => none }
def LimiterRowsWrongFalsely : Prop := limiterRowsRow.holds Try.pinned (OpenSpec.ofChange limiterRowsWrong)

/-- 'weighbridgelaw12.LimiterPeeks': WHATEVER THE INPUT: true; the input reads as it did. -/
def limiterPeeksSpec : ChangeSpec := { name := "limiterPeeks", fn := fun _ => fun
  | [d1, d2, d3] => { results := [.lit (.bool true)], args := [d1, d2, d3] }
  | _ => none }
def limiterPeeksRow : OpenClaim := { program := "ytndekdafiaogmaa", sum := "3bd46a1e4e0c74652c456a73f85b2ce32f3143a1f68e7ea4e88d623e94e84921", func := "weighbridge/weighbridgelaw12.LimiterPeeks", spec := "limiterPeeks", unfollowed := true, recurses := true, named := ["math/bits.divideError", "math/bits.overflowError"], apart := false }
def LimiterPeeksSaid : Prop := limiterPeeksRow.holds Try.pinned (OpenSpec.ofChange limiterPeeksSpec)

/-- ITS FALSE NEIGHBOUR: 'it returns false'. Refute it at one input. -/
def limiterPeeksWrong : ChangeSpec := { name := "limiterPeeks", fn := fun _ => fun
  | [d1, d2, d3] => { results := [.lit (.bool false)], args := [d1, d2, d3] }
  | _ => none }
def LimiterPeeksWrongFalsely : Prop := limiterPeeksRow.holds Try.pinned (OpenSpec.ofChange limiterPeeksWrong)

/-- 'weighbridgelaw12.LimiterRetry': WHATEVER THE INPUT: true; the input reads as it did. -/
def limiterRetrySpec : ChangeSpec := { name := "limiterRetry", fn := fun _ => fun
  | [d1, d2, d3] => { results := [.lit (.bool true)], args := [d1, d2, d3] }
  | _ => none }
def limiterRetryRow : OpenClaim := { program := "ytndekdafiaogmaa", sum := "3bd46a1e4e0c74652c456a73f85b2ce32f3143a1f68e7ea4e88d623e94e84921", func := "weighbridge/weighbridgelaw12.LimiterRetry", spec := "limiterRetry", unfollowed := true, recurses := true, named := ["math/bits.divideError", "math/bits.overflowError"], apart := false }
def LimiterRetrySaid : Prop := limiterRetryRow.holds Try.pinned (OpenSpec.ofChange limiterRetrySpec)

/-- ITS FALSE NEIGHBOUR: 'it returns false'. Refute it at one input. -/
def limiterRetryWrong : ChangeSpec := { name := "limiterRetry", fn := fun _ => fun
  | [d1, d2, d3] => { results := [.lit (.bool false)], args := [d1, d2, d3] }
  | _ => none }
def LimiterRetryWrongFalsely : Prop := limiterRetryRow.holds Try.pinned (OpenSpec.ofChange limiterRetryWrong)

/- THE SECOND FORM. 'bulk': how many values and letters a reading holds, each counted each time it is reached (what is shared counts as often as it is met; a slice's spare places count too). A statement '..UptoSaid' is the law's where the arguments, and the package variables that the reading takes, are together of bulk at most 1048576: NARROWER than '..Said'. Prove '..Said' where nothing that the law and all that it calls make is longer than what came in: it says more and counts as full. Else prove '..UptoSaid'. A law counts once. -/
mutual
def uptoBulk {H : Type} : DataW H → Nat
  | .lit (.string bytes) => bytes.length + 1
  | .lit _ => 1
  | .nil => 1
  | .ptr d => uptoBulk d + 1
  | .slice elems spare => uptoBulkAll elems + uptoBulkAll spare + 1
  | .agg parts => uptoBulkAll parts + 1
  | .iface _ d => uptoBulk d + 1
  | .map entries => uptoBulkEntries entries + 1
  | .held _ => 1
def uptoBulkAll {H : Type} : List (DataW H) → Nat
  | [] => 0
  | d :: r => uptoBulk d + uptoBulkAll r
def uptoBulkEntries {H : Type} : List (Lit × DataW H) → Nat
  | [] => 0
  | x :: r => uptoBulkEntry x + uptoBulkEntries r
def uptoBulkEntry {H : Type} : Lit × DataW H → Nat
  | (.string bytes, d) => bytes.length + uptoBulk d + 1
  | (_, d) => uptoBulk d + 1
 end
def uptoSmall : (H : Type) → List (DataW H) → Bool := fun _ ds => decide (uptoBulkAll ds ≤ 1048576)
def OpenSpec.upto (s : _root_.Go.ChangeSpec) : _root_.Go.OpenSpec := { _root_.Go.OpenSpec.ofChange s with cond := some uptoSmall }

/-- 'weighbridgelaw12.LimiterLimit', WHERE WHAT IT READS IS OF BULK AT MOST 1048576: true; the input reads as it did. -/
def limiterLimitUptoRow : OpenClaim := { program := "ytndekdafiaogmaa", sum := "3bd46a1e4e0c74652c456a73f85b2ce32f3143a1f68e7ea4e88d623e94e84921", func := "weighbridge/weighbridgelaw12.LimiterLimit", spec := "limiterLimit", unfollowed := true, recurses := true, named := ["math/bits.divideError", "math/bits.overflowError"], apart := false, narrowed := true }
def LimiterLimitUptoSaid : Prop := limiterLimitUptoRow.holds Try.pinned (OpenSpec.upto limiterLimitSpec)

/-- 'weighbridgelaw12.LimiterTotals', WHERE WHAT IT READS IS OF BULK AT MOST 1048576: true; the input reads as it did. -/
def limiterTotalsUptoRow : OpenClaim := { program := "ytndekdafiaogmaa", sum := "3bd46a1e4e0c74652c456a73f85b2ce32f3143a1f68e7ea4e88d623e94e84921", func := "weighbridge/weighbridgelaw12.LimiterTotals", spec := "limiterTotals", unfollowed := true, recurses := true, named := ["math/bits.divideError", "math/bits.overflowError"], apart := false, narrowed := true }
def LimiterTotalsUptoSaid : Prop := limiterTotalsUptoRow.holds Try.pinned (OpenSpec.upto limiterTotalsSpec)

/-- 'weighbridgelaw12.LimiterEvents', WHERE WHAT IT READS IS OF BULK AT MOST 1048576: true; the input reads as it did. -/
def limiterEventsUptoRow : OpenClaim := { program := "ytndekdafiaogmaa", sum := "3bd46a1e4e0c74652c456a73f85b2ce32f3143a1f68e7ea4e88d623e94e84921", func := "weighbridge/weighbridgelaw12.LimiterEvents", spec := "limiterEvents", unfollowed := true, recurses := true, named := ["math/bits.divideError", "math/bits.overflowError"], apart := false, narrowed := true }
def LimiterEventsUptoSaid : Prop := limiterEventsUptoRow.holds Try.pinned (OpenSpec.upto limiterEventsSpec)

/-- 'weighbridgelaw12.LimiterHeavy', WHERE WHAT IT READS IS OF BULK AT MOST 1048576: true; the input reads as it did. -/
def limiterHeavyUptoRow : OpenClaim := { program := "ytndekdafiaogmaa", sum := "3bd46a1e4e0c74652c456a73f85b2ce32f3143a1f68e7ea4e88d623e94e84921", func := "weighbridge/weighbridgelaw12.LimiterHeavy", spec := "limiterHeavy", unfollowed := true, recurses := true, named := ["math/bits.divideError", "math/bits.overflowError"], apart := false, narrowed := true }
def LimiterHeavyUptoSaid : Prop := limiterHeavyUptoRow.holds Try.pinned (OpenSpec.upto limiterHeavySpec)

/-- 'weighbridgelaw12.LimiterExact', WHERE WHAT IT READS IS OF BULK AT MOST 1048576: true; the input reads as it did. -/
def limiterExactUptoRow : OpenClaim := { program := "ytndekdafiaogmaa", sum := "3bd46a1e4e0c74652c456a73f85b2ce32f3143a1f68e7ea4e88d623e94e84921", func := "weighbridge/weighbridgelaw12.LimiterExact", spec := "limiterExact", unfollowed := true, recurses := true, named := ["math/bits.divideError", "math/bits.overflowError"], apart := false, narrowed := true }
def LimiterExactUptoSaid : Prop := limiterExactUptoRow.holds Try.pinned (OpenSpec.upto limiterExactSpec)

/-- 'weighbridgelaw12.LimiterAlone', WHERE WHAT IT READS IS OF BULK AT MOST 1048576: true; the input reads as it did. -/
def limiterAloneUptoRow : OpenClaim := { program := "ytndekdafiaogmaa", sum := "3bd46a1e4e0c74652c456a73f85b2ce32f3143a1f68e7ea4e88d623e94e84921", func := "weighbridge/weighbridgelaw12.LimiterAlone", spec := "limiterAlone", unfollowed := true, recurses := true, named := ["math/bits.divideError", "math/bits.overflowError"], apart := false, narrowed := true }
def LimiterAloneUptoSaid : Prop := limiterAloneUptoRow.holds Try.pinned (OpenSpec.upto limiterAloneSpec)

/-- 'weighbridgelaw12.LimiterTells', WHERE WHAT IT READS IS OF BULK AT MOST 1048576: true; the input reads as it did. -/
def limiterTellsUptoRow : OpenClaim := { program := "ytndekdafiaogmaa", sum := "3bd46a1e4e0c74652c456a73f85b2ce32f3143a1f68e7ea4e88d623e94e84921", func := "weighbridge/weighbridgelaw12.LimiterTells", spec := "limiterTells", unfollowed := true, recurses := true, named := ["math/bits.divideError", "math/bits.overflowError"], apart := false, narrowed := true }
def LimiterTellsUptoSaid : Prop := limiterTellsUptoRow.holds Try.pinned (OpenSpec.upto limiterTellsSpec)

/-- 'weighbridgelaw12.LimiterShift', WHERE WHAT IT READS IS OF BULK AT MOST 1048576: true; the input reads as it did. -/
def limiterShiftUptoRow : OpenClaim := { program := "ytndekdafiaogmaa", sum := "3bd46a1e4e0c74652c456a73f85b2ce32f3143a1f68e7ea4e88d623e94e84921", func := "weighbridge/weighbridgelaw12.LimiterShift", spec := "limiterShift", unfollowed := true, recurses := true, named := ["math/bits.divideError", "math/bits.overflowError"], apart := false, narrowed := true }
def LimiterShiftUptoSaid : Prop := limiterShiftUptoRow.holds Try.pinned (OpenSpec.upto limiterShiftSpec)

/-- 'weighbridgelaw12.LimiterRows', WHERE WHAT IT READS IS OF BULK AT MOST 1048576: true; the input reads as it did. -/
def limiterRowsUptoRow : OpenClaim := { program := "ytndekdafiaogmaa", sum := "3bd46a1e4e0c74652c456a73f85b2ce32f3143a1f68e7ea4e88d623e94e84921", func := "weighbridge/weighbridgelaw12.LimiterRows", spec := "limiterRows", unfollowed := true, recurses := true, named := ["math/bits.divideError", "math/bits.overflowError"], apart := false, narrowed := true }
def LimiterRowsUptoSaid : Prop := limiterRowsUptoRow.holds Try.pinned (OpenSpec.upto limiterRowsSpec)

/-- 'weighbridgelaw12.LimiterPeeks', WHERE WHAT IT READS IS OF BULK AT MOST 1048576: true; the input reads as it did. -/
def limiterPeeksUptoRow : OpenClaim := { program := "ytndekdafiaogmaa", sum := "3bd46a1e4e0c74652c456a73f85b2ce32f3143a1f68e7ea4e88d623e94e84921", func := "weighbridge/weighbridgelaw12.LimiterPeeks", spec := "limiterPeeks", unfollowed := true, recurses := true, named := ["math/bits.divideError", "math/bits.overflowError"], apart := false, narrowed := true }
def LimiterPeeksUptoSaid : Prop := limiterPeeksUptoRow.holds Try.pinned (OpenSpec.upto limiterPeeksSpec)

/-- 'weighbridgelaw12.LimiterRetry', WHERE WHAT IT READS IS OF BULK AT MOST 1048576: true; the input reads as it did. -/
def limiterRetryUptoRow : OpenClaim := { program := "ytndekdafiaogmaa", sum := "3bd46a1e4e0c74652c456a73f85b2ce32f3143a1f68e7ea4e88d623e94e84921", func := "weighbridge/weighbridgelaw12.LimiterRetry", spec := "limiterRetry", unfollowed := true, recurses := true, named := ["math/bits.divideError", "math/bits.overflowError"], apart := false, narrowed := true }
def LimiterRetryUptoSaid : Prop := limiterRetryUptoRow.holds Try.pinned (OpenSpec.upto limiterRetrySpec)

end Rows
end Go.Proofs.Ytndekdafiaogmaa
