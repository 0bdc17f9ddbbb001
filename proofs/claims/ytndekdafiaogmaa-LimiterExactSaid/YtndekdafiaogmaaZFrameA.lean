/- frame: bytes of one's own, numbers in bytes, requests and their bytes: no function of the program. -/
import Derived.Test.YtndekdafiaogmaaProg
import Derived.Test.YtndekdafiaogmaaZLow
import Derived.KernelRfl
import Derived.BigRegion
import Derived.Lib.Hide
import Derived.Deep.DeepMust
import Derived.Maps.AppendAt
import Derived.Lib.AppendStr
set_option linter.unusedSimpArgs false
set_option linter.unusedVariables false
section
namespace Go.Proofs.Ytndekdafiaogmaa.Frame
open Go Go.RowKit Go.YtndekdafiaogmaaMem Go.YtndekdafiaogmaaLex
def OwnB (w : World) (B : Nat) (v : Value) (bs : List UInt8) : Prop := w.ownsRow B 5 1 v bs.length (vb bs)
theorem OwnB.drew {w : World} {B : Nat} {v : Value} {bs : List UInt8} (h : OwnB w B v bs) : OwnB w.drew B v bs := h
theorem OwnB.alloc {w : World} {B : Nat} {v : Value} {bs : List UInt8} (h : OwnB w B v bs) (o : Obj) : OwnB (w.alloc o) B v bs := World.ownsRow.alloc h o
theorem OwnB.slice {w : World} {B : Nat} {v : Value} {bs : List UInt8} (h : OwnB w B v bs) : ∃ a c, v = .slice a bs.length c := own_slice h
section
variable {ops : Array Oper} {rest : List Oper} {o : Oper} {act : Act} {Q : Exit → Act → World → Prop} {w : World} {B : Nat} {v : Value} {bs : List UInt8}
end
def be (k x : Nat) : List UInt8 := (List.range k).map fun j => UInt8.ofNat (x / 256 ^ (k - 1 - j))
def frame (sign : UInt8) (bs : List UInt8) : List UInt8 := [sign, 1, UInt8.ofNat (bs.length / 256), UInt8.ofNat bs.length] ++ bs
/-! ### Requests -/
def b8 (x : Int) : UInt8 := UInt8.ofNat (x % 256).toNat
structure Req where
 op : Int
 rule : Int
 cost : Nat
 key : List UInt8
 k : Int
def Req.val (q : Req) : Value := .agg #[.int .i64 q.op, .int .i64 q.rule, .int .u32 q.cost, .string ⟨q.key.toArray⟩, .int .i64 q.k]
def Req.cells (q : Req) : List Value := [.int .i64 q.op, .int .i64 q.rule, .int .u32 q.cost, .string ⟨q.key.toArray⟩, .int .i64 q.k]
def Req.body (q : Req) : List UInt8 :=
 [b8 q.op, b8 q.rule] ++ if q.op = 1 ∨ q.op = 2 then be 4 q.cost ++ [b8 q.key.length] ++ q.key else if q.op = 4 then [b8 q.k] else []
def Req.bytes (q : Req) : List UInt8 := frame 0xA7 q.body
end Go.Proofs.Ytndekdafiaogmaa.Frame
end
