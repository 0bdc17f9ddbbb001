/- frame: bytes of one's own, numbers in bytes, requests and their bytes: no function of the program. -/
import Derived.Test.YtnhnmpgjbopihaaProg
import Derived.Test.YtnhnmpgjbopihaaLex
import Derived.Test.YtnhnmpgjbopihaaMem
import Derived.Test.YtnhnmpgjbopihaaHeld
import Derived.Test.YtnhnmpgjbopihaaOrd
import Derived.KernelRfl
import Derived.BigRegion
import Derived.Lib.Hide
import Derived.Deep.DeepMust
import Derived.Maps.AppendAt
import Derived.Lib.AppendStr
namespace Go.Proofs.Ytnhnmpgjbopihaa.Frame
open Go Go.RowKit Go.YtnhnmpgjbopihaaMem Go.YtnhnmpgjbopihaaLex
set_option linter.unusedVariables false
set_option linter.unusedSimpArgs false

theorem u8_info : ∃ i, Try.prog.info? 5 = some i ∧ i.zero = some (.int .u8 0) ∧ i.size = 1 ∧ i.bytes = 1 := info_parts (show (Try.prog.info? 5).map (fun i => (i.zero, i.size, i.bytes)) = some (some ((.int .u8 0)), 1, 1) by kernel_rfl)

/-- Bytes in a row of one's own, above block B. -/
def OwnB (w : World) (B : Nat) (v : Value) (bs : List UInt8) : Prop := w.ownsRow B 5 1 v bs.length (vb bs)
/-- A call gave back bytes of one's own: it wrote only where v lay, and in new blocks. -/
def Gave (w : World) (B : Nat) (v : Value) (bs : List UInt8) (e : Ending) (w' : World) : Prop :=
  ∃ v', e = .returned v' ∧ OwnB w' B v' bs ∧ Mod v.ownBlock.toList w w' ∧ ∀ b, v'.ownBlock = some b → v.ownBlock = some b ∨ w.heap.size ≤ b

theorem own_new {w : World} {B n : Nat} (bs : List UInt8) (cs : Array Value) (hc : cs.toList = vb bs) (hB : B ≤ w.heap.size) (hn : w.heap.size = n) (hl : bs.length ≤ 1000000) :
    OwnB (w.alloc (.cells cs 5)) B (.slice (some ⟨n, 0, none⟩) bs.length bs.length) bs := by
  subst hn
  have hs : cs.size = bs.length := by rw [← Array.length_toList, hc, vb_length]
  have := World.ownsRow_lit (base := B) (e := 5) (size := 1) w cs bs.length hB (by unfold maxLen; omega) (by rw [hs, Nat.mul_one])
  unfold OwnB
  rw [← hc]; exact this

theorem OwnB.drew {w : World} {B : Nat} {v : Value} {bs : List UInt8} (h : OwnB w B v bs) : OwnB w.drew B v bs := h
theorem OwnB.alloc {w : World} {B : Nat} {v : Value} {bs : List UInt8} (h : OwnB w B v bs) (o : Obj) : OwnB (w.alloc o) B v bs := World.ownsRow.alloc h o
theorem OwnB.slice {w : World} {B : Nat} {v : Value} {bs : List UInt8} (h : OwnB w B v bs) : ∃ a c, v = .slice a bs.length c := own_slice h

section
variable {ops : Array Oper} {rest : List Oper} {o : Oper} {act : Act} {Q : Exit → Act → World → Prop} {w : World} {B : Nat} {v : Value} {bs : List UInt8}
/-- Bytes behind bytes of one's own. -/
theorem app_row (news : List UInt8) (ad : Addr) (c : Nat) (hown : OwnB w B v bs) (hgd : o.guard = none) (s x : Operand) (ho : o.op = .call { callee := .builtin .append, args := #[s, x], argTypes := #[22, 22] })
    (hs : act.eval s = v) (hx : act.eval x = .slice (some ad) news.length c) (hn : ∀ j u, (vb news)[j]? = some u → w.cell? (ad.add j) = some u) (hB : B ≤ w.heap.size) (hl : bs.length + news.length ≤ 1000000)
    (h : ∀ v' w', OwnB w' B v' (bs ++ news) → Mod v.ownBlock.toList w w' → (∀ b, v'.ownBlock = some b → v.ownBlock = some b ∨ b = w.heap.size) → wpList Try.prog ops Q rest (act.put o.dst v') w') : wpList Try.prog ops Q (o :: rest) act w := by
  obtain ⟨i0, hi, hz0, hz1, hz2⟩ := u8_info
  refine wpList_append_own_at w hgd s x 22 ho B 5 i0 (.int .u8 0) 1 1 Try.underlying22 hi hz0 hz1 hz2 rfl (by decide) v bs.length (vb bs) hs hown ad news.length c (vb news) hx (by simp) hn
    (fun x hx => by simp only [vb, List.mem_map] at hx; obtain ⟨y, _, rfl⟩ := hx; rfl) (by unfold maxLen; omega) (by omega) hB fun v' w' h1 h2 _ h4 => h v' w' ?_ (grown_mod (Mod.refl [] w) h2) fun b hb => ?_
  · unfold OwnB; rw [vb_append, List.length_append]; exact h1
  · rcases h4 with q | q
    · exact .inl (q ▸ hb)
    · rw [q] at hb; exact .inr (by simpa using hb.symm)
/-- One byte behind bytes of one's own: it lies in a block of its own. -/
theorem app_one (b : UInt8) (n : Nat) (z : Int) (hown : OwnB w B v bs) (hgd : o.guard = none) (s x : Operand) (ho : o.op = .call { callee := .builtin .append, args := #[s, x], argTypes := #[22, 22] })
    (hs : act.eval s = v) (hx : act.eval x = .slice (some ⟨n, 0, none⟩) 1 1) (hn : w.cell? ⟨n, 0, none⟩ = some (.int .u8 z)) (hz : z = b.toNat) (hB : B ≤ w.heap.size) (hl : bs.length ≤ 900000)
    (h : ∀ v' w', OwnB w' B v' (bs ++ [b]) → Mod v.ownBlock.toList w w' → (∀ b, v'.ownBlock = some b → v.ownBlock = some b ∨ b = w.heap.size) → wpList Try.prog ops Q rest (act.put o.dst v') w') : wpList Try.prog ops Q (o :: rest) act w :=
  app_row [b] ⟨n, 0, none⟩ 1 hown hgd s x ho hs hx (by subst hz; exact cells_one hn) hB (by simp; omega) h
/-- A text behind bytes of one's own. -/
theorem app_str (news : List UInt8) (hown : OwnB w B v bs) (hgd : o.guard = none) (s x : Operand) (ho : o.op = .call { callee := .builtin .append, args := #[s, x], argTypes := #[22, 9] })
    (hs : act.eval s = v) (hx : act.eval x = .string ⟨news.toArray⟩) (hB : B ≤ w.heap.size) (hl : bs.length + news.length ≤ 1000000)
    (h : ∀ v' w', OwnB w' B v' (bs ++ news) → Mod v.ownBlock.toList w w' → wpList Try.prog ops Q rest (act.put o.dst v') w') : wpList Try.prog ops Q (o :: rest) act w := by
  obtain ⟨i0, hi, hz0, hz1, hz2⟩ := u8_info
  have e : (ByteArray.mk news.toArray).size = news.length := by simp [ByteArray.size]
  refine Lib.wpList_append_own_string w hgd s x 22 9 ho B 5 i0 Try.underlying22 Try.underlying9 hi hz0 hz1 hz2 v bs.length (vb bs) hs hown _ hx (by rw [e]; unfold maxLen; omega) (by rw [e]; omega) hB
    fun v' w' h1 h2 _ => h v' w' ?_ (grown_mod (Mod.refl [] w) h2)
  rw [e] at h1
  unfold OwnB; rw [vb_append, List.length_append]
  exact h1
end

/-- A number in k bytes, the highest first. -/
def be (k x : Nat) : List UInt8 := (List.range k).map fun j => UInt8.ofNat (x / 256 ^ (k - 1 - j))
theorem be_length (k x : Nat) : (be k x).length = k := by simp [be]
theorem be_take {k x j : Nat} (h : j < k) : (be k x).take (j + 1) = (be k x).take j ++ [UInt8.ofNat (x / 256 ^ (k - 1 - j))] := by
  rw [List.take_succ_eq_append_getElem (by rw [be_length]; exact h)]
  simp [be]

theorem be_byte (x i : Nat) : (x : Int) / 2 ^ (8 * i) % 256 = ((UInt8.ofNat (x / 256 ^ i)).toNat : Int) := by
  rw [UInt8.toNat_ofNat', show (256 : Nat) = 2 ^ 8 from rfl, ← Nat.pow_mul]
  simp

/-- A whole frame: a sign, the version, how many bytes follow, these. -/
def frame (sign : UInt8) (bs : List UInt8) : List UInt8 := [sign, 1, UInt8.ofNat (bs.length / 256), UInt8.ofNat bs.length] ++ bs
/-- A call gave back new bytes. -/
def Fresh (w : World) (bs : List UInt8) (e : Ending) (w' : World) : Prop :=
  ∃ v', e = .returned v' ∧ OwnB w' w.heap.size v' bs ∧ Mod [] w w'

theorem len_byte (n : Nat) : ((n : Int) / 2 ^ 8 % 256 : Int) = ((UInt8.ofNat (n / 256)).toNat : Int) := by
  rw [UInt8.toNat_ofNat']; omega
theorem low_byte (n : Nat) : ((n : Int) % 256 : Int) = ((UInt8.ofNat n).toNat : Int) := by
  rw [UInt8.toNat_ofNat']; omega

/-! ### Requests -/

/-- The lowest byte of a number. -/
def b8 (x : Int) : UInt8 := UInt8.ofNat (x % 256).toNat
theorem b8_val (x : Int) : x % 256 = ((b8 x).toNat : Int) := by
  unfold b8; rw [UInt8.toNat_ofNat']; omega
structure Req where
  op : Int
  rule : Int
  cost : Nat
  key : List UInt8
  k : Int
def Req.val (q : Req) : Value := .agg #[.int .i64 q.op, .int .i64 q.rule, .int .u32 q.cost, .string ⟨q.key.toArray⟩, .int .i64 q.k]
def Req.cells (q : Req) : List Value := [.int .i64 q.op, .int .i64 q.rule, .int .u32 q.cost, .string ⟨q.key.toArray⟩, .int .i64 q.k]
def Req.body (q : Req) : List UInt8 :=
  [b8 q.op, b8 q.rule] ++ if q.op = 1 ∨ q.op = 2 then be 4 q.cost ++ [b8 q.key.length] ++ q.key else if q.op = 4 then [b8 q.k] else []
def Req.bytes (q : Req) : List UInt8 := frame 0xA7 q.body

theorem lit2 (x y : Int) : vb [b8 x, b8 y] = [.int .u8 (x % 256), .int .u8 (y % 256)] := by simp [vb, ← b8_val]
theorem lit1 (x : Int) : vb [b8 x] = [.int .u8 (x % 256)] := by simp [vb, ← b8_val]

end Go.Proofs.Ytnhnmpgjbopihaa.Frame
