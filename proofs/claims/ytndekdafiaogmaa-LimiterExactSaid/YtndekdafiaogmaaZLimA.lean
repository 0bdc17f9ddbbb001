/- limiter: a plain model of what it answers. | limiter: its memory; refuse, bounded, count, Totals, Resident, Mass, Top. | limiter: colder. | limiter: what a check keeps of its state. | limiter: resident: a key's cell, if it has one or gets one; the events. -/
import Derived.Test.YtndekdafiaogmaaZRing5
import Derived.Test.YtndekdafiaogmaaZCell
import Derived.Test.YtndekdafiaogmaaZPool
import Derived.Test.YtndekdafiaogmaaZSum
set_option linter.unusedSimpArgs false
set_option linter.unusedVariables false
section
namespace Go.Proofs.Ytndekdafiaogmaa.Lim
open Go Go.RowKit Go.YtndekdafiaogmaaMem Go.YtndekdafiaogmaaLex Go.Proofs.Ytndekdafiaogmaa.Hash Go.Proofs.Ytndekdafiaogmaa.Arith Go.Proofs.Ytndekdafiaogmaa.Index Go.Proofs.Ytndekdafiaogmaa.Cell Go.Proofs.Ytndekdafiaogmaa.Slot
open Go.Proofs.Ytndekdafiaogmaa.Pool (PS putP remP pairs)
open Go.Proofs.Ytndekdafiaogmaa.Ring (Rs estS addR waitS massS Small small_get leastV leastV_small)
open Go.Proofs.Ytndekdafiaogmaa.Sum (Ent OkE countE leastOf)
structure Cf where
 r : Rule
 R : List Row
 wd : Nat
 tr : Nat
structure Lm where
 pool : PS
 ring : Rs
 E : List Ent
 t : Int
 al : Int
 de : Int
 bad : Int
structure Ans where
 verdict : Int
 remaining : Int
 retry : Int
deriving DecidableEq
abbrev Ans.val (a : Ans) : Value := .agg #[.int .i64 a.verdict, .int .i64 a.remaining, .int .i64 a.retry]
structure Ev where
 key : List UInt8
 up : Bool
 at_ : Int
deriving DecidableEq
def Ev.cells (e : Ev) : List Value := [.int .i64 0, .string ⟨e.key.toArray⟩, .bool e.up, .int .i64 e.at_]
def refuse (r : Rule) (now held cost : Int) : Option Ans :=
 if cost < 1 ∨ r.burst < cost then some ⟨3, 0, 0⟩
 else if 4611686018427387904 ≤ now then some ⟨2, 0, 9223372036854775807⟩
 else if 0 < held then some ⟨2, 0, held⟩ else none
def bounded (r : Rule) (n : Int) : Int := min (max n 0) r.burst
def Lm.count (s : Lm) (v : Int) : Lm := if v = 1 then { s with al := s.al + 1 } else if v = 2 then { s with de := s.de + 1 } else { s with bad := s.bad + 1 }
def heft (c : Cf) (E : List Ent) (key : List UInt8) : Int := if (countE E key).2.2 then (countE E key).1 else leastOf c.tr E
def cold1 (c : Cf) (E : List Ent) (b : List UInt8 × Int × Bool) (x : List UInt8 × Cell) : List UInt8 × Int × Bool := if heft c E x.1 < b.2.1 then (x.1, heft c E x.1, true) else b
def coldS (c : Cf) (E : List Ent) (l : List (List UInt8 × Cell)) (key : List UInt8) : Option (List UInt8) :=
 if (countE E key).2.2 then
  let b := l.foldl (cold1 c E) ([], (countE E key).1 - (countE E key).2.1, false)
  if b.2.2 then some b.1 else none
 else none
def idleK (r : Rule) (now : Int) (l : List (List UInt8 × Cell)) : Option (List UInt8) := (l.find? fun x => x.2.idle r.pace now).map (·.1)
def victim (c : Cf) (s : Lm) (now : Int) (key : List UInt8) : Option (List UInt8) :=
 match idleK c.r now (pairs s.pool.S s.pool.C) with
 | some k => some k
 | none => coldS c s.E (pairs s.pool.S s.pool.C) key
def settleNew (c : Cf) (s : Lm) (now : Int) (key : List UInt8) : Option Nat × Lm :=
 let q := putP s.pool key (fresh now (estS c.R c.wd s.ring key))
 (q.1, { s with pool := q.2 })
def evict (c : Cf) (s : Lm) (now : Int) (out : List UInt8) : Lm :=
 { s with pool := (remP s.pool out).2.2, ring := addR c.R c.wd s.ring out ((remP s.pool out).1.bound c.r.pace now) }
def settle (c : Cf) (s : Lm) (now : Int) (key : List UInt8) : Option Nat × List Ev × Lm :=
 match placeOf s.pool.S key with
 | some i => (some i, [], s)
 | none =>
   if s.pool.fl = [] then
    match victim c s now key with
    | none => (none, [], s)
    | some out =>
      let q := settleNew c (evict c s now out) now key
      (q.1, [⟨out, false, now⟩, ⟨key, true, now⟩], q.2)
   else
    let q := settleNew c s now key
    (q.1, [⟨key, true, now⟩], q.2)
def cellAsk (r : Rule) (x : Cell) (now cost : Int) : Ans × Cell :=
 if cost ≤ x.room r.pace now then
  let y : Cell := { x with full := max x.full now + cost * r.pace.unit, used := x.used + cost }
  (⟨1, y.room r.pace now, 0⟩, y)
 else (⟨2, x.room r.pace now, x.wait r.pace now cost⟩, x)
def ringAsk (c : Cf) (x : Rs) (key : List UInt8) (cost : Int) : Ans × Rs :=
 if sum (estS c.R c.wd x key) cost ≤ c.r.limit then
  let y := addR c.R c.wd x key cost
  (⟨1, bounded c.r (c.r.limit - estS c.R c.wd y key), 0⟩, y)
 else (⟨2, bounded c.r (c.r.limit - estS c.R c.wd x key), waitS c.R c.wd x key cost⟩, x)
def Lm.to (s : Lm) (now : Int) : Lm := { s with ring := Ring.to s.ring now.toNat }
def Lm.offered (c : Cf) (s : Lm) (key : List UInt8) (cost : Int) : Lm := { s with E := (Sum.offer c.tr (s.E, s.t) key cost).1, t := (Sum.offer c.tr (s.E, s.t) key cost).2 }
def answer (c : Cf) (o : Option Nat) (s : Lm) (now : Int) (key : List UInt8) (cost : Int) : Ans × Lm :=
 match o with
 | some i =>
   let q := cellAsk c.r (s.pool.C.getD i .zero) now cost
   (q.1, { s with pool := { s.pool with C := s.pool.C.set i q.2 } })
 | none =>
   let q := ringAsk c s.ring key cost
   (q.1, { s with ring := q.2 })
def check (c : Cf) (s : Lm) (now held : Int) (key : List UInt8) (cost : Int) : Ans × List Ev × Lm :=
 match refuse c.r now held cost with
 | some a => (a, [], s.count a.verdict)
 | none =>
   let q := settle c ((s.to now).offered c key cost) now key
   let a := answer c q.1 q.2.2 now key cost
   (a.1, q.2.1, a.2.count a.1.verdict)
def peekC (c : Cf) (s : Lm) (now : Int) (key : List UInt8) : Option Cell :=
 match placeOf s.pool.S key with
 | some i => some (s.pool.C.getD i .zero)
 | none => if s.pool.fl = [] ∧ (idleK c.r now (pairs s.pool.S s.pool.C)).isNone then none else some (fresh now (estS c.R c.wd s.ring key))
def peekA (c : Cf) (s : Lm) (now : Int) (key : List UInt8) (cost : Int) : Ans :=
 let q := match peekC c s now key with
  | some x => (x.room c.r.pace now, x.wait c.r.pace now cost)
  | none => (bounded c.r (c.r.limit - estS c.R c.wd s.ring key), waitS c.R c.wd s.ring key cost)
 ⟨if 0 < q.2 then 2 else 1, q.1, q.2⟩
def peek (c : Cf) (s : Lm) (now held : Int) (key : List UInt8) (cost : Int) : Ans × Lm :=
 match refuse c.r now held cost with
 | some a => (a, s)
 | none => (peekA c (s.to now) now key cost, s.to now)
structure Cf.Ok (c : Cf) : Prop where
 limit : 1 ≤ c.r.limit ∧ c.r.limit ≤ 2147483648
 burst : 1 ≤ c.r.burst ∧ c.r.burst ≤ c.r.limit
 window : 1 ≤ c.r.window ∧ c.r.window ≤ 1099511627776
 good : Slot.Good c.R c.wd
 tr : 1 ≤ c.tr ∧ c.tr ≤ 64
 pace : c.r.burst * c.r.pace.unit ≤ 4398046511104 ∧ 1 ≤ c.r.pace.unit ∧ c.r.pace.unit ≤ 1099511627776
theorem Cf.Ok.tame {c : Cf} (h : c.Ok) {now : Int} (hn : 0 ≤ now ∧ now < 4611686018427387904) : Tame c.r.pace now := by
 obtain ⟨h1, h2, h3, h4, h5, h6⟩ := h
 exact ⟨h6.2, ⟨by show 0 ≤ c.r.window; omega, h3.2⟩, ⟨by show 0 ≤ c.r.burst; omega, h2.2⟩, ⟨by show 0 ≤ c.r.limit; omega, h1.2⟩, h6.1, hn⟩
structure CellIn (p : Pace) (K now : Int) (x : Cell) : Prop where
 full : 0 ≤ x.full ∧ x.full ≤ now + p.burst * p.unit
 since : 0 ≤ x.since ∧ x.since ≤ now
 carry : 0 ≤ x.carry ∧ x.carry ≤ 100 * K + 100
 used : 0 ≤ x.used ∧ x.used ≤ K
structure Inv (c : Cf) (s : Lm) (K : Nat) : Prop where
 big : K ≤ 4194304
 cells : ∀ x ∈ s.pool.C, CellIn c.r.pace K s.ring.now x
 len : s.pool.C.length = s.pool.S.length
 cnt : ∀ N ∈ s.ring.N, ∀ z ∈ N, (0 : Int) ≤ z ∧ z ≤ K
 sum : OkE c.tr s.E s.t
 now : s.ring.now < 4611686018427387904
 al : 0 ≤ s.al ∧ s.al ≤ K
 de : 0 ≤ s.de ∧ s.de ≤ K
 bad : 0 ≤ s.bad ∧ s.bad ≤ K
theorem CellIn.mild {p : Pace} {K now : Int} {x : Cell} (h : CellIn p K now x) (hp : Tame p now) (hK : K ≤ 4194304) : Mild x := by
 obtain ⟨h1, h2, h3, h4⟩ := h
 have := hp.all
 have := hp.now
 exact ⟨by omega, by omega, by omega, by omega⟩
theorem Inv.small {c : Cf} {s : Lm} {K : Nat} (h : Inv c s K) : Small s.ring := fun N hN z hz => by
 have := h.cnt N hN z hz
 have := h.big
 omega
end Go.Proofs.Ytndekdafiaogmaa.Lim
end
section
namespace Go.Proofs.Ytndekdafiaogmaa.Lim
open Go Go.RowKit Go.YtndekdafiaogmaaMem Go.YtndekdafiaogmaaLex Go.Proofs.Ytndekdafiaogmaa.Hash Go.Proofs.Ytndekdafiaogmaa.Arith Go.Proofs.Ytndekdafiaogmaa.Index Go.Proofs.Ytndekdafiaogmaa.Cell Go.Proofs.Ytndekdafiaogmaa.Slot
open Go.Proofs.Ytndekdafiaogmaa.Pool (PS putP remP pairs PB PoolAt)
open Go.Proofs.Ytndekdafiaogmaa.Ring (Rs RiB RingAt estS addR waitS massS Small small_get leastV leastV_small)
open Go.Proofs.Ytndekdafiaogmaa.Sum (Ent OkE SB SumAt countE leastOf)
structure LB where
 p : Nat
 P : PB
 Q : RiB
 S : SB
def LB.all (B : LB) : List Nat := B.p :: (B.P.all ++ (B.Q.own ++ B.S.all))
def limV (c : Cf) (B : LB) (s : Lm) : List Value :=
 [.int .i64 c.r.limit, .int .i64 c.r.window, .int .i64 c.r.burst, .int .i64 c.r.slots, .int .i64 c.r.cells, .int .i64 c.r.rows, .int .i64 c.r.width, .int .i64 c.r.track, .bool c.r.smooth,
  .int .i64 c.r.pace.unit, .int .i64 c.r.pace.window, .int .i64 c.r.pace.burst, .int .i64 c.r.pace.limit,
  .pointer (some ⟨B.P.p, 0, none⟩), .pointer (some ⟨B.Q.p, 0, none⟩), .pointer (some ⟨B.S.p, 0, none⟩),
  .int .i64 s.al, .int .i64 s.de, .int .i64 s.bad, .int .i64 0, .int .i64 0]
structure Apart (B : LB) : Prop where
 p : B.p ∉ B.P.all ∧ B.p ∉ B.Q.own ∧ B.p ∉ B.S.all
 PQ : ∀ b, b ∈ B.P.all → b ∉ B.Q.own
 PS : ∀ b, b ∈ B.P.all → b ∉ B.S.all
 QS : ∀ b, b ∈ B.Q.own → b ∉ B.S.all
 rb : B.Q.rb ≠ B.p ∧ B.Q.rb ∉ B.P.all ∧ B.Q.rb ∉ B.S.all
structure LimAt (w : World) (B : LB) (c : Cf) (s : Lm) : Prop where
 blk : Blk w B.p 86 (limV c B s)
 pool : Pool.At w B.P s.pool
 ring : RingAt w B.Q c.R c.wd s.ring
 sum : SumAt w B.S c.tr s.E s.t
 ap : Apart B
theorem all_p (B : LB) : B.p ∈ B.all := by simp [LB.all]
theorem all_P (B : LB) {b : Nat} (h : b ∈ B.P.all) : b ∈ B.all := by simp [LB.all, h]
theorem all_Q (B : LB) {b : Nat} (h : b ∈ B.Q.own) : b ∈ B.all := by simp [LB.all, h]
theorem all_S (B : LB) {b : Nat} (h : b ∈ B.S.all) : b ∈ B.all := by simp [LB.all, h]
theorem LimAt.mod {S : List Nat} {w w' : World} {B : LB} {c : Cf} {s : Lm} (h : LimAt w B c s) (hm : Mod S w w') (h0 : ∀ b, b ∈ B.all → b ∉ S) (h1 : B.Q.rb ∉ S) : LimAt w' B c s :=
 ⟨hm.blk h.blk (h0 _ (all_p B)), h.pool.mod hm (fun b hb => h0 b (all_P B hb)), h.ring.mod hm (fun b hb => h0 b (all_Q B hb)) h1, h.sum.mod hm (fun b hb => h0 b (all_S B hb)), h.ap⟩
theorem LimAt.mod0 {w w' : World} {B : LB} {c : Cf} {s : Lm} (h : LimAt w B c s) (hm : Mod [] w w') : LimAt w' B c s := h.mod hm (by simp) (by simp)
section
variable {w : World} {B : LB} {c : Cf} {s : Lm}
theorem LimAt.setPool {w' : World} {pool' : PS} (h : LimAt w B c s) (hp : Pool.At w' B.P pool') (hm : Mod B.P.all w w') : LimAt w' B c { s with pool := pool' } :=
 ⟨hm.blk h.blk h.ap.p.1, hp, h.ring.mod hm (fun b hb hb' => h.ap.PQ b hb' hb) h.ap.rb.2.1, h.sum.mod hm (fun b hb hb' => h.ap.PS b hb' hb), h.ap⟩
theorem LimAt.setRing {w' : World} {S : List Nat} {ring' : Rs} (h : LimAt w B c s) (hp : RingAt w' B.Q c.R c.wd ring') (hm : Mod S w w') (hS : ∀ b, b ∈ S → b ∈ B.Q.own) : LimAt w' B c { s with ring := ring' } :=
 ⟨hm.blk h.blk (fun hb => h.ap.p.2.1 (hS _ hb)), h.pool.mod hm (fun b hb hb' => h.ap.PQ b hb (hS _ hb')), hp, h.sum.mod hm (fun b hb hb' => h.ap.QS b (hS _ hb') hb), h.ap⟩
theorem LimAt.setSum {w' : World} {E' : List Ent} {t' : Int} (h : LimAt w B c s) (hp : SumAt w' B.S c.tr E' t') (hm : Mod B.S.all w w') : LimAt w' B c { s with E := E', t := t' } :=
 ⟨hm.blk h.blk h.ap.p.2.2, h.pool.mod hm (fun b hb hb' => h.ap.PS b hb hb'), h.ring.mod hm (fun b hb hb' => h.ap.QS b hb hb') h.ap.rb.2.2, hp, h.ap⟩
theorem LimAt.setOwn {i : Nat} {z : Int} (h : LimAt w B c s) {s' : Lm} (hs : limV c B s' = (limV c B s).set i (.int .i64 z)) (h1 : s'.pool = s.pool) (h2 : s'.ring = s.ring) (h3 : s'.E = s.E) (h4 : s'.t = s.t) : LimAt (w.setCell ⟨B.p, i, none⟩ (.int .i64 z)) B c s' := by
 have MS := (Mod.refl [B.p] w).setCell (p := ⟨B.p, i, none⟩) (.inl (by simp)) (.int .i64 z)
 refine ⟨?_, ?_, ?_, ?_, h.ap⟩
 ·rw [hs]; exact h.blk.set i _
 ·rw [h1]; exact h.pool.mod MS (fun b hb hb' => by simp at hb'; subst hb'; exact h.ap.p.1 hb)
 ·rw [h2]; exact h.ring.mod MS (fun b hb hb' => by simp at hb'; subst hb'; exact h.ap.p.2.1 hb) (by simpa using h.ap.rb.1)
 ·rw [h3, h4]; exact h.sum.mod MS (fun b hb hb' => by simp at hb'; subst hb'; exact h.ap.p.2.2 hb)
theorem info_size {t : TypeId} {P : Program} {z : Value} {n b : Nat} (h : (P.info? t).map (fun i => (i.zero, i.size, i.bytes)) = some (some z, n, b)) : (P.info? t).map (·.size) = some n := by
 obtain ⟨i, hi, _, hs, _⟩ := info_parts h
 rw [hi]; simp [hs]
theorem ans_info : (Try.prog.info? 39).map (fun i => (i.zero, i.size, i.bytes)) = some (some (.agg #[.int .i64 0, .int .i64 0, .int .i64 0]), 3, 24) := by kernel_rfl
theorem tot_info : (Try.prog.info? 49).map (fun i => (i.zero, i.size, i.bytes)) = some (some (.agg #[.int .i64 0, .int .i64 0, .int .i64 0, .int .i64 0, .int .i64 0]), 5, 40) := by kernel_rfl
def ansO (o : Option Ans) : Value := .tuple #[(o.getD ⟨0, 0, 0⟩).val, .bool o.isSome]
set_option maxRecDepth 4000 in
theorem refuse_any (h : LimAt w B c s) (now held cost : Int) :
  Calls Try.prog 34 #[.pointer (some ⟨B.p, 0, none⟩), .int .i64 now, .int .i64 held, .int .i64 cost] w fun e w' => e = .returned (ansO (refuse c.r now held cost)) ∧ Mod [] w w' := by
 have c2 := h.blk.cell (i := 2) rfl
 have hp := h.blk.lt
 have hpne : ¬ B.p = w.heap.size := by omega
 have hr : refuse c.r now held cost = if cost < 1 ∨ c.r.burst < cost then some ⟨3, 0, 0⟩ else if 4611686018427387904 ≤ now then some ⟨2, 0, 9223372036854775807⟩ else if 0 < held then some ⟨2, 0, held⟩ else none := rfl
 generalize refuse c.r now held cost = q at *
 generalize c.r.burst = bu at *
 have ZB := Lib.hid (fun (a b d : Int) => Blk.new w [.int .i64 a, .int .i64 b, .int .i64 d] 39)
 clear h
 by_cases h1 : cost < 1
 ·rw [if_pos (.inl h1)] at hr
  subst hr
  have d1 : decide (cost < 1) = true := by simp [h1]
  go_enter Try.func34, Try.ntmps34
  go_wp2_with fail
  exact bodyPost_ret (v := .tuple #[.agg #[.int .i64 3, .int .i64 0, .int .i64 0], .bool true]) (Pool.results_row_tmp (p := 8) (u := 9) (ty := 39) rfl _ _ w.heap.size 39 #[.int .i64 3, .int .i64 0, .int .i64 0] (0, 0) _ rfl (ZB.out 3 0 (0)) Try.underlying39 rfl (info_size ans_info)) rfl ⟨rfl, (Mod.refl [] w).alloc _⟩
 have d1 : decide (cost < 1) = false := by simp; omega
 by_cases h2 : bu < cost
 ·rw [if_pos (.inr h2)] at hr
  subst hr
  have d2 : decide (bu < cost) = true := by simp [h2]
  go_enter Try.func34, Try.ntmps34
  go_wp2_with fail
  exact bodyPost_ret (v := .tuple #[.agg #[.int .i64 3, .int .i64 0, .int .i64 0], .bool true]) (Pool.results_row_tmp (p := 8) (u := 9) (ty := 39) rfl _ _ w.heap.size 39 #[.int .i64 3, .int .i64 0, .int .i64 0] (0, 0) _ rfl (ZB.out 3 0 (0)) Try.underlying39 rfl (info_size ans_info)) rfl ⟨rfl, (Mod.refl [] w).alloc _⟩
 have d2 : decide (bu < cost) = false := by simp; omega
 rw [if_neg (by omega)] at hr
 by_cases h3 : 4611686018427387904 ≤ now
 ·rw [if_pos h3] at hr
  subst hr
  have d3 : decide ((4611686018427387904 : Int) ≤ now) = true := by simp [h3]
  go_enter Try.func34, Try.ntmps34
  go_wp2_with fail
  exact bodyPost_ret (v := .tuple #[.agg #[.int .i64 2, .int .i64 0, .int .i64 9223372036854775807], .bool true]) (Pool.results_row_tmp (p := 8) (u := 9) (ty := 39) rfl _ _ w.heap.size 39 #[.int .i64 2, .int .i64 0, .int .i64 9223372036854775807] (0, 0) _ rfl (ZB.out 2 0 (9223372036854775807)) Try.underlying39 rfl (info_size ans_info)) rfl ⟨rfl, (Mod.refl [] w).alloc _⟩
 have d3 : decide ((4611686018427387904 : Int) ≤ now) = false := by simp; omega
 rw [if_neg h3] at hr
 by_cases h4 : 0 < held
 ·rw [if_pos h4] at hr
  subst hr
  have d4 : decide (0 < held) = true := by simp [h4]
  go_enter Try.func34, Try.ntmps34
  go_wp2_with fail
  exact bodyPost_ret (v := .tuple #[.agg #[.int .i64 2, .int .i64 0, .int .i64 held], .bool true]) (Pool.results_row_tmp (p := 8) (u := 9) (ty := 39) rfl _ _ w.heap.size 39 #[.int .i64 2, .int .i64 0, .int .i64 held] (0, 0) _ rfl (ZB.out 2 0 (held)) Try.underlying39 rfl (info_size ans_info)) rfl ⟨rfl, (Mod.refl [] w).alloc _⟩
 have d4 : decide (0 < held) = false := by simp; omega
 rw [if_neg h4] at hr
 subst hr
 go_enter Try.func34, Try.ntmps34
 go_wp2_with fail
 exact bodyPost_ret (v := .tuple #[.agg #[.int .i64 0, .int .i64 0, .int .i64 0], .bool false]) (Pool.results_row_tmp (p := 8) (u := 9) (ty := 39) rfl _ _ w.heap.size 39 #[.int .i64 0, .int .i64 0, .int .i64 0] (0, 0) _ rfl (ZB.out 0 0 (0)) Try.underlying39 rfl (info_size ans_info)) rfl ⟨rfl, (Mod.refl [] w).alloc _⟩
theorem bounded_any (h : LimAt w B c s) (n : Int) :
  Calls Try.prog 46 #[.pointer (some ⟨B.p, 0, none⟩), .int .i64 n] w fun e w' => e = .returned (.int .i64 (bounded c.r n)) ∧ w = w' := by
 have c2 := h.blk.cell (i := 2) rfl
 have hb : bounded c.r n = min (max n 0) c.r.burst := rfl
 rw [hb]
 have m1 := max_run n 0
 have m2 := min_run (max n 0) c.r.burst
 generalize c.r.burst = bu at *
 obtain ⟨z1, hz1⟩ : ∃ z, max n 0 = z := ⟨_, rfl⟩
 rw [hz1] at m1 m2 ⊢
 obtain ⟨z2, hz2⟩ : ∃ z, min z1 bu = z := ⟨_, rfl⟩
 rw [hz2] at m2 ⊢
 clear h hb hz1 hz2
 go_enter Try.func46, Try.ntmps46
 go_wp2_with fail
 go_ret
 exact ⟨rfl, rfl⟩
structure Few (s : Lm) : Prop where
 al : 0 ≤ s.al ∧ s.al ≤ 4611686018427387904
 de : 0 ≤ s.de ∧ s.de ≤ 4611686018427387904
 bad : 0 ≤ s.bad ∧ s.bad ≤ 4611686018427387904
def VoidPost (B : LB) (S : List Nat) (c : Cf) (s : Lm) (w : World) (e : Ending) (w' : World) : Prop := (∃ v, e = .returned v) ∧ LimAt w' B c s ∧ Mod S w w'
theorem tally_any (h : LimAt w B c s) (hf : Few s) (v : Int) :
  Calls Try.prog 35 #[.pointer (some ⟨B.p, 0, none⟩), .int .i64 v] w (VoidPost B [B.p] c (s.count v) w) := by
 obtain ⟨f1, f2, f3⟩ := hf
 by_cases h1 : v = 1
 ·subst h1
  have c16 := h.blk.cell (i := 16) rfl
  have f16 := h.blk.free 16
  have HE := Lib.hid (show LimAt (w.setCell ⟨B.p, 16, none⟩ (.int .i64 (s.al + 1))) B c (s.count 1) from h.setOwn rfl rfl rfl rfl rfl)
  have MS := Lib.hid ((Mod.refl [B.p] w).setCell (p := ⟨B.p, 16, none⟩) (.inl (by simp)) (.int .i64 (s.al + 1)))
  generalize s.al = a at *
  clear h f2 f3
  go_enter Try.func35, Try.ntmps35
  go_wp2_with fail
  exact bodyPost_end (results_none rfl _ _ _) rfl ⟨⟨_, rfl⟩, HE.out, MS.out⟩
 by_cases h2 : v = 2
 ·subst h2
  have c16 := h.blk.cell (i := 17) rfl
  have f16 := h.blk.free 17
  have HE := Lib.hid (show LimAt (w.setCell ⟨B.p, 17, none⟩ (.int .i64 (s.de + 1))) B c (s.count 2) from h.setOwn rfl rfl rfl rfl rfl)
  have MS := Lib.hid ((Mod.refl [B.p] w).setCell (p := ⟨B.p, 17, none⟩) (.inl (by simp)) (.int .i64 (s.de + 1)))
  generalize s.de = a at *
  clear h f1 f3 h1
  go_enter Try.func35, Try.ntmps35
  go_wp2_with fail
  exact bodyPost_end (results_none rfl _ _ _) rfl ⟨⟨_, rfl⟩, HE.out, MS.out⟩
 have hc : s.count v = { s with bad := s.bad + 1 } := by unfold Lm.count; rw [if_neg h1, if_neg h2]
 rw [hc]
 have e1 : (v == 1) = false := by simp [h1]
 have e2 : (v == 2) = false := by simp [h2]
 have c16 := h.blk.cell (i := 18) rfl
 have f16 := h.blk.free 18
 have HE := Lib.hid (show LimAt (w.setCell ⟨B.p, 18, none⟩ (.int .i64 (s.bad + 1))) B c { s with bad := s.bad + 1 } from h.setOwn rfl rfl rfl rfl rfl)
 have MS := Lib.hid ((Mod.refl [B.p] w).setCell (p := ⟨B.p, 18, none⟩) (.inl (by simp)) (.int .i64 (s.bad + 1)))
 generalize s.bad = a at *
 clear h f1 f2 hc h1 h2
 go_enter Try.func35, Try.ntmps35
 go_wp2_with fail
 exact bodyPost_end (results_none rfl _ _ _) rfl ⟨⟨_, rfl⟩, HE.out, MS.out⟩
def totV (s : Lm) : Value := .agg #[.int .i64 s.al, .int .i64 s.de, .int .i64 s.bad, .int .i64 ((Keys.used s.pool.S : Nat) : Int), .int .i64 s.t]
set_option maxRecDepth 8000 in
theorem totals_any (h : LimAt w B c s) :
  Calls Try.prog 21 #[.pointer (some ⟨B.p, 0, none⟩)] w fun e w' => e = .returned (totV s) ∧ Mod [] w w' := by
 have hp := h.blk.lt
 have hpne : ¬ B.p = w.heap.size := by omega
 have hpne2 : ¬ B.p = w.heap.size + 1 := by omega
 have c13 := h.blk.cell (i := 13) rfl
 have c15 := h.blk.cell (i := 15) rfl
 have c16 := h.blk.cell (i := 16) rfl
 have c17 := h.blk.cell (i := 17) rfl
 have c18 := h.blk.cell (i := 18) rfl
 have c19 := h.blk.cell (i := 19) rfl
 have c20 := h.blk.cell (i := 20) rfl
 have LN := Lib.hid (fun W (hM : Mod [] w W) => Pool.len_any (h.pool.mod hM (by simp)))
 have TT := Lib.hid (fun W (hM : Mod [] w W) => Sum.total_any (h.sum.mod hM (by simp)))
 have hv : totV s = .agg #[.int .i64 s.al, .int .i64 s.de, .int .i64 s.bad, .int .i64 ((Keys.used s.pool.S : Nat) : Int), .int .i64 s.t] := rfl
 rw [hv]
 have IS := Lib.hid (show IsC ((w.alloc (.cells #[.int .i64 0, .int .i64 0, .int .i64 0, .int .i64 0, .int .i64 0] 49)).alloc (.cells #[.int .i64 s.al, .int .i64 s.de, .int .i64 s.bad, .int .i64 0, .int .i64 0] 49)).drew B.p from isC_of_cell (w := (w.alloc _).alloc _) (((h.blk.alloc _).alloc _).cell (i := 15) rfl))
 generalize s.al = al at *
 generalize s.de = de at *
 generalize s.bad = bad at *
 generalize Keys.used s.pool.S = us at *
 generalize s.t = t at *
 clear h hv
 go_enter Try.func21, Try.ntmps21
 go_wp2_with fail
 refine Go.YtndekdafiaogmaaLex.wp_region_held [5] [8] [] (by kernel_rfl) (by kernel_rfl) ?_
 simp only [wpCut, List.take_succ_cons, List.take_zero, List.drop_succ_cons, List.drop_zero, List.cons_append, List.nil_append]
 go_wp2_with fail
 refine (LN.out _ (((Mod.refl [] w).alloc _).alloc _).drew).mono ?_
 rintro e1 w1 ⟨rfl, rfl⟩
 go_wp2_with fail
 refine ⟨Mod.refl _ _, ?_⟩
 go_wp2_with fail
 refine (TT.out _ (((Mod.refl [] w).alloc _).alloc _).drew).mono ?_
 rintro e2 w2 ⟨rfl, rfl⟩
 go_wp2_with fail
 refine ⟨by kernel_rfl, ⟨⟨by simp, IS.out⟩, trivial⟩, ?_⟩
 go_wp2_with fail
 have ZB := (Blk.new w [.int .i64 al, .int .i64 de, .int .i64 bad, .int .i64 (us : Int), .int .i64 t] 49).alloc (.cells #[.int .i64 al, .int .i64 de, .int .i64 bad, .int .i64 (us : Int), .int .i64 t] 49)
 exact bodyPost_ret (v := .agg #[.int .i64 al, .int .i64 de, .int .i64 bad, .int .i64 (us : Int), .int .i64 t]) (results_cell_row (p := 2) (ty := 49) rfl _ _ w.heap.size 49 #[.int .i64 al, .int .i64 de, .int .i64 bad, .int .i64 (us : Int), .int .i64 t] (0, 0) _ rfl ZB Try.underlying49 rfl (info_size tot_info)) rfl ⟨rfl, (((Mod.refl [] w).alloc _).alloc _).drew⟩
theorem PoolAt.cellAt {w : World} {B : PB} {S : List (Option (List UInt8))} {fl : List Nat} {C : List Cell} (h : PoolAt w B S fl C) {key : List UInt8} {i : Nat} (hi : placeOf S key = some i) : CellAt w B.cb (i * 4) (C.getD i .zero) ∧ i < C.length := by
 have h1 : i < S.length := (List.getElem?_eq_some_iff.1 (placeOf_get hi)).1
 have h2 : i < C.length := by rw [h.len]; exact h1
 have hc : C[i]? = some (C.getD i .zero) := by rw [List.getD_eq_getElem?_getD, List.getElem?_eq_getElem h2]; rfl
 obtain ⟨x0, x1, x2, x3⟩ := Pool.cel4 h.cel hc
 exact ⟨⟨x0, x1, x2, x3, h.cel.free _, h.cel.free _⟩, h2⟩
end
end Go.Proofs.Ytndekdafiaogmaa.Lim
end
section
namespace Go.Proofs.Ytndekdafiaogmaa.Lim
open Go Go.RowKit Go.YtndekdafiaogmaaMem Go.YtndekdafiaogmaaLex Go.YtndekdafiaogmaaRange Go.Proofs.Ytndekdafiaogmaa.Hash Go.Proofs.Ytndekdafiaogmaa.Arith Go.Proofs.Ytndekdafiaogmaa.Index Go.Proofs.Ytndekdafiaogmaa.Cell Go.Proofs.Ytndekdafiaogmaa.Slot
open Go.Proofs.Ytndekdafiaogmaa.Pool (PS putP remP pairs pair1 PB PoolAt encP all_iter)
open Go.Proofs.Ytndekdafiaogmaa.Ring (Rs RiB RingAt estS addR waitS massS Small small_get leastV leastV_small)
open Go.Proofs.Ytndekdafiaogmaa.Sum (Ent OkE SB SumAt countE leastOf CountPost)
attribute [local go_sem] Oper.semAt_some
theorem pairs_mem {S : List (Option (List UInt8))} {C : List Cell} {x : List UInt8 × Cell} (hx : x ∈ pairs S C) : ∃ p : Nat, S[p]? = some (some x.1) ∧ C[p]? = some x.2 := by
 unfold pairs at hx
 obtain ⟨q, hq, hp⟩ := List.mem_filterMap.1 hx
 obtain ⟨p, hp2⟩ := List.getElem?_of_mem hq
 have hp3 := List.getElem?_zip_eq_some.1 hp2
 unfold pair1 at hp
 cases ho : q.1 with
 | none => rw [ho] at hp; cases hp
 | some k =>
   rw [ho] at hp
   simp at hp
   subst hp
   exact ⟨p, by rw [hp3.1, ho], hp3.2⟩
def coldB (c : Cf) (E : List Ent) (l : List (List UInt8 × Cell)) (key : List UInt8) : List UInt8 × Int × Bool := l.foldl (cold1 c E) ([], (countE E key).1 - (countE E key).2.1, false)
def coldR (c : Cf) (E : List Ent) (l : List (List UInt8 × Cell)) (key : List UInt8) : List UInt8 × Bool :=
 if (countE E key).2.2 then ((coldB c E l key).1, (coldB c E l key).2.2) else ([], false)
theorem coldS_eq (c : Cf) (E : List Ent) (l : List (List UInt8 × Cell)) (key : List UInt8) : coldS c E l key = if (coldR c E l key).2 then some (coldR c E l key).1 else none := by
 unfold coldS coldR
 by_cases h : (countE E key).2.2 = true
 ·rw [if_pos h, if_pos h]; rfl
 ·rw [if_neg h, if_neg h]; rfl
def ColdPost (r : List UInt8 × Bool) (w : World) (e : Ending) (w' : World) : Prop := e = .returned (.tuple #[.string ⟨r.1.toArray⟩, .bool r.2]) ∧ Mod [] w w'
theorem count_in {n : Nat} {E : List Ent} {t : Int} (h : OkE n E t) (key : List UInt8) : 0 ≤ (countE E key).2.1 ∧ (countE E key).2.1 ≤ (countE E key).1 ∧ (countE E key).1 ≤ 4611686018427387904 := by
 unfold countE
 cases hf : Sum.findE E key with
 | none => simp
 | some k =>
   obtain ⟨e, he, _⟩ := Sum.findE_get hf
   have hm := List.mem_of_getElem? he
   have h1 := h.pos e hm
   have h2 := h.each e hm
   have h3 := h.lt
   have hd : E.getD k default = e := Sum.getD_some he
   simp only [hd]
   omega
section
variable {w : World} {B : LB} {c : Cf} {s : Lm}
theorem pair_short (h : LimAt w B c s) {x : List UInt8 × Cell} (hx : x ∈ pairs s.pool.S s.pool.C) : x.1.length ≤ 64 := by
 obtain ⟨p, hp, _⟩ := pairs_mem hx
 exact h.pool.idx.short hp
set_option maxRecDepth 8000 in
set_option maxHeartbeats 3200000 in
theorem colder_any (h : LimAt w B c s) (ht : 1 ≤ c.tr ∧ c.tr ≤ 64) (ho : OkE c.tr s.E s.t) (key : List UInt8) (hl : key.length ≤ 1000000) :
  Calls Try.prog 70 #[.pointer (some ⟨B.p, 0, none⟩), .string ⟨key.toArray⟩] w (ColdPost (coldR c s.E (pairs s.pool.S s.pool.C) key) w) := by
 have hp0 := h.blk.lt
 have hpne : ¬ B.p = w.heap.size := by omega
 have HH := Lib.hid h
 have CO := Lib.hid (fun W (hM : Mod [] w W) (k : List UInt8) (hk : k.length ≤ 1000000) => Sum.count_any (h.sum.mod hM (by simp)) k hk)
 have LE := Lib.hid (fun W (hM : Mod [] w W) => Sum.least_any (h.sum.mod hM (by simp)) ht.1 ho.len)
 have CB : Hid (∀ W, Mod [] w W → W.cell? ⟨B.p, 13, none⟩ = some (.pointer (some ⟨B.P.p, 0, none⟩)) ∧ W.cell? ⟨B.p, 15, none⟩ = some (.pointer (some ⟨B.S.p, 0, none⟩))) := Lib.hid fun W hM => by
  have := hM.blk h.blk (by simp)
  exact ⟨this.cell (i := 13) rfl, this.cell (i := 15) rfl⟩
 have SH := Lib.hid (fun x (hx : x ∈ pairs s.pool.S s.pool.C) => pair_short h hx)
 have c15 := h.blk.cell (i := 15) rfl
 have CT := Lib.hid (CO.out (w.alloc (.cells #[.pointer (some ⟨B.p, 0, none⟩)] 31)) ((Mod.refl [] w).alloc _) key hl)
 obtain ⟨e1, e2, e3⟩ := count_in ho key
 obtain ⟨cn, hcn⟩ : ∃ cn, (countE s.E key).1 = cn := ⟨_, rfl⟩
 obtain ⟨ce, hce⟩ : ∃ ce, (countE s.E key).2.1 = ce := ⟨_, rfl⟩
 obtain ⟨ok, hok⟩ : ∃ ok, (countE s.E key).2.2 = ok := ⟨_, rfl⟩
 have hR : coldR c s.E (pairs s.pool.S s.pool.C) key = if ok = true then ((coldB c s.E (pairs s.pool.S s.pool.C) key).1, (coldB c s.E (pairs s.pool.S s.pool.C) key).2.2) else ([], false) := by unfold coldR; rw [hok]
 have hB : coldB c s.E (pairs s.pool.S s.pool.C) key = (pairs s.pool.S s.pool.C).foldl (cold1 c s.E) ([], cn - ce, false) := by unfold coldB; rw [hcn, hce]
 rw [hR]
 unfold CountPost at CT CO
 rw [hcn, hce, hok] at CT
 rw [hcn, hce] at e2
 rw [hce] at e1
 rw [hcn] at e3
 have hwr : wrap64 (cn - ce) = cn - ce := by unfold wrap64; omega
 have HIT := Lib.hid (fun W (hM : Mod [] w W) (S' : List Nat) (hS : ∀ b ∈ S', w.heap.size ≤ b) (bd : Nat) (hbd : W.heap.size ≤ bd) => all_iter (h.pool.mod hM (by simp)) (Kp := Under bd S') (fun A A' hA hK b hb => by
  have hlt := h.pool.lt b hb
  have := hM.size
  exact hK.block b (by omega) (fun hb' => by have := hS b hb'; omega)))
 have HE := Lib.hid (show ∀ k : List UInt8, heft c s.E k = if (countE s.E k).2.2 then (countE s.E k).1 else leastOf c.tr s.E from fun k => rfl)
 generalize pairs s.pool.S s.pool.C = xs at *
 have HB := Lib.hid hB
 have BX := Lib.hid (Blk.new w [.pointer (some ⟨B.p, 0, none⟩)] 31)
 have M0 := Lib.hid ((Mod.refl [] w).alloc (.cells #[.pointer (some ⟨B.p, 0, none⟩)] 31))
 clear h ho hcn hce hok hR hB e1 e2 e3
 unfold ColdPost
 refine calls_of_wp_marks Try.func70 rfl ?_
 simp only [Try.ntmps70, List.size_toArray, List.length_cons, List.length_nil, Nat.reduceAdd, Nat.reduceSub, Array.replicate_succ, Array.replicate_zero, List.push_toArray, List.append_toArray, List.nil_append, List.cons_append]
 cases ok with
 | false =>
   go_wp2_with fail
   refine (CT.out).mono ?_
   rintro x1 w1 ⟨rfl, hM1⟩
   have M1 := Lib.hid (M0.out.trans hM1)
   clear hM1
   go_wp2_with fail
   exact ⟨.tuple #[.string ⟨#[]⟩, .bool false], by simp [results, Try.results70, go_sem], rfl, M1.out⟩
 | true =>
   go_wp2_with fail
   refine (CT.out).mono ?_
   rintro x1 w1 ⟨rfl, hM1⟩
   have M1 := Lib.hid (M0.out.trans hM1)
   have BX1 := Lib.hid (hM1.blk BX.out (by simp))
   obtain ⟨a13, a15⟩ := CB.out w1 M1.out
   have bx := BX1.out.cell (i := 0) rfl
   have hbx := BX1.out.lt
   have hp1 : B.p < w1.heap.size := M1.out.lt hp0
   have q1 : ¬ B.p = w1.heap.size := by omega
   have q2 : ¬ B.p = w1.heap.size + 1 := by omega
   have q3 : ¬ B.p = w1.heap.size + 1 + 1 := by omega
   have q4 : ¬ w.heap.size = w1.heap.size := by omega
   have q5 : ¬ w.heap.size = w1.heap.size + 1 := by omega
   have q6 : ¬ w.heap.size = w1.heap.size + 1 + 1 := by omega
   have bx3 : (((w1.alloc (.cells #[.string ⟨#[]⟩] 9)).alloc (.cells #[.int .i64 (cn - ce)] 2)).alloc (.cells #[.bool false] 4)).cell? ⟨w.heap.size, 0, none⟩ = some (.pointer (some ⟨B.p, 0, none⟩)) := (((BX1.out.alloc _).alloc _).alloc _).cell (i := 0) rfl
   have a133 : (((w1.alloc (.cells #[.string ⟨#[]⟩] 9)).alloc (.cells #[.int .i64 (cn - ce)] 2)).alloc (.cells #[.bool false] 4)).cell? ⟨B.p, 13, none⟩ = some (.pointer (some ⟨B.P.p, 0, none⟩)) := (CB.out _ (((M1.out.alloc _).alloc _).alloc _)).1
   clear hM1
   go_wp2_with fail
   have hs2 : (((w1.alloc (.cells #[.string ⟨#[]⟩] 9)).alloc (.cells #[.int .i64 (cn - ce)] 2)).alloc (.cells #[.bool false] 4)).heap.size = w1.heap.size + 1 + 1 + 1 := by simp
   obtain ⟨w2, hw2⟩ : ∃ w2, (((w1.alloc (.cells #[.string ⟨#[]⟩] 9)).alloc (.cells #[.int .i64 (cn - ce)] 2)).alloc (.cells #[.bool false] 4)) = w2 := ⟨_, rfl⟩
   have X9 : Hid (Blk w2 w1.heap.size 9 [.string ⟨#[]⟩]) := Lib.hid (by rw [← hw2]; exact ((Blk.new w1 [.string ⟨#[]⟩] 9).alloc _).alloc _)
   have X10 : Hid (Blk w2 (w1.heap.size + 1) 2 [.int .i64 (cn - ce)]) := Lib.hid (by
    rw [← hw2]
    have := (Blk.new (w1.alloc (.cells #[.string ⟨#[]⟩] 9)) [.int .i64 (cn - ce)] 2).alloc (.cells #[.bool false] 4)
    rw [show (w1.alloc (.cells #[.string ⟨#[]⟩] 9)).heap.size = w1.heap.size + 1 by simp] at this
    exact this)
   have X11 : Hid (Blk w2 (w1.heap.size + 1 + 1) 4 [.bool false]) := Lib.hid (by
    rw [← hw2]
    have := Blk.new ((w1.alloc (.cells #[.string ⟨#[]⟩] 9)).alloc (.cells #[.int .i64 (cn - ce)] 2)) [.bool false] 4
    rw [show ((w1.alloc (.cells #[.string ⟨#[]⟩] 9)).alloc (.cells #[.int .i64 (cn - ce)] 2)).heap.size = w1.heap.size + 1 + 1 by simp] at this
    exact this)
   have M2 : Hid (Mod [] w w2) := Lib.hid (by rw [← hw2]; exact ((M1.out.alloc _).alloc _).alloc _)
   have BX2 : Hid (Blk w2 w.heap.size 31 [.pointer (some ⟨B.p, 0, none⟩)]) := Lib.hid (by rw [← hw2]; exact ((BX1.out.alloc _).alloc _).alloc _)
   rw [hw2] at hs2 ⊢
   clear hw2 a13 a15 bx bx3 a133 q1 q2 q3 q4 q5 q6 CT
   obtain ⟨s1, hs1⟩ : ∃ s1, w1.heap.size = s1 := ⟨_, rfl⟩
   rw [hs1] at hs2 X9 X10 X11 hp1 hbx ⊢
   refine wp_range (Kp := Under w2.heap.size [s1, s1 + 1, s1 + 1 + 1]) (encs := encP) (xs := xs) rfl (enters_of Try.func83 (by kernel_rfl) rfl)
    (HIT.out w2 M2.out [s1, s1 + 1, s1 + 1 + 1] (fun b hb => by simp at hb; omega) _ (Nat.le_refl _)) (fun h k => h.trans k) (fun h => h.mono (by simp)) (fun _ => rfl)
    (fun pre W => ∃ b, pre.foldl (cold1 c s.E) ([], cn - ce, false) = b ∧ Blk W s1 9 [.string ⟨b.1.toArray⟩] ∧ Blk W (s1 + 1) 2 [.int .i64 b.2.1] ∧ Blk W (s1 + 1 + 1) 4 [.bool b.2.2] ∧ Mod [s1, s1 + 1, s1 + 1 + 1] w2 W)
    (fun c pre W => False)
    ?hI ?hIx ⟨_, rfl, X9.out, X10.out, X11.out, Mod.refl _ _⟩ ?round ?done ?stop
   case hI =>
    rintro pre A B' ⟨b, h1, h2, h3, h4, h5⟩ hu
    exact ⟨b, h1, blk_under h2 hu (by omega), blk_under h3 hu (by omega), blk_under h4 hu (by omega), mod_under h5 hu⟩
   case hIx => exact fun c pre A B' h hu => h
   case stop => exact fun D c pre x post W hD hx h => h.elim
   case round =>
    rintro l pre x W hl1 hl2 ⟨b, hb, h9, h10, h11, hM⟩ ⟨post, hx⟩
    have MW := Lib.hid hM
    have HX9 := Lib.hid h9
    have HX10 := Lib.hid h10
    have HX11 := Lib.hid h11
    have hxm : x ∈ xs := by rw [hx]; simp
    have hx64 := SH.out x hxm
    have HEK := Lib.hid (HE.out x.1)
    have HBB := Lib.hid hb
    obtain ⟨k, cl⟩ := x
    simp only at hx64 HEK
    have CK := Lib.hid (fun W' hM' => CO.out W' hM' k (by omega))
    obtain ⟨kn, hkn⟩ : ∃ kn, (countE s.E k).1 = kn := ⟨_, rfl⟩
    obtain ⟨ke, hke⟩ : ∃ ke, (countE s.E k).2.1 = ke := ⟨_, rfl⟩
    obtain ⟨is, his⟩ : ∃ is, (countE s.E k).2.2 = is := ⟨_, rfl⟩
    rw [hkn, hke, his] at CK
    rw [hkn, his] at HEK
    obtain ⟨bk, bl, bf⟩ := b
    simp only at HX9 HX10 HX11
    have hWs := hM.size
    clear hM h9 h10 h11 hx hxm hx64 hkn hke his hb
    gi_wp2
    refine ⟨Over.refl _ _, Under.refl _ _ _, fun o => ?_⟩
    obtain ⟨W2, hW2⟩ : ∃ W2, W.putObj l o = W2 := ⟨_, rfl⟩
    have P2 : Hid (Mod [l] W W2) := Lib.hid (by rw [← hW2]; exact mod_putObj _ _ _)
    have MW2 : Hid (Mod [s1, s1 + 1, s1 + 1 + 1] w2 W2) := Lib.hid (MW.out.trans' P2.out (fun b hb => .inr (by simp at hb; omega)))
    have M02 : Hid (Mod [] w W2) := Lib.hid (M2.out.trans' MW2.out (fun b hb => .inr (by simp at hb; omega)))
    have Y9 := Lib.hid (P2.out.blk HX9.out (by simp; omega))
    have Y10 := Lib.hid (P2.out.blk HX10.out (by simp; omega))
    have Y11 := Lib.hid (P2.out.blk HX11.out (by simp; omega))
    have YB := Lib.hid (MW2.out.blk BX2.out (by simp; omega))
    rw [hW2]
    clear hW2
    have yb := YB.out.cell (i := 0) rfl
    obtain ⟨y13, y15⟩ := CB.out W2 M02.out
    gi_wp2
    refine ⟨trivial, CallsIn.inRound l ((callsIn_wide.2 (CK.out W2 M02.out)).mono ?_)⟩
    rintro e3 w3 ⟨rfl, hM3⟩
    have M03 := Lib.hid (M02.out.trans hM3)
    have Z9 := Lib.hid (hM3.blk Y9.out (by simp))
    have Z10 := Lib.hid (hM3.blk Y10.out (by simp))
    have Z11 := Lib.hid (hM3.blk Y11.out (by simp))
    have ZB := Lib.hid (hM3.blk YB.out (by simp))
    have M3 := Lib.hid (MW2.out.trans (hM3.mono (S' := [s1, s1 + 1, s1 + 1 + 1]) (by simp)))
    have N3 := Lib.hid hM3
    have hs3 := MW2.out.size
    have hz3 := hM3.size
    have z9 := Z9.out.cell (i := 0) rfl
    have z10 := Z10.out.cell (i := 0) rfl
    have z11 := Z11.out.cell (i := 0) rfl
    have g9 := Z9.out.free 0
    have g10 := Z10.out.free 0
    have g11 := Z11.out.free 0
    have zb := ZB.out.cell (i := 0) rfl
    clear yb y13 y15 hM3
    obtain ⟨y13, y15⟩ := CB.out w3 M03.out
    have FD : Hid ((pre ++ [(k, cl)]).foldl (cold1 c s.E) ([], cn - ce, false) = if heft c s.E k < bl then (k, heft c s.E k, true) else (bk, bl, bf)) := Lib.hid (by rw [List.foldl_append, HBB.out]; rfl)
    have ST : Hid (∀ z : Int, ∃ W4, ((w3.setCell ⟨s1, 0, none⟩ (.string ⟨k.toArray⟩)).setCell ⟨s1 + 1, 0, none⟩ (.int .i64 z)).setCell ⟨s1 + 1 + 1, 0, none⟩ (.bool true) = W4 ∧ Blk W4 s1 9 [.string ⟨k.toArray⟩] ∧ Blk W4 (s1 + 1) 2 [.int .i64 z] ∧ Blk W4 (s1 + 1 + 1) 4 [.bool true] ∧ Mod [s1, s1 + 1, s1 + 1 + 1] w3 W4) := Lib.hid fun z =>
     ⟨_, rfl, ((Z9.out.set 0 _).other (a := ⟨s1 + 1, 0, none⟩) (by simp) _).other (a := ⟨s1 + 1 + 1, 0, none⟩) (by simp; omega) _,
      ((Z10.out.other (a := ⟨s1, 0, none⟩) (by simp) _).set 0 _).other (a := ⟨s1 + 1 + 1, 0, none⟩) (by simp) _,
      ((Z11.out.other (a := ⟨s1, 0, none⟩) (by simp; omega) _).other (a := ⟨s1 + 1, 0, none⟩) (by simp) _).set 0 _,
      (((Mod.refl [s1, s1 + 1, s1 + 1 + 1] w3).setCell (p := ⟨s1, 0, none⟩) (.inl (by simp)) _).setCell (p := ⟨s1 + 1, 0, none⟩) (.inl (by simp)) _).setCell (p := ⟨s1 + 1 + 1, 0, none⟩) (.inl (by simp)) _⟩
    have NO : Hid (Over w2.heap.size W2 w3 ∧ Under w2.heap.size [s1, s1 + 1, s1 + 1 + 1] W2 w3) := Lib.hid ⟨Over.of_mod N3.out (by simp), (Under.of_mod N3.out hs3).mono (by simp)⟩
    cases is with
    | true =>
      rw [if_pos rfl] at HEK
      rw [HEK.out] at FD
      by_cases hlt : kn < bl
      ·have d1 : decide (kn < bl) = true := by simp [hlt]
       rw [if_pos hlt] at FD
       obtain ⟨W4, hW4, b9, b10, b11, bM⟩ := ST.out kn
       have HW4 := Lib.hid hW4
       have B9 := Lib.hid b9
       have B10 := Lib.hid b10
       have B11 := Lib.hid b11
       have BM := Lib.hid bM
       clear hW4 b9 b10 b11 bM
       gi_wp2
       rw [HW4.out]
       exact ⟨NO.out.1.trans (Over.of_mod BM.out (by simp; omega)), NO.out.2.trans (Under.of_mod BM.out (by omega)), _, FD.out, B9.out, B10.out, B11.out, M3.out.trans BM.out⟩
      ·have d1 : decide (kn < bl) = false := by simp; omega
       rw [if_neg hlt] at FD
       gi_wp2
       exact ⟨NO.out.1, NO.out.2, _, FD.out, Z9.out, Z10.out, Z11.out, M3.out⟩
    | false =>
      rw [if_neg (by simp)] at HEK
      rw [HEK.out] at FD
      have LL := Lib.hid (LE.out w3 M03.out)
      obtain ⟨le, hle⟩ : ∃ le, leastOf c.tr s.E = le := ⟨_, rfl⟩
      rw [hle] at LL FD
      clear hle
      gi_wp2
      refine ⟨trivial, CallsIn.inRound l ((callsIn_wide.2 LL.out).mono ?_)⟩
      rintro e4 w4 ⟨rfl, hM4⟩
      have V9 := Lib.hid (hM4.blk Z9.out (by simp))
      have V10 := Lib.hid (hM4.blk Z10.out (by simp))
      have V11 := Lib.hid (hM4.blk Z11.out (by simp))
      have M4 := Lib.hid (M3.out.trans (hM4.mono (S' := [s1, s1 + 1, s1 + 1 + 1]) (by simp)))
      have hz4 := hM4.size
      have NO4 : Hid (Over w2.heap.size W2 w4 ∧ Under w2.heap.size [s1, s1 + 1, s1 + 1 + 1] W2 w4) := Lib.hid ⟨NO.out.1.trans (Over.of_mod hM4 (by simp)), NO.out.2.trans ((Under.of_mod hM4 (by omega)).mono (by simp))⟩
      clear z9 z10 z11 g9 g10 g11 zb y13 y15 hM4
      have z9 := V9.out.cell (i := 0) rfl
      have z10 := V10.out.cell (i := 0) rfl
      have z11 := V11.out.cell (i := 0) rfl
      have g9 := V9.out.free 0
      have g10 := V10.out.free 0
      have g11 := V11.out.free 0
      have ST4 : Hid (∀ z : Int, ∃ W4, ((w4.setCell ⟨s1, 0, none⟩ (.string ⟨k.toArray⟩)).setCell ⟨s1 + 1, 0, none⟩ (.int .i64 z)).setCell ⟨s1 + 1 + 1, 0, none⟩ (.bool true) = W4 ∧ Blk W4 s1 9 [.string ⟨k.toArray⟩] ∧ Blk W4 (s1 + 1) 2 [.int .i64 z] ∧ Blk W4 (s1 + 1 + 1) 4 [.bool true] ∧ Mod [s1, s1 + 1, s1 + 1 + 1] w4 W4) := Lib.hid fun z =>
       ⟨_, rfl, ((V9.out.set 0 _).other (a := ⟨s1 + 1, 0, none⟩) (by simp) _).other (a := ⟨s1 + 1 + 1, 0, none⟩) (by simp; omega) _,
        ((V10.out.other (a := ⟨s1, 0, none⟩) (by simp) _).set 0 _).other (a := ⟨s1 + 1 + 1, 0, none⟩) (by simp) _,
        ((V11.out.other (a := ⟨s1, 0, none⟩) (by simp; omega) _).other (a := ⟨s1 + 1, 0, none⟩) (by simp) _).set 0 _,
        (((Mod.refl [s1, s1 + 1, s1 + 1 + 1] w4).setCell (p := ⟨s1, 0, none⟩) (.inl (by simp)) _).setCell (p := ⟨s1 + 1, 0, none⟩) (.inl (by simp)) _).setCell (p := ⟨s1 + 1 + 1, 0, none⟩) (.inl (by simp)) _⟩
      by_cases hlt : le < bl
      ·have d1 : decide (le < bl) = true := by simp [hlt]
       rw [if_pos hlt] at FD
       obtain ⟨W4, hW4, b9, b10, b11, bM⟩ := ST4.out le
       have HW4 := Lib.hid hW4
       have B9 := Lib.hid b9
       have B10 := Lib.hid b10
       have B11 := Lib.hid b11
       have BM := Lib.hid bM
       clear hW4 b9 b10 b11 bM
       gi_wp2
       rw [HW4.out]
       exact ⟨NO4.out.1.trans (Over.of_mod BM.out (by simp; omega)), NO4.out.2.trans (Under.of_mod BM.out (by omega)), _, FD.out, B9.out, B10.out, B11.out, M4.out.trans BM.out⟩
      ·have d1 : decide (le < bl) = false := by simp; omega
       rw [if_neg hlt] at FD
       gi_wp2
       exact ⟨NO4.out.1, NO4.out.2, _, FD.out, V9.out, V10.out, V11.out, M4.out⟩
   case done =>
    rintro D W hD ⟨b, hb, h9, h10, h11, hM⟩ hK
    have HBB := Lib.hid (HB.out.trans hb)
    have HX9 := Lib.hid h9
    have HX11 := Lib.hid h11
    have z9 := h9.cell (i := 0) rfl
    have z11 := h11.cell (i := 0) rfl
    have HK := Lib.hid hK
    have HM := Lib.hid hM
    obtain ⟨bk, bl, bf⟩ := b
    simp only at z9 z11
    clear hb h9 h10 h11 hM hK
    go_wp2_with fail
    refine Go.YtndekdafiaogmaaLex.wp_region_lex (by kernel_rfl) (by kernel_rfl) ?_
    go_wp2_with fail
    refine ⟨by kernel_rfl, ?_⟩
    go_wp2_with fail
    refine leave1 HK.out (v := .tuple #[.string ⟨bk.toArray⟩, .bool bf]) (by simp [results, Try.results70, go_sem]) ⟨by rw [HBB.out], ?_⟩
    exact putObj_mod ((M2.out.trans' HM.out (fun b hb => .inr (by simp at hb; omega))).drew) (D := D) (by omega) (.deferred none)
end
end Go.Proofs.Ytndekdafiaogmaa.Lim
end
section
namespace Go.Proofs.Ytndekdafiaogmaa.Lim
open Go Go.RowKit Go.YtndekdafiaogmaaMem Go.YtndekdafiaogmaaLex Go.Proofs.Ytndekdafiaogmaa.Hash Go.Proofs.Ytndekdafiaogmaa.Arith Go.Proofs.Ytndekdafiaogmaa.Index Go.Proofs.Ytndekdafiaogmaa.Cell Go.Proofs.Ytndekdafiaogmaa.Slot
open Go.Proofs.Ytndekdafiaogmaa.Pool (PS putP remP pairs)
open Go.Proofs.Ytndekdafiaogmaa.Ring (Rs estS addR waitS massS Small small_get leastV leastV_small fromTo fromS eldestS slotNo)
open Go.Proofs.Ytndekdafiaogmaa.Sum (Ent OkE countE leastOf)
def Upto (K : Nat) (N : List Int) : Prop := ∀ z ∈ N, (0 : Int) ≤ z ∧ z ≤ K
theorem Upto.mono {K L : Nat} {N : List Int} (h : Upto K N) (hk : K ≤ L) : Upto L N := fun z hz => by have := h z hz; omega
theorem Upto.zeros (K m : Nat) : Upto K (List.replicate m 0) := fun z hz => by rw [List.eq_of_mem_replicate hz]; omega
theorem Upto.getD {K : Nat} {x : Rs} (h : ∀ N ∈ x.N, Upto K N) (i : Nat) : Upto K (x.N.getD i []) := by
 rw [List.getD_eq_getElem?_getD]
 cases hN : x.N[i]? with
 | none => intro z hz; simp at hz
 | some N => exact h N (List.mem_of_getElem? hN)
theorem Upto.set {K : Nat} {N : List Int} (h : Upto K N) (p : Nat) {z : Int} (hz : 0 ≤ z ∧ z ≤ K) : Upto K (N.set p z) := fun y hy => by
 rcases List.mem_or_eq_of_mem_set hy with hy | rfl
 ·exact h y hy
 ·exact hz
section
variable {R : List Row} {wd K : Nat} {N : List Int}
theorem Upto.cnt (h : Upto K N) (row : Nat) (key : List UInt8) : 0 ≤ cntS R wd N row key ∧ cntS R wd N row key ≤ K := by
 unfold cntS
 rw [List.getD_eq_getElem?_getD]
 cases hz : N[idx R wd row key]? with
 | none => simp
 | some z => exact h z (List.mem_of_getElem? hz)
theorem Upto.leastTo (h : Upto K N) (key : List UInt8) : ∀ k, 0 ≤ leastTo R wd N key k ∧ leastTo R wd N key k ≤ K
 | 0 => h.cnt 0 key
 | k + 1 => by
   have h1 := Upto.leastTo h key k
   have h2 := h.cnt (R := R) (wd := wd) (k + 1) key
   unfold Slot.leastTo
   omega
theorem Upto.least (h : Upto K N) (key : List UInt8) : 0 ≤ leastS R wd N key ∧ leastS R wd N key ≤ K := h.leastTo key _
theorem Upto.addTo (h : Upto K N) (key : List UInt8) {want : Int} (hw : 0 ≤ want ∧ want ≤ K) : ∀ k, Upto K (Slot.addTo R wd key want k N)
 | 0 => h
 | k + 1 => by
   have ih := Upto.addTo h key hw k
   have hc := ih.cnt (R := R) (wd := wd) k key
   unfold Slot.addTo
   exact ih.set _ (by omega)
theorem Upto.addC {M : Nat} (h : Upto K N) (key : List UInt8) {cost : Int} (hc : cost ≤ M) (hK : K + M ≤ 1000000000000) : Upto (K + M) (addC R wd N key cost) := by
 unfold Slot.addC
 split
 ·exact h.mono (by omega)
 ·unfold addS
  have hl := h.least (R := R) (wd := wd) key
  rw [sum_in (by unfold I64; omega)]
  exact (h.mono (by omega)).addTo key (by omega) _
theorem addC_length (key : List UInt8) (cost : Int) : (Slot.addC R wd N key cost).length = N.length := by
 unfold Slot.addC
 split
 ·rfl
 ·exact addTo_length _ _ _ _ _ _
end
section
variable {R : List Row} {wd K : Nat} {x : Rs}
theorem addR_upto {M : Nat} (h : ∀ N ∈ x.N, Upto K N) (key : List UInt8) {cost : Int} (hc : cost ≤ M) (hK : K + M ≤ 1000000000000) : ∀ N ∈ (addR R wd x key cost).N, Upto (K + M) N := by
 intro N hN
 unfold addR at hN
 simp only at hN
 split at hN
 all_goals
  rcases List.mem_or_eq_of_mem_set hN with hN | rfl
  ·exact (h N hN).mono (by omega)
 ·exact (Upto.getD h _).addC key hc hK
 ·exact (Upto.zeros K _).addC key hc hK
theorem addR_now (key : List UInt8) (cost : Int) : (addR R wd x key cost).now = x.now := by unfold addR; simp only; split <;> rfl
theorem leastV_upto (h : ∀ N ∈ x.N, Upto K N) (key : List UInt8) (o : Option Nat) : 0 ≤ leastV R wd x key o ∧ leastV R wd x key o ≤ K := by
 cases o with
 | none => simp [leastV]
 | some i => exact (Upto.getD h i).least key
theorem up_most {m a c : Nat} (h : m ≤ a * c) : up m c ≤ a := by
 unfold up
 rcases Nat.eq_zero_or_pos c with rfl | hc
 ·have : m = 0 := by omega
  subst this; simp
 ·have h1 := Nat.div_add_mod m c
  have h2 : m / c ≤ a := Nat.div_le_of_le_mul (by rw [Nat.mul_comm]; exact h)
  split
  ·rcases Nat.lt_or_eq_of_le h2 with h3 | h3
   ·omega
   ·rw [h3, Nat.mul_comm] at h1; omega
  ·omega
theorem eldestS_upto {m : Int} (h0 : 0 ≤ m) (into : Nat) : 0 ≤ eldestS x m into ∧ eldestS x m into ≤ m := by
 unfold eldestS
 split
 ·have h1 : m.toNat * (x.width - into) ≤ m.toNat * x.width := Nat.mul_le_mul_left _ (by omega)
  have := up_most h1
  omega
 ·omega
theorem fromTo_upto (h : ∀ N ∈ x.N, Upto K N) (hK : K ≤ 1000000000000) (key : List UInt8) (n into : Nat) : ∀ k, k ≤ 1000 → 0 ≤ fromTo R wd x key n into k ∧ fromTo R wd x key n into k ≤ ((k * K : Nat) : Int)
 | 0, _ => by unfold fromTo; simp
 | k + 1, hk => by
   have ih := fromTo_upto h hK key n into k (by omega)
   have hl := leastV_upto (R := R) (wd := wd) h key (slotNo x ((n : Int) - (x.st.length : Int) + 1 + (k : Int)))
   have he := eldestS_upto (x := x) hl.1 into
   have hm : k * K ≤ 1000 * 1000000000000 := Nat.mul_le_mul (by omega) hK
   unfold fromTo
   simp only
   rw [Nat.add_mul, Nat.one_mul]
   split
   ·rw [sum_in (by unfold I64; omega)]; omega
   ·rw [sum_in (by unfold I64; omega)]; omega
theorem estS_upto (h : ∀ N ∈ x.N, Upto K N) (hK : K ≤ 1000000000000) (hf : x.st.length ≤ 65) (key : List UInt8) : 0 ≤ estS R wd x key ∧ estS R wd x key ≤ ((65 * K : Nat) : Int) := by
 have := fromTo_upto (R := R) (wd := wd) h hK key (x.now / x.width) (x.now % x.width) x.st.length (by omega)
 have h2 : x.st.length * K ≤ 65 * K := Nat.mul_le_mul_right _ hf
 unfold estS Ring.fromS
 omega
theorem addR_st (key : List UInt8) (cost : Int) : (addR R wd x key cost).st.length = x.st.length := by unfold addR; simp only; split <;> simp
end
section
variable {c : Cf} {s : Lm} {K : Nat}
theorem CellIn.mono {p : Pace} {K L now now' : Int} {x : Cell} (h : CellIn p K now x) (hK : K ≤ L) (hn : now ≤ now') : CellIn p L now' x := by
 obtain ⟨h1, h2, h3, h4⟩ := h
 exact ⟨by omega, by omega, by omega, by omega⟩
theorem Inv.mono {L : Nat} (h : Inv c s K) (hK : K ≤ L) (hL : L ≤ 4194304) : Inv c s L :=
 ⟨hL, fun x hx => (h.cells x hx).mono (by omega) (Int.le_refl _), h.len, fun N hN => Upto.mono (h.cnt N hN) hK, h.sum, h.now, by have := h.al; omega, by have := h.de; omega, by have := h.bad; omega⟩
theorem Inv.to (h : Inv c s K) {now : Nat} (hn : s.ring.now ≤ now) (hl : now < 4611686018427387904) : Inv c (s.to now) K ∧ (s.to (now : Int)).ring.now = now := by
 have e : (s.to (now : Int)).ring.now = now := by show max s.ring.now ((now : Int).toNat) = now; omega
 refine ⟨⟨h.big, fun x hx => ?_, h.len, h.cnt, h.sum, by rw [e]; exact hl, h.al, h.de, h.bad⟩, e⟩
 rw [e]
 exact (h.cells x hx).mono (Int.le_refl _) (by omega)
theorem Inv.offered (h : Inv c s K) (ht : 1 ≤ c.tr) (key : List UInt8) (cost : Int) : Inv c (s.offered c key cost) K :=
 ⟨h.big, h.cells, h.len, h.cnt, Sum.ok_offer (s := (s.E, s.t)) h.sum ht key cost, h.now, h.al, h.de, h.bad⟩
theorem bound_in {x : Cell} {p : Pace} {now : Int} (hl : 0 ≤ p.limit) (hu : 0 ≤ x.used) : 0 ≤ x.bound p now ∧ x.bound p now ≤ p.limit := by
 unfold Cell.bound
 split <;> omega
theorem remP_facts {p : Pace} {K n : Int} {s : PS} (h : ∀ x ∈ s.C, CellIn p K n x) (key : List UInt8) (hz : CellIn p K n .zero) : CellIn p K n (remP s key).1 ∧ (remP s key).2.2.C = s.C ∧ (remP s key).2.2.S.length = s.S.length := by
 unfold remP
 split
 ·refine ⟨?_, rfl, by simp⟩
  rename_i i _
  rw [List.getD_eq_getElem?_getD]
  cases hc : s.C[i]? with
  | none => exact hz
  | some x => exact h x (List.mem_of_getElem? hc)
 ·exact ⟨hz, rfl, rfl⟩
theorem zero_in {p : Pace} {K n : Int} (hp : 0 ≤ p.burst * p.unit) (hK : 0 ≤ K) (hn : 0 ≤ n) : CellIn p K n .zero := by
 refine ⟨?_, ?_, ?_, ?_⟩ <;> simp only [Cell.zero] <;> omega
theorem bu_pos (hc : c.Ok) : 0 ≤ c.r.pace.burst * c.r.pace.unit := Int.mul_nonneg (by have := hc.burst; show 0 ≤ c.r.burst; omega) (by have := hc.pace; omega)
theorem Inv.evict (h : Inv c s K) (hc : c.Ok) (out : List UInt8) (hK : K + c.r.limit.toNat ≤ 4194304) : Inv c (evict c s s.ring.now out) (K + c.r.limit.toNat) ∧ (evict c s s.ring.now out).ring.now = s.ring.now ∧ (evict c s s.ring.now out).ring.st.length = s.ring.st.length := by
 obtain ⟨f1, f2, f3⟩ := remP_facts h.cells out (zero_in (bu_pos hc) (by omega) (by omega))
 have hb := bound_in (x := (remP s.pool out).1) (p := c.r.pace) (now := s.ring.now) (by have := hc.limit; show 0 ≤ c.r.limit; omega) f1.used.1
 have e : (Lim.evict c s s.ring.now out).ring.now = s.ring.now := addR_now _ _
 refine ⟨⟨hK, fun x hx => ?_, ?_, ?_, h.sum, by rw [e]; exact h.now, by have := h.al; show 0 ≤ s.al ∧ s.al ≤ _; omega, by have := h.de; show 0 ≤ s.de ∧ s.de ≤ _; omega, by have := h.bad; show 0 ≤ s.bad ∧ s.bad ≤ _; omega⟩, e, addR_st _ _⟩
 ·rw [e]
  have hx' : x ∈ s.pool.C := by rw [← f2]; exact hx
  exact (h.cells x hx').mono (by omega) (Int.le_refl _)
 ·show (remP s.pool out).2.2.C.length = (remP s.pool out).2.2.S.length
  rw [f2, f3]; exact h.len
 ·exact addR_upto h.cnt out (by have : c.r.pace.limit = c.r.limit := rfl; omega) (by omega)
theorem putP_facts {s : PS} (key : List UInt8) (x : Cell) : (putP s key x).2.S.length = s.S.length ∧ (putP s key x).2.C.length = s.C.length ∧ ∀ y ∈ (putP s key x).2.C, y ∈ s.C ∨ y = x := by
 unfold putP
 split
 ·split
  ·exact ⟨by simp, by simp, fun y hy => List.mem_or_eq_of_mem_set hy⟩
  ·exact ⟨rfl, rfl, fun y hy => .inl hy⟩
 ·exact ⟨rfl, rfl, fun y hy => .inl hy⟩
theorem fresh_in (h : Inv c s K) (hc : c.Ok) (hf : s.ring.st.length ≤ 65) (key : List UInt8) : CellIn c.r.pace K s.ring.now (fresh s.ring.now (estS c.R c.wd s.ring key)) := by
 have h1 := bu_pos hc
 have h2 := estS_upto (R := c.R) (wd := c.wd) h.cnt (by have := h.big; omega) hf key
 refine ⟨?_, ?_, ?_, ?_⟩ <;> simp only [fresh] <;> omega
theorem Inv.settleNew (h : Inv c s K) (hc : c.Ok) (hf : s.ring.st.length ≤ 65) (key : List UInt8) : Inv c (settleNew c s s.ring.now key).2 K := by
 obtain ⟨g1, g2, g3⟩ := putP_facts (s := s.pool) key (fresh s.ring.now (estS c.R c.wd s.ring key))
 refine ⟨h.big, fun x hx => ?_, ?_, h.cnt, h.sum, h.now, h.al, h.de, h.bad⟩
 ·rcases g3 x hx with hx | rfl
  ·exact h.cells x hx
  ·exact fresh_in h hc hf key
 ·show (putP s.pool key _).2.C.length = (putP s.pool key _).2.S.length
  rw [g1, g2]; exact h.len
theorem Inv.settle (h : Inv c s K) (hc : c.Ok) (hf : s.ring.st.length ≤ 65) (key : List UInt8) (hK : K + c.r.limit.toNat ≤ 4194304) :
  Inv c (settle c s s.ring.now key).2.2 (K + c.r.limit.toNat) ∧ (settle c s s.ring.now key).2.2.ring.now = s.ring.now ∧ (settle c s s.ring.now key).2.2.ring.st.length = s.ring.st.length := by
 unfold Lim.settle
 split
 ·exact ⟨h.mono (by omega) hK, rfl, rfl⟩
 ·split
  ·split
   ·exact ⟨h.mono (by omega) hK, rfl, rfl⟩
   ·rename_i out _
    obtain ⟨e1, e2, e3⟩ := h.evict hc out hK
    have := Inv.settleNew e1 hc (by rw [e3]; exact hf) key
    rw [e2] at this
    exact ⟨this, e2, e3⟩
  ·exact ⟨(h.settleNew hc hf key).mono (by omega) hK, rfl, rfl⟩
theorem cellAsk_in {x : Cell} {cost : Int} (hc : c.Ok) {now : Nat} (hn : now < 4611686018427387904) (hx : CellIn c.r.pace K now x) (hcost : 1 ≤ cost ∧ cost ≤ c.r.burst) (hK : K ≤ 4194304) : CellIn c.r.pace (K + c.r.limit.toNat : Nat) now (cellAsk c.r x now cost).2 := by
 unfold cellAsk
 split
 ·rename_i hr
  obtain ⟨h1, h2, h3, h4⟩ := hx
  have ht := hc.tame (now := (now : Int)) (by omega)
  have hfr : cost ≤ x.free c.r.pace now := by
   unfold Cell.room at hr
   split at hr <;> omega
  have hb : c.r.pace.burst = c.r.burst := rfl
  have hu := ht.unit
  have hlim := hc.limit
  have hbl := hc.burst
  have hmul : cost * c.r.pace.unit ≤ c.r.pace.burst * c.r.pace.unit := Int.mul_le_mul_of_nonneg_right (by omega) (by omega)
  have hm0 : 0 ≤ cost * c.r.pace.unit := Int.mul_nonneg (by omega) (by omega)
  refine ⟨⟨by show 0 ≤ max x.full now + cost * c.r.pace.unit; omega, ?_⟩, h2, by show 0 ≤ x.carry ∧ x.carry ≤ _; omega, by show 0 ≤ x.used + cost ∧ x.used + cost ≤ _; omega⟩
  show max x.full now + cost * c.r.pace.unit ≤ now + c.r.pace.burst * c.r.pace.unit
  unfold Cell.free at hfr
  split at hfr
  ·rename_i ha
   split at hfr
   ·omega
   ·rename_i hb2
    rw [Int.tdiv_eq_ediv_of_nonneg (by omega)] at hfr
    have h5 : cost * c.r.pace.unit ≤ (c.r.pace.burst * c.r.pace.unit - (x.full - now)) / c.r.pace.unit * c.r.pace.unit := Int.mul_le_mul_of_nonneg_right hfr (by omega)
    have h6 := Int.ediv_mul_le (c.r.pace.burst * c.r.pace.unit - (x.full - now)) (show c.r.pace.unit ≠ 0 by omega)
    omega
  ·omega
 ·exact hx.mono (by omega) (Int.le_refl _)
theorem Inv.count (h : Inv c s K) (v : Int) (hK : K + 1 ≤ 4194304) : Inv c (s.count v) (K + 1) := by
 have h' := h.mono (L := K + 1) (by omega) hK
 have h1 := h.al
 have h2 := h.de
 have h3 := h.bad
 unfold Lm.count
 split
 ·exact ⟨h'.big, h'.cells, h'.len, h'.cnt, h'.sum, h'.now, by show 0 ≤ s.al + 1 ∧ s.al + 1 ≤ _; omega, h'.de, h'.bad⟩
 ·split
  ·exact ⟨h'.big, h'.cells, h'.len, h'.cnt, h'.sum, h'.now, h'.al, by show 0 ≤ s.de + 1 ∧ s.de + 1 ≤ _; omega, h'.bad⟩
  ·exact ⟨h'.big, h'.cells, h'.len, h'.cnt, h'.sum, h'.now, h'.al, h'.de, by show 0 ≤ s.bad + 1 ∧ s.bad + 1 ≤ _; omega⟩
theorem Inv.answer (h : Inv c s K) (hc : c.Ok) (o : Option Nat) (key : List UInt8) {cost : Int} (hcost : 1 ≤ cost ∧ cost ≤ c.r.burst) (hK : K + c.r.limit.toNat ≤ 4194304) :
  Inv c (answer c o s s.ring.now key cost).2 (K + c.r.limit.toNat) ∧ (answer c o s s.ring.now key cost).2.ring.now = s.ring.now := by
 have hm := h.mono (L := K + c.r.limit.toNat) (by omega) hK
 cases o with
 | some i =>
   refine ⟨⟨hm.big, fun x hx => ?_, ?_, hm.cnt, hm.sum, hm.now, hm.al, hm.de, hm.bad⟩, rfl⟩
   ·have hx' : x ∈ s.pool.C.set i (cellAsk c.r (s.pool.C.getD i .zero) s.ring.now cost).2 := hx
    rcases List.mem_or_eq_of_mem_set hx' with hx' | rfl
    ·exact hm.cells x hx'
    ·refine cellAsk_in hc h.now ?_ hcost h.big
     rw [List.getD_eq_getElem?_getD]
     cases hcc : s.pool.C[i]? with
     | none => exact zero_in (bu_pos hc) (by omega) (by omega)
     | some y => exact h.cells y (List.mem_of_getElem? hcc)
   ·show (s.pool.C.set i _).length = s.pool.S.length
    rw [List.length_set]; exact h.len
 | none =>
   show Inv c { s with ring := (ringAsk c s.ring key cost).2 } _ ∧ (ringAsk c s.ring key cost).2.now = _
   unfold ringAsk
   split
   ·have e : (addR c.R c.wd s.ring key cost).now = s.ring.now := addR_now _ _
    refine ⟨⟨hm.big, fun x hx => ?_, hm.len, addR_upto h.cnt key (by have := hc.burst; omega) (by omega), hm.sum, ?_, hm.al, hm.de, hm.bad⟩, e⟩
    ·show CellIn _ _ ((addR c.R c.wd s.ring key cost).now : Int) x
     rw [e]; exact hm.cells x hx
    ·show (addR c.R c.wd s.ring key cost).now < _
     rw [e]; exact h.now
   ·exact ⟨hm, rfl⟩
def Cf.step (c : Cf) : Nat := 2 * c.r.limit.toNat + 1
theorem Inv.check (h : Inv c s K) (hc : c.Ok) (hf : s.ring.st.length ≤ 65) {now : Nat} (hn : s.ring.now ≤ now) (held : Int) (key : List UInt8) (cost : Int) (hK : K + c.step ≤ 4194304) :
  Inv c (check c s now held key cost).2.2 (K + c.step) ∧ s.ring.now ≤ (check c s now held key cost).2.2.ring.now ∧ (check c s now held key cost).2.2.ring.now ≤ now := by
 unfold Cf.step at *
 unfold Lim.check
 cases hr : refuse c.r now held cost with
 | some a =>
   have := (h.count a.verdict (by omega)).mono (L := K + (2 * c.r.limit.toNat + 1)) (by omega) hK
   have e : (s.count a.verdict).ring = s.ring := by unfold Lm.count; split <;> first | rfl | (split <;> rfl)
   refine ⟨this, ?_, ?_⟩
   ·show _ ≤ (s.count a.verdict).ring.now; rw [e]; omega
   ·show (s.count a.verdict).ring.now ≤ _; rw [e]; omega
 | none =>
   simp only
   have hq : (1 ≤ cost ∧ cost ≤ c.r.burst) ∧ now < 4611686018427387904 := by
    unfold refuse at hr
    split at hr
    ·cases hr
    ·split at hr
     ·cases hr
     ·omega
   obtain ⟨t1, t2⟩ := h.to hn hq.2
   have t3 := t1.offered hc.tr.1 key cost
   have e0 : ((s.to (now : Int)).offered c key cost).ring.now = now := t2
   have e1 : ((s.to (now : Int)).offered c key cost).ring.st.length ≤ 65 := hf
   obtain ⟨u1, u2, u3⟩ := t3.settle hc e1 key (by omega)
   rw [e0] at u1 u2 u3
   generalize Lim.settle c ((s.to (now : Int)).offered c key cost) now key = q at *
   obtain ⟨v1, v2⟩ := u1.answer hc q.1 key hq.1 (by omega)
   rw [u2] at v1 v2
   have e : ∀ (x : Lm) (v : Int), (x.count v).ring = x.ring := fun x v => by unfold Lm.count; split <;> first | rfl | (split <;> rfl)
   refine ⟨(v1.count _ (by omega)).mono (by omega) hK, ?_, ?_⟩
   ·rw [e, v2]; omega
   ·rw [e, v2]; omega
end
end Go.Proofs.Ytndekdafiaogmaa.Lim
end
section
namespace Go.Proofs.Ytndekdafiaogmaa.Lim
open Go Go.RowKit Go.YtndekdafiaogmaaMem Go.YtndekdafiaogmaaLex Go.Proofs.Ytndekdafiaogmaa.Hash Go.Proofs.Ytndekdafiaogmaa.Arith Go.Proofs.Ytndekdafiaogmaa.Index Go.Proofs.Ytndekdafiaogmaa.Cell Go.Proofs.Ytndekdafiaogmaa.Slot
open Go.Proofs.Ytndekdafiaogmaa.Pool (PS putP remP pairs PB PoolAt firstIdle)
open Go.Proofs.Ytndekdafiaogmaa.Ring (Rs RiB RingAt estS addR waitS massS Small small_get leastV leastV_small)
open Go.Proofs.Ytndekdafiaogmaa.Sum (Ent OkE SB SumAt countE leastOf)
def flatEv (l : List Ev) : List Value := l.flatMap Ev.cells
theorem flatEv_snoc (l : List Ev) (q : Ev) : flatEv (l ++ [q]) = flatEv l ++ q.cells := by simp [flatEv]
theorem ev_info : ∃ i, Try.prog.info? 54 = some i ∧ i.zero = some (.agg #[.int .i64 0, .string ⟨#[]⟩, .bool false, .int .i64 0]) ∧ i.size = 4 ∧ i.bytes = 40 := info_parts (show (Try.prog.info? 54).map (fun i => (i.zero, i.size, i.bytes)) = some (some (.agg #[.int .i64 0, .string ⟨#[]⟩, .bool false, .int .i64 0]), 4, 40) by kernel_rfl)
def OwnE (w : World) (B : Nat) (v : Value) (l : List Ev) : Prop := w.ownsRow B 54 4 v l.length (flatEv l)
theorem OwnE.nil (w : World) (B : Nat) : OwnE w B (.slice none 0 0) [] := World.ownsRow_nil w B _ _
theorem OwnE.slice {w : World} {B : Nat} {v : Value} {l : List Ev} (h : OwnE w B v l) : ∃ a c, v = .slice a l.length c := own_slice h
theorem OwnE.mod {S : List Nat} {w w' : World} {B : Nat} {v : Value} {l : List Ev} (h : OwnE w B v l) (hm : Mod S w w') (hn : ∀ x, x ∈ S → x < B) : OwnE w' B v l :=
 hm.own h (fun b hb hx => by have := own_block h b hb; have := hn b hx; omega)
section
variable {ops : Array Oper} {rest : List Oper} {o : Oper} {act : Act} {Q : Exit → Act → World → Prop} {w : World} {B : Nat} {v : Value} {l : List Ev}
theorem app_ev (q : Ev) (n : Nat) (hown : OwnE w B v l) (hgd : o.guard = none) (s x : Operand) (ho : o.op = .call { callee := .builtin .append, args := #[s, x], argTypes := #[40, 40] })
  (hs : act.eval s = v) (hx : act.eval x = .slice (some ⟨n, 0, none⟩) 1 1) (hn : Blk w n 54 q.cells) (hB : B ≤ w.heap.size) (hl : l.length ≤ 900000)
  (h : ∀ v' w', OwnE w' B v' (l ++ [q]) → Mod v.ownBlock.toList w w' → wpList Try.prog ops Q rest (act.put o.dst v') w') : wpList Try.prog ops Q (o :: rest) act w := by
 obtain ⟨i0, hi, hz0, hz1, hz2⟩ := ev_info
 refine wpList_append_own_at w hgd s x 40 ho B 54 i0 _ 4 40 Try.underlying40 hi hz0 hz1 hz2 rfl (by decide) v l.length (flatEv l) hs hown ⟨n, 0, none⟩ 1 1 q.cells hx rfl (fun j u hu => by rw [add_eq, Nat.zero_add]; exact hn.cell hu)
  (fun x hx => by simp only [Ev.cells, List.mem_cons, List.not_mem_nil, or_false] at hx; rcases hx with rfl | rfl | rfl | rfl <;> rfl) (by unfold maxLen; omega) (by omega) hB fun v' w' h1 h2 _ h4 => h v' w' ?_ (grown_mod (Mod.refl [] w) h2)
 unfold OwnE; rw [flatEv_snoc, List.length_append]; exact h1
end
def SettlePost (B : LB) (c : Cf) (q : Option Nat × List Ev × Lm) (w : World) (e : Ending) (w' : World) : Prop :=
 ∃ v, e = .returned (.tuple #[Pool.cellAt B.P q.1, v]) ∧ OwnE w' w.heap.size v q.2.1 ∧ LimAt w' B c q.2.2 ∧ Mod B.all w w'
section
variable {w : World} {B : LB} {c : Cf} {s : Lm}
theorem ring_lt {x : Rs} {Q : RiB} {R : List Row} {wd : Nat} (h : RingAt w Q R wd x) : ∀ b, b ∈ Q.own → b < w.heap.size := by
 intro b hb
 simp only [RiB.own, List.mem_cons, List.mem_flatMap, List.not_mem_nil, or_false] at hb
 rcases hb with rfl | rfl | rfl | ⟨q, hq, hb⟩
 ·exact h.blk.lt
 ·exact h.slots.lt
 ·exact h.stamp.lt
 ·obtain ⟨i, hi⟩ := List.getElem?_of_mem hq
  have hl := (List.getElem?_eq_some_iff.1 hi).1
  have he := h.each i (by rw [← h.lenS]; exact hl)
  rw [Ring.sl_get hi] at he
  rcases hb with rfl | rfl
  ·exact he.blk.lt
  ·exact he.cnt.lt
theorem LimAt.lt (h : LimAt w B c s) : ∀ b, b ∈ B.all → b < w.heap.size := by
 intro b hb
 simp only [LB.all, List.mem_cons, List.mem_append] at hb
 rcases hb with rfl | hb | hb | hb
 ·exact h.blk.lt
 ·exact h.pool.lt b hb
 ·exact ring_lt h.ring b hb
 ·exact h.sum.lt b hb
set_option maxRecDepth 8000 in
set_option maxHeartbeats 3200000 in
theorem settle_free {K : Nat} (h : LimAt w B c s) (hi : Inv c s K) (hc : c.Ok) (key : List UInt8) (hl : key.length ≤ 1000000) (hp : placeOf s.pool.S key = none) (hf : s.pool.fl ≠ []) :
  Calls Try.prog 38 #[.pointer (some ⟨B.p, 0, none⟩), .int .i64 (s.ring.now : Int), .string ⟨key.toArray⟩] w (SettlePost B c (settle c s s.ring.now key) w) := by
 have hq : settle c s s.ring.now key = ((settleNew c s s.ring.now key).1, [⟨key, true, s.ring.now⟩], (settleNew c s s.ring.now key).2) := by
  unfold settle; rw [hp]; simp only; rw [if_neg hf]
 rw [hq]
 have hq2 : settleNew c s s.ring.now key = ((putP s.pool key (fresh s.ring.now (estS c.R c.wd s.ring key))).1, { s with pool := (putP s.pool key (fresh s.ring.now (estS c.R c.wd s.ring key))).2 }) := rfl
 rw [hq2]
 have hsm := hi.small
 have hcr := estS_upto (R := c.R) (wd := c.wd) hi.cnt (by have := hi.big; omega) h.ring.few.2 key
 have hearly := hi.now
 have hbig := hi.big
 have c13 := h.blk.cell (i := 13) rfl
 have c14 := h.blk.cell (i := 14) rfl
 have HH := Lib.hid h
 have FI := Lib.hid (Pool.find_any h.pool key hl)
 have FU := Lib.hid (fun W (hM : Mod [] w W) => Pool.full_any (h.pool.mod hM (by simp)))
 rw [hp] at FI
 rw [show decide (s.pool.fl = []) = false by simp [hf]] at FU
 have CB : Hid (∀ W, Mod [] w W → W.cell? ⟨B.p, 13, none⟩ = some (.pointer (some ⟨B.P.p, 0, none⟩)) ∧ W.cell? ⟨B.p, 14, none⟩ = some (.pointer (some ⟨B.Q.p, 0, none⟩))) := Lib.hid fun W hM => by
  have := hM.blk h.blk (by simp)
  exact ⟨this.cell (i := 13) rfl, this.cell (i := 14) rfl⟩
 have ES := Lib.hid (fun W (hM : Mod [] w W) => Ring.estimate_any (h.ring.mod hM (by simp) (by simp)) hsm key hl)
 have IS := Lib.hid (fun W (hM : Mod [] w W) => show IsC W B.p from isC_of_cell (w := W) ((hM.blk h.blk (by simp)).cell (i := 13) rfl))
 obtain ⟨now, hnow⟩ : ∃ now, s.ring.now = now := ⟨_, rfl⟩
 rw [hnow] at hearly ⊢
 obtain ⟨es, hes⟩ : ∃ es, estS c.R c.wd s.ring key = es := ⟨_, rfl⟩
 rw [hes] at ES hcr ⊢
 have NW := Lib.hid (fun W : World => Cell.new_any (now : Int) es W)
 have PU := Lib.hid (fun W (hM : Mod [] w W) => Pool.put_at (h.pool.mod hM (by simp)) key hl (fresh now es) (fresh_ok (by unfold I64; omega) (by unfold I64; omega)))
 obtain ⟨q, hqq⟩ : ∃ q, putP s.pool key (fresh now es) = q := ⟨_, rfl⟩
 rw [hqq] at PU ⊢
 simp only [fresh, Cell.val] at NW PU
 clear h hi hq hq2 hp hf hsm hnow hes hqq hcr
 go_enter Try.func38, Try.ntmps38
 go_wp2_with fail
 refine FI.out.mono ?_
 rintro e1 w1 ⟨rfl, hM1⟩
 rw [show Pool.cellAt B.P none = .pointer none from rfl]
 have M1 := Lib.hid hM1
 clear hM1
 obtain ⟨k13, k14⟩ := CB.out w1 M1.out
 go_wp2_with fail
 refine (FU.out _ M1.out).mono ?_
 rintro e2 w2 ⟨rfl, hM2⟩
 have M2 := Lib.hid (M1.out.trans hM2)
 clear hM2 k13 k14
 obtain ⟨k13, k14⟩ := CB.out w2 M2.out
 go_wp2_with fail
 refine Go.YtndekdafiaogmaaLex.wp_region_held [12, 1] [3] [] (by kernel_rfl) (by kernel_rfl) ?_
 simp only [wpCut, List.take_succ_cons, List.take_zero, List.drop_succ_cons, List.drop_zero, List.cons_append, List.nil_append]
 go_wp2_with fail
 refine (ES.out _ M2.out.drew).mono ?_
 rintro e3 w3 ⟨rfl, hM3⟩
 have N3 := Lib.hid hM3
 have M3 := Lib.hid (M2.out.drew.trans hM3)
 clear hM3
 go_wp2_with fail
 refine ⟨N3.out, ?_⟩
 go_wp2_with fail
 refine (NW.out _).mono ?_
 rintro e4 w4 ⟨rfl, hM4⟩
 have N4 := Lib.hid hM4
 have M4 := Lib.hid (M3.out.trans hM4)
 clear hM4
 simp only [fresh, Cell.val]
 go_wp2_with fail
 refine ⟨N3.out.trans N4.out, ?_⟩
 go_wp2_with fail
 refine (PU.out _ M4.out).mono ?_
 rintro e5 w5 ⟨rfl, hP5, hM5⟩
 have L5 : Hid (LimAt w5 B c { s with pool := q.2 }) := Lib.hid ((HH.out.mod0 M4.out).setPool hP5 hM5)
 have M5 : Hid (Mod B.all w w5) := Lib.hid ((M4.out.mono (by simp)).trans (hM5.mono (fun b hb => .inl (all_P B hb))))
 clear hP5 hM5
 go_wp2_with fail
 refine ⟨by kernel_rfl, ⟨⟨by simp, IS.out _ M2.out.drew⟩, trivial⟩, ?_⟩
 have hz := M5.out.size
 have HB := Lib.hid (Blk.new w5 (Ev.cells ⟨key, true, now⟩) 54)
 have OE := Lib.hid (OwnE.nil (w5.alloc (.cells #[.int .i64 0, .string ⟨key.toArray⟩, .bool true, .int .i64 now] 54)) w.heap.size)
 have hB : w.heap.size ≤ (w5.alloc (.cells #[.int .i64 0, .string ⟨key.toArray⟩, .bool true, .int .i64 now] 54)).heap.size := by simp; omega
 have MA := Lib.hid ((Mod.refl [] w5).alloc (.cells #[.int .i64 0, .string ⟨key.toArray⟩, .bool true, .int .i64 now] 54))
 go_wp2_with (at_builtin; go_must (refine app_ev ⟨key, true, now⟩ _ OE.out rfl _ _ rfl rfl rfl HB.out hB (by simp) ?_; intro v7 w7 ho7 hM7; have O7 := Lib.hid ho7; have M7 := Lib.hid (MA.out.trans hM7); clear ho7 hM7))
 go_wp2_with fail
 go_ret2
 exact ⟨v7, rfl, O7.out, L5.out.mod0 M7.out, M5.out.trans (M7.out.mono (by simp))⟩
end
end Go.Proofs.Ytndekdafiaogmaa.Lim
end
