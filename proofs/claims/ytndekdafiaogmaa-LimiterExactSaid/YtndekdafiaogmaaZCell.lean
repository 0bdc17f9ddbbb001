/- cell: cells; New, young, Idle, Of. | cell: Bound, Room. | cell: Wait, Take. | cell: Take. -/
import Derived.Test.YtndekdafiaogmaaZArith
import Derived.Laws.ResultCell
import Derived.Laws.Rows
import Derived.Test.YtndekdafiaogmaaZLow
import Derived.Deep.MidRow
set_option linter.unusedSimpArgs false
set_option linter.unusedVariables false
section
namespace Go.Proofs.Ytndekdafiaogmaa.Cell
open Go Go.RowKit Go.YtndekdafiaogmaaMem Go.YtndekdafiaogmaaLex Go.Proofs.Ytndekdafiaogmaa.Arith
structure Cell where
 full : Int
 since : Int
 carry : Int
 used : Int
def Cell.cells (c : Cell) : List Value := [.int .i64 c.full, .int .i64 c.since, .int .i64 c.carry, .int .i64 c.used]
def Cell.ok (c : Cell) : Prop := I64 c.full ∧ I64 c.since ∧ I64 c.carry ∧ I64 c.used
abbrev Cell.val (c : Cell) : Value := .agg #[.int .i64 c.full, .int .i64 c.since, .int .i64 c.carry, .int .i64 c.used]
structure Pace where
 unit : Int
 window : Int
 burst : Int
 limit : Int
abbrev Pace.val (p : Pace) : Value := .agg #[.int .i64 p.unit, .int .i64 p.window, .int .i64 p.burst, .int .i64 p.limit]
def Pace.ok (c : Pace) : Prop := I64 c.unit ∧ I64 c.window ∧ I64 c.burst ∧ I64 c.limit
def Cell.zero : Cell := ⟨0, 0, 0, 0⟩
def fresh (now carry : Int) : Cell := ⟨now, now, carry, 0⟩
theorem fresh_ok {now carry : Int} (h1 : I64 now) (h2 : I64 carry) : (fresh now carry).ok := ⟨h1, h1, h2, by unfold I64 fresh; simp⟩
theorem four_size {t : TypeId} {P : Program} {z : Value} {b : Nat} (h : (P.info? t).map (fun i => (i.zero, i.size, i.bytes)) = some (some z, 4, b)) : (P.info? t).map (·.size) = some 4 := by
 obtain ⟨i, hi, _, hs, _⟩ := info_parts h
 rw [hi]; simp [hs]
theorem cell_info : (Try.prog.info? 56).map (fun i => (i.zero, i.size, i.bytes)) = some (some (.agg #[.int .i64 0, .int .i64 0, .int .i64 0, .int .i64 0]), 4, 32) := by kernel_rfl
theorem pace_info : (Try.prog.info? 77).map (fun i => (i.zero, i.size, i.bytes)) = some (some (.agg #[.int .i64 0, .int .i64 0, .int .i64 0, .int .i64 0]), 4, 32) := by kernel_rfl
set_option maxRecDepth 4000 in
theorem new_any (now carry : Int) (w : World) : Calls Try.prog 55 #[.int .i64 now, .int .i64 carry] w fun e w' => e = .returned (fresh now carry).val ∧ Mod [] w w' := by
 have B0 := Lib.hid (Blk.new w [.int .i64 now, .int .i64 now, .int .i64 carry, .int .i64 0] 56)
 go_enter Try.func55, Try.ntmps55
 go_wp2_with fail
 refine bodyPost_ret (v := (fresh now carry).val) (results_cell_row (p := 4) (ty := 56) rfl _ _ w.heap.size 56 #[.int .i64 now, .int .i64 now, .int .i64 carry, .int .i64 0] (0, 0) _ rfl B0.out Try.underlying56 rfl (four_size cell_info)) rfl ⟨rfl, (Mod.refl [] w).alloc _⟩
def Cell.young (c : Cell) (p : Pace) (now : Int) : Bool := decide (now < sum c.since p.window)
set_option maxRecDepth 4000 in
theorem young_any (c : Cell) (p : Pace) (now : Int) (hc : c.ok) (hp : p.ok) (w : World) : Calls Try.prog 74 #[c.val, p.val, .int .i64 now] w fun e w' => e = .returned (.bool (c.young p now)) ∧ Mod [] w w' := by
 obtain ⟨c0, c1, c2, c3⟩ := c
 obtain ⟨p0, p1, p2, p3⟩ := p
 have S := Lib.hid (fun W : World => sum_any c1 p1 hc.2.1 hp.2.1 W)
 have hy : Cell.young ⟨c0, c1, c2, c3⟩ ⟨p0, p1, p2, p3⟩ now = decide (now < sum c1 p1) := rfl
 rw [hy]
 clear hy hc hp
 generalize sum c1 p1 = s at *
 simp only [Cell.val, Pace.val]
 go_enter Try.func74, Try.ntmps74
 go_wp2_with fail
 refine (S.out _).mono ?_
 rintro e1 w1 ⟨rfl, rfl⟩
 go_wp2_with fail
 go_ret
 exact ⟨rfl, ((Mod.refl [] w).alloc _).alloc _⟩
def Cell.idle (c : Cell) (p : Pace) (now : Int) : Bool := !c.young p now && decide (c.full ≤ now - p.window)
set_option maxRecDepth 4000 in
theorem idle_any (c : Cell) (p : Pace) (now : Int) (hc : c.ok) (hp : p.ok) (hn : I64 (now - p.window)) (w : World) : Calls Try.prog 84 #[c.val, p.val, .int .i64 now] w fun e w' => e = .returned (.bool (c.idle p now)) ∧ Mod [] w w' := by
 have Y := Lib.hid (fun W : World => young_any c p now hc hp W)
 have hi : c.idle p now = (!c.young p now && decide (c.full ≤ now - p.window)) := rfl
 rw [hi]
 have B0 := Lib.hid (Blk.new w c.cells 56)
 have hsz : (w.alloc (.cells c.cells.toArray 56)).heap.size = w.heap.size + 1 := by simp
 have B1 := Lib.hid ((Blk.new (w.alloc (.cells c.cells.toArray 56)) [.int .i64 p.unit, .int .i64 p.window, .int .i64 p.burst, .int .i64 p.limit] 77))
 rw [hsz] at B1
 have B0' := Lib.hid (B0.out.alloc (.cells [.int .i64 p.unit, .int .i64 p.window, .int .i64 p.burst, .int .i64 p.limit].toArray 77))
 have M0 := Lib.hid (((Mod.refl [] w).alloc (.cells c.cells.toArray 56)).alloc (.cells [.int .i64 p.unit, .int .i64 p.window, .int .i64 p.burst, .int .i64 p.limit].toArray 77))
 clear hc hp hi hsz B0
 generalize c.young p now = y at *
 obtain ⟨c0, c1, c2, c3⟩ := c
 obtain ⟨p0, p1, p2, p3⟩ := p
 simp only [Cell.val, Pace.val, Cell.cells] at *
 unfold I64 at hn
 go_enter Try.func84, Try.ntmps84
 go_wp2_with fail
 refine (Y.out _).mono ?_
 rintro e1 w1 ⟨rfl, hM1⟩
 have M1 := Lib.hid (M0.out.trans hM1)
 have k0 := (hM1.blk B0'.out (by simp)).cell (i := 0) rfl
 have k1 := (hM1.blk B1.out (by simp)).cell (i := 1) rfl
 clear hM1
 cases y
 all_goals go_wp2_with fail
 all_goals go_ret
 all_goals exact ⟨rfl, M1.out⟩
structure Rule where
 limit : Int
 window : Int
 burst : Int
 slots : Int
 cells : Int
 rows : Int
 width : Int
 track : Int
 smooth : Bool
def Rule.vals (r : Rule) : List Value := [.int .i64 r.limit, .int .i64 r.window, .int .i64 r.burst, .int .i64 r.slots, .int .i64 r.cells, .int .i64 r.rows, .int .i64 r.width, .int .i64 r.track, .bool r.smooth]
abbrev Rule.val (r : Rule) : Value := .agg #[.int .i64 r.limit, .int .i64 r.window, .int .i64 r.burst, .int .i64 r.slots, .int .i64 r.cells, .int .i64 r.rows, .int .i64 r.width, .int .i64 r.track, .bool r.smooth]
def Rule.pace (r : Rule) : Pace := ⟨ceil r.window (r.limit + 1 - r.burst), r.window, r.burst, r.limit⟩
set_option maxRecDepth 4000 in
theorem of_any (r : Rule) (hl : I64 r.limit) (hw : I64 r.window) (hb : I64 r.burst) (h0 : 0 ≤ r.window) (h1 : r.limit < 9223372036854775807) (h2 : 0 ≤ r.burst) (h3 : r.burst ≤ r.limit) (w : World) :
  Calls Try.prog 30 #[r.val] w fun e w' => e = .returned r.pace.val ∧ Mod [] w w' := by
 have B0 := Lib.hid (Blk.new w r.vals 29)
 have CE := Lib.hid (fun W : World => ceil_any r.window (r.limit + 1 - r.burst) hw (by unfold I64 at *; omega) h0 (by omega) W)
 have hp : r.pace = ⟨ceil r.window (r.limit + 1 - r.burst), r.window, r.burst, r.limit⟩ := rfl
 rw [hp]
 obtain ⟨limit, window, burst, slots, cells, rows, width, track, smooth⟩ := r
 simp only [Rule.vals, Rule.val, Pace.val] at *
 have k0 := B0.out.cell (i := 0) rfl
 have k1 := B0.out.cell (i := 1) rfl
 have k2 := B0.out.cell (i := 2) rfl
 generalize ceil window (limit + 1 - burst) = u at *
 have B1 := Lib.hid ((Blk.new (w.alloc (.cells [.int .i64 limit, .int .i64 window, .int .i64 burst, .int .i64 slots, .int .i64 cells, .int .i64 rows, .int .i64 width, .int .i64 track, .bool smooth].toArray 29)) [.int .i64 u, .int .i64 window, .int .i64 burst, .int .i64 limit] 77))
 unfold I64 at hl hw hb
 clear hp
 go_enter Try.func30, Try.ntmps30
 go_wp2_with fail
 refine Go.YtndekdafiaogmaaLex.wp_region_held [9] [10, 12, 14] [] (by kernel_rfl) (by kernel_rfl) ?_
 simp only [wpCut, List.take_succ_cons, List.take_zero, List.drop_succ_cons, List.drop_zero, List.cons_append, List.nil_append]
 go_wp2_with fail
 refine (CE.out _).mono ?_
 rintro e1 w1 ⟨rfl, rfl⟩
 go_wp2_with fail
 refine ⟨Mod.refl _ _, ?_⟩
 have isc : IsC ((w.alloc (.cells #[.int .i64 limit, .int .i64 window, .int .i64 burst, .int .i64 slots, .int .i64 cells, .int .i64 rows, .int .i64 width, .int .i64 track, .bool smooth] 29)).alloc (.cells #[.int .i64 0, .int .i64 0, .int .i64 0, .int .i64 0] 77)).drew w.heap.size := isC_of_cell (w := (w.alloc _).alloc _) ((B0.out.alloc _).cell (i := 0) rfl)
 have IS := Lib.hid isc
 clear isc
 go_wp2_with fail
 refine ⟨by kernel_rfl, ⟨⟨by simp, IS.out⟩, ⟨by simp, IS.out⟩, ⟨by simp, IS.out⟩, trivial⟩, ?_⟩
 go_wp2_with fail
 rw [show (w.alloc (.cells [.int .i64 limit, .int .i64 window, .int .i64 burst, .int .i64 slots, .int .i64 cells, .int .i64 rows, .int .i64 width, .int .i64 track, .bool smooth].toArray 29)).heap.size = w.heap.size + 1 by simp] at B1
 refine bodyPost_ret (v := .agg #[.int .i64 u, .int .i64 window, .int .i64 burst, .int .i64 limit]) (results_cell_row (p := 2) (ty := 77) rfl _ _ (w.heap.size + 1) 77 #[.int .i64 u, .int .i64 window, .int .i64 burst, .int .i64 limit] (0, 0) _ rfl B1.out Try.underlying77 rfl (four_size pace_info)) rfl ⟨rfl, (((Mod.refl [] w).alloc _).alloc _).drew⟩
end Go.Proofs.Ytndekdafiaogmaa.Cell
end
section
namespace Go.Proofs.Ytndekdafiaogmaa.Cell
open Go Go.RowKit Go.YtndekdafiaogmaaMem Go.YtndekdafiaogmaaLex Go.Proofs.Ytndekdafiaogmaa.Arith
structure Tame (p : Pace) (now : Int) : Prop where
 unit : 1 ≤ p.unit ∧ p.unit ≤ 1099511627776
 window : 0 ≤ p.window ∧ p.window ≤ 1099511627776
 burst : 0 ≤ p.burst ∧ p.burst ≤ p.limit
 limit : 0 ≤ p.limit ∧ p.limit ≤ 2147483648
 all : p.burst * p.unit ≤ 4398046511104
 now : 0 ≤ now ∧ now < 4611686018427387904
theorem Tame.ok {p : Pace} {now : Int} (h : Tame p now) : p.ok := by
 obtain ⟨h1, h2, h3, h4, h5, h6⟩ := h
 unfold Pace.ok I64; omega
structure Mild (c : Cell) : Prop where
 full : 0 ≤ c.full ∧ c.full ≤ 4611690416473899008
 since : 0 ≤ c.since ∧ c.since < 4611686018427387904
 carry : 0 ≤ c.carry ∧ c.carry ≤ 2305843009213693952
 used : 0 ≤ c.used ∧ c.used ≤ 2305843009213693952
theorem Mild.ok {c : Cell} (h : Mild c) : c.ok := by
 obtain ⟨h1, h2, h3, h4⟩ := h
 unfold Cell.ok I64; omega
theorem max_run (a b : Int) (w : World) : (Builtin.max_ #[2, 2] 2 #[.int .i64 a, .int .i64 b]).run Try.prog w = .ok (.int .i64 (max a b)) w := by
 show Result.ok (Value.int .i64 (if a < b then b else a)) w = _
 congr 2; omega
theorem min_run (a b : Int) (w : World) : (Builtin.min_ #[2, 2] 2 #[.int .i64 a, .int .i64 b]).run Try.prog w = .ok (.int .i64 (min a b)) w := by
 show Result.ok (Value.int .i64 (if b < a then b else a)) w = _
 congr 2; omega
def Cell.bound (c : Cell) (p : Pace) (now : Int) : Int := if c.young p now then min c.used p.limit else min (max ((c.full - (now - p.window)).tdiv p.unit) 0) p.limit
set_option maxRecDepth 8000 in
theorem bound_any (c : Cell) (p : Pace) (now : Int) (hc : Mild c) (hp : Tame p now) (w : World) : Calls Try.prog 72 #[c.val, p.val, .int .i64 now] w fun e w' => e = .returned (.int .i64 (c.bound p now)) ∧ Mod [] w w' := by
 have Y := Lib.hid (fun W : World => young_any c p now hc.ok hp.ok W)
 have hi : c.bound p now = if c.young p now then min c.used p.limit else min (max ((c.full - (now - p.window)).tdiv p.unit) 0) p.limit := rfl
 rw [hi]
 have B0 := Lib.hid (Blk.new w c.cells 56)
 have hsz : (w.alloc (.cells c.cells.toArray 56)).heap.size = w.heap.size + 1 := by simp
 have B1 := Lib.hid ((Blk.new (w.alloc (.cells c.cells.toArray 56)) [.int .i64 p.unit, .int .i64 p.window, .int .i64 p.burst, .int .i64 p.limit] 77))
 rw [hsz] at B1
 have B0' := Lib.hid (B0.out.alloc (.cells [.int .i64 p.unit, .int .i64 p.window, .int .i64 p.burst, .int .i64 p.limit].toArray 77))
 have M0 := Lib.hid (((Mod.refl [] w).alloc (.cells c.cells.toArray 56)).alloc (.cells [.int .i64 p.unit, .int .i64 p.window, .int .i64 p.burst, .int .i64 p.limit].toArray 77))
 obtain ⟨hf, hs, _, hu⟩ := hc
 obtain ⟨t1, t2, t3, t4, t5, t6⟩ := hp
 clear hi hsz B0
 generalize c.young p now = y at *
 obtain ⟨c0, c1, c2, c3⟩ := c
 obtain ⟨p0, p1, p2, p3⟩ := p
 simp only [Cell.val, Pace.val, Cell.cells] at *
 have hw1 : wrap64 (now - p1) = now - p1 := by unfold wrap64; omega
 have hw2 : wrap64 (c0 - (now - p1)) = c0 - (now - p1) := by unfold wrap64; omega
 obtain ⟨d, hd⟩ : ∃ d, c0 - (now - p1) = d := ⟨_, rfl⟩
 have hdb : -4611686018427387904 ≤ d ∧ d ≤ 4611691516000000000 := by omega
 have hp0 : ¬ p0 = 0 := by omega
 have hp1 : ¬ p0 = -1 := by omega
 have hq : -4611686018427387904 ≤ d.tdiv p0 ∧ d.tdiv p0 ≤ 4611691516000000000 := by
  have h1 : (d.tdiv p0).natAbs = d.natAbs / p0.natAbs := Int.natAbs_tdiv _ _
  have h2 : d.natAbs / p0.natAbs ≤ d.natAbs := Nat.div_le_self _ _
  rcases Int.le_total 0 d with h0 | h0
  ·have := Int.tdiv_nonneg h0 (show 0 ≤ p0 by omega)
   omega
  ·have := Int.tdiv_nonneg (show 0 ≤ -d by omega) (show 0 ≤ p0 by omega)
   rw [Int.neg_tdiv] at this
   omega
 rw [hd]
 rw [hd] at hw2
 obtain ⟨q, hqe⟩ : ∃ q, d.tdiv p0 = q := ⟨_, rfl⟩
 have hwq : wrap64 q = q := by rw [← hqe]; unfold wrap64; omega
 rw [hqe]
 have m1 := max_run q 0
 have m2 := min_run (max q 0) p3
 have m3 := min_run c3 p3
 obtain ⟨z1, hz1⟩ : ∃ z, max q 0 = z := ⟨_, rfl⟩
 rw [hz1] at m1 m2 ⊢
 obtain ⟨z2, hz2⟩ : ∃ z, min z1 p3 = z := ⟨_, rfl⟩
 rw [hz2] at m2 ⊢
 obtain ⟨z3, hz3⟩ : ∃ z, min c3 p3 = z := ⟨_, rfl⟩
 rw [hz3] at m3 ⊢
 clear hz1 hz2 hz3 hf hs hu t2 t3 t4 t5 hq
 go_enter Try.func72, Try.ntmps72
 go_wp2_with fail
 refine (Y.out _).mono ?_
 rintro e1 w1 ⟨rfl, hM1⟩
 have M1 := Lib.hid (M0.out.trans hM1)
 have k0 := (hM1.blk B0'.out (by simp)).cell (i := 0) rfl
 have k3 := (hM1.blk B0'.out (by simp)).cell (i := 3) rfl
 have j0 := (hM1.blk B1.out (by simp)).cell (i := 0) rfl
 have j1 := (hM1.blk B1.out (by simp)).cell (i := 1) rfl
 have j3 := (hM1.blk B1.out (by simp)).cell (i := 3) rfl
 clear hM1
 cases y
 ·go_wp2_with fail
  refine wp_region_lex (by kernel_rfl) (by kernel_rfl) ?_
  go_wp2_with fail
  refine ⟨by kernel_rfl, ?_⟩
  go_wp2_with fail
  go_ret
  exact ⟨rfl, M1.out.drew⟩
 ·go_wp2_with fail
  go_ret
  exact ⟨rfl, M1.out⟩
def Cell.free (c : Cell) (p : Pace) (now : Int) : Int := if 0 < c.full - now then (if p.burst * p.unit < c.full - now then 0 else (p.burst * p.unit - (c.full - now)).tdiv p.unit) else p.burst
def Cell.room (c : Cell) (p : Pace) (now : Int) : Int := if c.young p now then min (c.free p now) (max (p.limit - sum c.carry c.used) 0) else c.free p now
theorem free_in {c : Cell} {p : Pace} {now : Int} (hc : Mild c) (hp : Tame p now) : 0 ≤ c.free p now ∧ c.free p now ≤ p.burst := by
 obtain ⟨t1, t2, t3, t4, t5, t6⟩ := hp
 unfold Cell.free
 split
 ·split
  ·omega
  ·have h0 : 0 ≤ p.burst * p.unit - (c.full - now) := by omega
   rw [Int.tdiv_eq_ediv_of_nonneg h0]
   refine ⟨Int.ediv_nonneg h0 (by omega), ?_⟩
   have h1 : p.burst * p.unit - (c.full - now) ≤ p.burst * p.unit := by omega
   have h2 := Int.ediv_le_ediv (show 0 < p.unit by omega) h1
   rw [Int.mul_ediv_cancel _ (by omega)] at h2
   exact h2
 ·omega
set_option maxRecDepth 8000 in
set_option maxHeartbeats 1600000 in
theorem room_any (c : Cell) (p : Pace) (now : Int) (hc : Mild c) (hp : Tame p now) (w : World) : Calls Try.prog 41 #[c.val, p.val, .int .i64 now] w fun e w' => e = .returned (.int .i64 (c.room p now)) ∧ Mod [] w w' := by
 have Y := Lib.hid (fun W : World => young_any c p now hc.ok hp.ok W)
 have FI := free_in hc hp
 have hi : c.room p now = if c.young p now then min (c.free p now) (max (p.limit - sum c.carry c.used) 0) else c.free p now := rfl
 have hfr : c.free p now = if 0 < c.full - now then (if p.burst * p.unit < c.full - now then 0 else (p.burst * p.unit - (c.full - now)).tdiv p.unit) else p.burst := rfl
 rw [hi]
 have SM := Lib.hid (fun W : World => sum_any c.carry c.used hc.ok.2.2.1 hc.ok.2.2.2 W)
 have B0 := Lib.hid (Blk.new w c.cells 56)
 have hsz : (w.alloc (.cells c.cells.toArray 56)).heap.size = w.heap.size + 1 := by simp
 have B1 := Lib.hid ((Blk.new (w.alloc (.cells c.cells.toArray 56)) [.int .i64 p.unit, .int .i64 p.window, .int .i64 p.burst, .int .i64 p.limit] 77))
 rw [hsz] at B1
 have B0' := Lib.hid (B0.out.alloc (.cells [.int .i64 p.unit, .int .i64 p.window, .int .i64 p.burst, .int .i64 p.limit].toArray 77))
 have M0 := Lib.hid (((Mod.refl [] w).alloc (.cells c.cells.toArray 56)).alloc (.cells [.int .i64 p.unit, .int .i64 p.window, .int .i64 p.burst, .int .i64 p.limit].toArray 77))
 have hsum : sum c.carry c.used = c.carry + c.used := sum_in (by have h1 := hc.carry; have h2 := hc.used; unfold I64; omega)
 rw [hsum] at SM ⊢
 obtain ⟨hf, hs, hca, hu⟩ := hc
 obtain ⟨t1, t2, t3, t4, t5, t6⟩ := hp
 have hbu0 : 0 ≤ p.burst * p.unit := Int.mul_nonneg t3.1 (by omega)
 clear hi hsz B0
 generalize c.young p now = y at *
 generalize c.free p now = r at *
 obtain ⟨c0, c1, c2, c3⟩ := c
 obtain ⟨p0, p1, p2, p3⟩ := p
 simp only [Cell.val, Pace.val, Cell.cells] at *
 have hw1 : wrap64 (c0 - now) = c0 - now := by unfold wrap64; omega
 have hw2 : wrap64 (p2 * p0) = p2 * p0 := by unfold wrap64; omega
 obtain ⟨a, ha⟩ : ∃ a, c0 - now = a := ⟨_, rfl⟩
 rw [ha] at hw1 hfr
 obtain ⟨bu, hbu⟩ : ∃ bu, p2 * p0 = bu := ⟨_, rfl⟩
 rw [hbu] at hw2 hfr t5 hbu0
 have hab : -4611686018427387904 ≤ a ∧ a ≤ 4611690416473899008 := by omega
 have hw3 : wrap64 (bu - a) = bu - a := by unfold wrap64; omega
 obtain ⟨d, hd⟩ : ∃ d, bu - a = d := ⟨_, rfl⟩
 rw [hd] at hw3 hfr
 have hp0 : ¬ p0 = 0 := by omega
 have hp1 : ¬ p0 = -1 := by omega
 have hq : -4611691516000000000 ≤ d.tdiv p0 ∧ d.tdiv p0 ≤ 4611691516000000000 := by
  have h1 : (d.tdiv p0).natAbs = d.natAbs / p0.natAbs := Int.natAbs_tdiv _ _
  have h2 : d.natAbs / p0.natAbs ≤ d.natAbs := Nat.div_le_self _ _
  omega
 have hq0 : 0 ≤ d → 0 ≤ d.tdiv p0 := fun h => Int.tdiv_nonneg h (by omega)
 obtain ⟨q, hqe⟩ : ∃ q, d.tdiv p0 = q := ⟨_, rfl⟩
 have hwq : wrap64 q = q := by rw [← hqe]; unfold wrap64; omega
 rw [hqe] at hfr hq0
 have m1 := max_run q 0
 obtain ⟨z1, hz1⟩ : ∃ z, max q 0 = z := ⟨_, rfl⟩
 rw [hz1] at m1
 obtain ⟨cu, hcu⟩ : ∃ cu, c2 + c3 = cu := ⟨_, rfl⟩
 rw [hcu] at SM ⊢
 have hw4 : wrap64 (p3 - cu) = p3 - cu := by unfold wrap64; omega
 obtain ⟨l, hl⟩ : ∃ l, p3 - cu = l := ⟨_, rfl⟩
 rw [hl] at hw4 ⊢
 have m2 := max_run l 0
 obtain ⟨z2, hz2⟩ : ∃ z, max l 0 = z := ⟨_, rfl⟩
 rw [hz2] at m2 ⊢
 have m3 := min_run r z2
 obtain ⟨z3, hz3⟩ : ∃ z, min r z2 = z := ⟨_, rfl⟩
 rw [hz3] at m3 ⊢
 have HRV : Hid (0 < a → bu < a → r = 0) := Lib.hid fun h1 h2 => by rw [hfr, if_pos h1, if_pos h2]
 have HRB : Hid (0 < a → ¬ bu < a → r = z1) := Lib.hid fun h1 h2 => by rw [hfr, if_pos h1, if_neg h2, ← hz1]; have := hq0 (by omega); omega
 have HRA : Hid (¬ 0 < a → r = p2) := Lib.hid fun h1 => by rw [hfr, if_neg h1]
 clear hfr hz1 hz2 hz3 hf hs hu hca t1 t2 t3 t4 t5 t6 hq hq0 hcu FI hbu0
 by_cases h0 : 0 < a
 ·have d0 : decide (0 < a) = true := by simp [h0]
  by_cases h1 : bu < a
  ·have d1 : decide (bu < a) = true := by simp [h1]
   have hr := HRV.out h0 h1
   subst hr
   clear HRV HRB HRA
   go_enter Try.func41, Try.ntmps41
   go_wp2_with fail
   refine (Y.out _).mono ?_
   rintro e1 w1 ⟨rfl, hM1⟩
   have M1 := Lib.hid (M0.out.trans hM1)
   have k2 := (hM1.blk B0'.out (by simp)).cell (i := 2) rfl
   have k3 := (hM1.blk B0'.out (by simp)).cell (i := 3) rfl
   have j3 := (hM1.blk B1.out (by simp)).cell (i := 3) rfl
   have IS := Lib.hid (show IsC w1.drew (w.heap.size + 1) from isC_of_cell (w := w1) j3)
   clear hM1
   cases y
   ·go_wp2_with fail
    go_ret
    exact ⟨rfl, M1.out⟩
   ·go_wp2_with fail
    refine Go.YtndekdafiaogmaaLex.wp_region_held [8] [2] [] (by kernel_rfl) (by kernel_rfl) ?_
    simp only [wpCut, List.take_succ_cons, List.take_zero, List.drop_succ_cons, List.drop_zero, List.cons_append, List.nil_append]
    go_wp2_with fail
    refine (SM.out _).mono ?_
    rintro e2 w2 ⟨rfl, rfl⟩
    go_wp2_with fail
    refine ⟨Mod.refl _ _, ?_⟩
    go_wp2_with fail
    refine ⟨by kernel_rfl, ⟨⟨by simp, IS.out⟩, trivial⟩, ?_⟩
    go_wp2_with fail
    go_ret
    exact ⟨rfl, M1.out.drew⟩
  ·have d1 : decide (bu < a) = false := by simp; omega
   have hr := HRB.out h0 h1
   subst hr
   clear HRV HRB HRA
   go_enter Try.func41, Try.ntmps41
   go_wp2_with fail
   refine (Y.out _).mono ?_
   rintro e1 w1 ⟨rfl, hM1⟩
   have M1 := Lib.hid (M0.out.trans hM1)
   have k2 := (hM1.blk B0'.out (by simp)).cell (i := 2) rfl
   have k3 := (hM1.blk B0'.out (by simp)).cell (i := 3) rfl
   have j3 := (hM1.blk B1.out (by simp)).cell (i := 3) rfl
   have IS := Lib.hid (show IsC w1.drew (w.heap.size + 1) from isC_of_cell (w := w1) j3)
   clear hM1
   cases y
   ·go_wp2_with fail
    go_ret
    exact ⟨rfl, M1.out⟩
   ·go_wp2_with fail
    refine Go.YtndekdafiaogmaaLex.wp_region_held [8] [2] [] (by kernel_rfl) (by kernel_rfl) ?_
    simp only [wpCut, List.take_succ_cons, List.take_zero, List.drop_succ_cons, List.drop_zero, List.cons_append, List.nil_append]
    go_wp2_with fail
    refine (SM.out _).mono ?_
    rintro e2 w2 ⟨rfl, rfl⟩
    go_wp2_with fail
    refine ⟨Mod.refl _ _, ?_⟩
    go_wp2_with fail
    refine ⟨by kernel_rfl, ⟨⟨by simp, IS.out⟩, trivial⟩, ?_⟩
    go_wp2_with fail
    go_ret
    exact ⟨rfl, M1.out.drew⟩
 ·have d0 : decide (0 < a) = false := by simp; omega
  have hr := HRA.out h0
  subst hr
  clear HRV HRB HRA
  go_enter Try.func41, Try.ntmps41
  go_wp2_with fail
  refine (Y.out _).mono ?_
  rintro e1 w1 ⟨rfl, hM1⟩
  have M1 := Lib.hid (M0.out.trans hM1)
  have k2 := (hM1.blk B0'.out (by simp)).cell (i := 2) rfl
  have k3 := (hM1.blk B0'.out (by simp)).cell (i := 3) rfl
  have j3 := (hM1.blk B1.out (by simp)).cell (i := 3) rfl
  have IS := Lib.hid (show IsC w1.drew (w.heap.size + 1) from isC_of_cell (w := w1) j3)
  clear hM1
  cases y
  ·go_wp2_with fail
   go_ret
   exact ⟨rfl, M1.out⟩
  ·go_wp2_with fail
   refine Go.YtndekdafiaogmaaLex.wp_region_held [8] [2] [] (by kernel_rfl) (by kernel_rfl) ?_
   simp only [wpCut, List.take_succ_cons, List.take_zero, List.drop_succ_cons, List.drop_zero, List.cons_append, List.nil_append]
   go_wp2_with fail
   refine (SM.out _).mono ?_
   rintro e2 w2 ⟨rfl, rfl⟩
   go_wp2_with fail
   refine ⟨Mod.refl _ _, ?_⟩
   go_wp2_with fail
   refine ⟨by kernel_rfl, ⟨⟨by simp, IS.out⟩, trivial⟩, ?_⟩
   go_wp2_with fail
   go_ret
   exact ⟨rfl, M1.out.drew⟩
end Go.Proofs.Ytndekdafiaogmaa.Cell
end
section
namespace Go.Proofs.Ytndekdafiaogmaa.Cell
open Go Go.RowKit Go.YtndekdafiaogmaaMem Go.YtndekdafiaogmaaLex Go.Proofs.Ytndekdafiaogmaa.Arith
def Cell.lag (c : Cell) (p : Pace) (now cost : Int) : Int := max (max c.full now - (now + (p.burst - cost) * p.unit)) 0
def Cell.wait (c : Cell) (p : Pace) (now cost : Int) : Int := if c.young p now = true ∧ p.limit < c.carry + c.used + cost then max (c.lag p now cost) (c.since + p.window - now) else c.lag p now cost
set_option maxRecDepth 8000 in
set_option maxHeartbeats 1600000 in
theorem wait_any (c : Cell) (p : Pace) (now cost : Int) (hc : Mild c) (hp : Tame p now) (hco : 1 ≤ cost ∧ cost ≤ p.burst) (w : World) : Calls Try.prog 40 #[c.val, p.val, .int .i64 now, .int .i64 cost] w fun e w' => e = .returned (.int .i64 (c.wait p now cost)) ∧ Mod [] w w' := by
 have Y := Lib.hid (fun W : World => young_any c p now hc.ok hp.ok W)
 have hi : c.wait p now cost = if c.young p now = true ∧ p.limit < c.carry + c.used + cost then max (c.lag p now cost) (c.since + p.window - now) else c.lag p now cost := rfl
 have hlg : c.lag p now cost = max (max c.full now - (now + (p.burst - cost) * p.unit)) 0 := rfl
 rw [hi]
 have SM := Lib.hid (fun W : World => sum_any c.carry c.used hc.ok.2.2.1 hc.ok.2.2.2 W)
 have hsum : sum c.carry c.used = c.carry + c.used := sum_in (by have h1 := hc.carry; have h2 := hc.used; unfold I64; omega)
 rw [hsum] at SM
 have SM2 := Lib.hid (fun W : World => sum_any (c.carry + c.used) cost (by have h1 := hc.carry; have h2 := hc.used; unfold I64; omega) (by have h1 := hp.burst; have h2 := hp.limit; unfold I64; omega) W)
 have hsum2 : sum (c.carry + c.used) cost = c.carry + c.used + cost := sum_in (by have h1 := hc.carry; have h2 := hc.used; have h3 := hp.burst; have h4 := hp.limit; unfold I64; omega)
 rw [hsum2] at SM2
 have B0 := Lib.hid (Blk.new w c.cells 56)
 have hsz : (w.alloc (.cells c.cells.toArray 56)).heap.size = w.heap.size + 1 := by simp
 have B1 := Lib.hid ((Blk.new (w.alloc (.cells c.cells.toArray 56)) [.int .i64 p.unit, .int .i64 p.window, .int .i64 p.burst, .int .i64 p.limit] 77))
 rw [hsz] at B1
 have B0' := Lib.hid (B0.out.alloc (.cells [.int .i64 p.unit, .int .i64 p.window, .int .i64 p.burst, .int .i64 p.limit].toArray 77))
 have M0 := Lib.hid (((Mod.refl [] w).alloc (.cells c.cells.toArray 56)).alloc (.cells [.int .i64 p.unit, .int .i64 p.window, .int .i64 p.burst, .int .i64 p.limit].toArray 77))
 obtain ⟨hf, hs, hca, hu⟩ := hc
 obtain ⟨t1, t2, t3, t4, t5, t6⟩ := hp
 have hx0 : 0 ≤ (p.burst - cost) * p.unit := Int.mul_nonneg (by omega) (by omega)
 have hx1 : (p.burst - cost) * p.unit ≤ p.burst * p.unit := Int.mul_le_mul_of_nonneg_right (by omega) (by omega)
 clear hi hsz B0
 generalize c.young p now = y at *
 generalize c.lag p now cost = lg at *
 obtain ⟨c0, c1, c2, c3⟩ := c
 obtain ⟨p0, p1, p2, p3⟩ := p
 simp only [Cell.val, Pace.val, Cell.cells] at *
 obtain ⟨xx, hxx⟩ : ∃ xx, (p2 - cost) * p0 = xx := ⟨_, rfl⟩
 rw [hxx] at hx0 hx1 hlg
 obtain ⟨cu, hcu⟩ : ∃ cu, c2 + c3 = cu := ⟨_, rfl⟩
 rw [hcu] at SM SM2 ⊢
 obtain ⟨cc, hcc⟩ : ∃ cc, cu + cost = cc := ⟨_, rfl⟩
 rw [hcc] at SM2 ⊢
 have m1 := max_run c0 now
 obtain ⟨z1, hz1⟩ : ∃ z, max c0 now = z := ⟨_, rfl⟩
 rw [hz1] at m1 hlg
 have hw0 : wrap64 (p2 - cost) = p2 - cost := by unfold wrap64; omega
 have hw1 : wrap64 xx = xx := by unfold wrap64; omega
 have hw2 : wrap64 (now + xx) = now + xx := by unfold wrap64; omega
 have hw3 : wrap64 (z1 - (now + xx)) = z1 - (now + xx) := by unfold wrap64; omega
 have m2 := max_run (z1 - (now + xx)) 0
 rw [← hlg] at m2
 have hw4 : wrap64 (c1 + p1) = c1 + p1 := by unfold wrap64; omega
 have hw5 : wrap64 (c1 + p1 - now) = c1 + p1 - now := by unfold wrap64; omega
 have m3 := max_run lg (c1 + p1 - now)
 obtain ⟨z3, hz3⟩ : ∃ z, max lg (c1 + p1 - now) = z := ⟨_, rfl⟩
 rw [hz3] at m3 ⊢
 have IS : Hid (∀ W, Mod [] ((w.alloc (.cells #[.int .i64 c0, .int .i64 c1, .int .i64 c2, .int .i64 c3] 56)).alloc (.cells #[.int .i64 p0, .int .i64 p1, .int .i64 p2, .int .i64 p3] 77)) W → IsC W.drew (w.heap.size + 1)) := Lib.hid fun W hM => isC_of_cell (w := W) ((hM.blk B1.out (by simp)).cell (i := 3) rfl)
 have hsw := Lib.hid (IS.out _ (Mod.refl _ _))
 have e0 := B0'.out.cell (i := 0) rfl
 have e1 := B0'.out.cell (i := 1) rfl
 have e2 := B0'.out.cell (i := 2) rfl
 have e3 := B0'.out.cell (i := 3) rfl
 have g0 := B1.out.cell (i := 0) rfl
 have g1 := B1.out.cell (i := 1) rfl
 have g2 := B1.out.cell (i := 2) rfl
 have g3 := B1.out.cell (i := 3) rfl
 clear hlg hz1 hz3 hf hs hca hu t1 t2 t3 t4 t5 t6 hsum hsum2 hcu hcc hco hx0 hx1
 cases y
 ·rw [if_neg (by simp)]
  go_enter Try.func40, Try.ntmps40
  go_wp2_with fail
  refine Go.YtndekdafiaogmaaLex.wp_region_held [4, 6, 2] [13] [] (by kernel_rfl) (by kernel_rfl) ?_
  simp only [wpCut, List.take_succ_cons, List.take_zero, List.drop_succ_cons, List.drop_zero, List.cons_append, List.nil_append]
  go_wp2_with fail
  refine (Y.out _).mono ?_
  rintro e1 w1 ⟨rfl, hM1⟩
  have M1 := Lib.hid (M0.out.drew.trans hM1)
  have D1 := Lib.hid hM1
  clear hM1
  go_wp2_with fail
  refine ⟨D1.out, ?_⟩
  go_wp2_with fail
  refine ⟨D1.out, ?_⟩
  go_wp2_with fail
  refine ⟨D1.out, ?_⟩
  go_wp2_with fail
  refine ⟨by kernel_rfl, ⟨trivial, trivial⟩, ?_⟩
  go_wp2_with fail
  go_ret
  exact ⟨rfl, M1.out⟩
 ·have NN : Hid (∀ W, Mod [] ((w.alloc (.cells #[.int .i64 c0, .int .i64 c1, .int .i64 c2, .int .i64 c3] 56)).alloc (.cells #[.int .i64 p0, .int .i64 p1, .int .i64 p2, .int .i64 p3] 77)).drew W → Blk W w.heap.size 56 [.int .i64 c0, .int .i64 c1, .int .i64 c2, .int .i64 c3] ∧ Blk W (w.heap.size + 1) 77 [.int .i64 p0, .int .i64 p1, .int .i64 p2, .int .i64 p3]) := Lib.hid fun W hM => ⟨hM.blk B0'.out.drew (by simp), hM.blk B1.out.drew (by simp)⟩
  by_cases hlc : p3 < cc
  ·rw [if_pos ⟨rfl, hlc⟩]
   have dl : decide (p3 < cc) = true := by simp [hlc]
   clear hlc
   go_enter Try.func40, Try.ntmps40
   go_wp2_with fail
   refine Go.YtndekdafiaogmaaLex.wp_region_held [4, 6, 2] [13] [] (by kernel_rfl) (by kernel_rfl) ?_
   simp only [wpCut, List.take_succ_cons, List.take_zero, List.drop_succ_cons, List.drop_zero, List.cons_append, List.nil_append]
   go_wp2_with fail
   refine (Y.out _).mono ?_
   rintro x1 w1 ⟨rfl, hM1⟩
   have M1 := Lib.hid (M0.out.drew.trans hM1)
   have D1 := Lib.hid hM1
   obtain ⟨b0, b1⟩ := NN.out w1 hM1
   have r1 := b0.cell (i := 1) rfl
   have r2 := b0.cell (i := 2) rfl
   have r3 := b0.cell (i := 3) rfl
   have s1 := b1.cell (i := 1) rfl
   have s3 := b1.cell (i := 3) rfl
   clear hM1 b0 b1
   go_wp2_with fail
   refine ⟨D1.out, ?_⟩
   go_wp2_with fail
   refine (SM.out _).mono ?_
   rintro x2 w2 ⟨rfl, rfl⟩
   go_wp2_with fail
   refine ⟨D1.out, ?_⟩
   go_wp2_with fail
   refine (SM2.out _).mono ?_
   rintro x3 w3 ⟨rfl, rfl⟩
   go_wp2_with fail
   refine ⟨D1.out, ?_⟩
   go_wp2_with fail
   refine ⟨by kernel_rfl, ⟨⟨by simp, hsw.out⟩, trivial⟩, ?_⟩
   go_wp2_with fail
   go_ret
   exact ⟨rfl, M1.out⟩
  ·rw [if_neg (fun h => hlc h.2)]
   have dl : decide (p3 < cc) = false := by simp; omega
   clear hlc
   go_enter Try.func40, Try.ntmps40
   go_wp2_with fail
   refine Go.YtndekdafiaogmaaLex.wp_region_held [4, 6, 2] [13] [] (by kernel_rfl) (by kernel_rfl) ?_
   simp only [wpCut, List.take_succ_cons, List.take_zero, List.drop_succ_cons, List.drop_zero, List.cons_append, List.nil_append]
   go_wp2_with fail
   refine (Y.out _).mono ?_
   rintro x1 w1 ⟨rfl, hM1⟩
   have M1 := Lib.hid (M0.out.drew.trans hM1)
   have D1 := Lib.hid hM1
   obtain ⟨b0, b1⟩ := NN.out w1 hM1
   have r1 := b0.cell (i := 1) rfl
   have r2 := b0.cell (i := 2) rfl
   have r3 := b0.cell (i := 3) rfl
   have s1 := b1.cell (i := 1) rfl
   have s3 := b1.cell (i := 3) rfl
   clear hM1 b0 b1
   go_wp2_with fail
   refine ⟨D1.out, ?_⟩
   go_wp2_with fail
   refine (SM.out _).mono ?_
   rintro x2 w2 ⟨rfl, rfl⟩
   go_wp2_with fail
   refine ⟨D1.out, ?_⟩
   go_wp2_with fail
   refine (SM2.out _).mono ?_
   rintro x3 w3 ⟨rfl, rfl⟩
   go_wp2_with fail
   refine ⟨D1.out, ?_⟩
   go_wp2_with fail
   refine ⟨by kernel_rfl, ⟨⟨by simp, hsw.out⟩, trivial⟩, ?_⟩
   go_wp2_with fail
   go_ret
   exact ⟨rfl, M1.out⟩
end Go.Proofs.Ytndekdafiaogmaa.Cell
end
section
namespace Go.Proofs.Ytndekdafiaogmaa.Cell
open Go Go.RowKit Go.YtndekdafiaogmaaMem Go.YtndekdafiaogmaaLex Go.Proofs.Ytndekdafiaogmaa.Arith
structure CellAt (w : World) (g o : Nat) (c : Cell) : Prop where
 c0 : w.cell? ⟨g, o, none⟩ = some (.int .i64 c.full)
 c1 : w.cell? ⟨g, o + 1, none⟩ = some (.int .i64 c.since)
 c2 : w.cell? ⟨g, o + 2, none⟩ = some (.int .i64 c.carry)
 c3 : w.cell? ⟨g, o + 3, none⟩ = some (.int .i64 c.used)
 f0 : w.frozen? ⟨g, o, none⟩ = false
 f3 : w.frozen? ⟨g, o + 3, none⟩ = false
theorem CellAt.load {w w' : World} {g o : Nat} {c : Cell} (h : CellAt w g o c) (hm : Mod [] w w') : (Instr.loadAt 56 (.pointer (some ⟨g, o, none⟩))).run Try.prog w' = .ok (.agg #[.int .i64 c.full, .int .i64 c.since, .int .i64 c.carry, .int .i64 c.used]) w' := by
 have hg := cell_lt h.c0
 refine run_loadAt_mid w' g o 56 [.int .i64 c.full, .int .i64 c.since, .int .i64 c.carry, .int .i64 c.used] _ (fun j v hv => ?_) Try.underlying56 rfl (four_size cell_info)
 rw [hm.cell (a := ⟨g, o + j, none⟩) hg (by simp)]
 match j, hv with
 | 0, hv => simp at hv; subst hv; exact h.c0
 | 1, hv => simp at hv; subst hv; exact h.c1
 | 2, hv => simp at hv; subst hv; exact h.c2
 | 3, hv => simp at hv; subst hv; exact h.c3
set_option maxRecDepth 8000 in
set_option maxHeartbeats 1600000 in
theorem take_no (c : Cell) (p : Pace) (now cost : Int) (hc : Mild c) (hp : Tame p now) (hco : 1 ≤ cost ∧ cost ≤ p.burst) (hlt : c.room p now < cost) {w : World} {g o : Nat} (h : CellAt w g o c) :
  Calls Try.prog 39 #[.pointer (some ⟨g, o, none⟩), p.val, .int .i64 now, .int .i64 cost] w fun e w' => e = .returned (.bool false) ∧ Mod [] w w' := by
 have RM := Lib.hid (fun W : World => room_any c p now hc hp W)
 have B0 := Lib.hid (Blk.new w [.int .i64 p.unit, .int .i64 p.window, .int .i64 p.burst, .int .i64 p.limit] 77)
 have M0 := Lib.hid ((Mod.refl [] w).alloc (.cells [.int .i64 p.unit, .int .i64 p.window, .int .i64 p.burst, .int .i64 p.limit].toArray 77))
 have HH := Lib.hid h
 have d0 : decide (cost < 1) = false := by simp; omega
 obtain ⟨q0, q1, q2, q3, q4, q5⟩ := h
 have hgl : g < w.heap.size := cell_lt q0
 have hne : ¬ g = w.heap.size := by omega
 obtain ⟨r, hr⟩ : ∃ r, c.room p now = r := ⟨_, rfl⟩
 rw [hr] at RM hlt
 obtain ⟨c0, c1, c2, c3⟩ := c
 obtain ⟨p0, p1, p2, p3⟩ := p
 simp only [Cell.val, Pace.val] at *
 have d1 : decide (r < cost) = true := by simp [hlt]
 have IS := Lib.hid (show IsC (w.alloc (.cells #[.int .i64 p0, .int .i64 p1, .int .i64 p2, .int .i64 p3] 77)).drew w.heap.size from isC_of_cell (w := w.alloc _) (B0.out.cell (i := 0) rfl))
 clear hr hc hp hco hlt
 go_enter Try.func39, Try.ntmps39
 go_wp2_with fail
 refine wp_region_lex (by kernel_rfl) (by kernel_rfl) ?_
 go_wp2_with fail
 refine (RM.out _).mono ?_
 rintro x1 w1 ⟨rfl, hM1⟩
 have M1 := Lib.hid (M0.out.drew.trans hM1)
 clear hM1
 go_wp2_with fail
 refine ⟨by kernel_rfl, ?_⟩
 go_wp2_with fail
 go_ret
 exact ⟨rfl, M1.out⟩
def TakeYes (g o : Nat) (z u : Int) (w : World) (e : Ending) (w' : World) : Prop :=
 e = .returned (.bool true) ∧ ∃ w1, Mod [] w w1 ∧ w' = (w1.setCell ⟨g, o, none⟩ (.int .i64 z)).setCell ⟨g, o + 3, none⟩ (.int .i64 u)
set_option maxRecDepth 8000 in
set_option maxHeartbeats 1600000 in
theorem take_yes (c : Cell) (p : Pace) (now cost : Int) (hc : Mild c) (hp : Tame p now) (hco : 1 ≤ cost ∧ cost ≤ p.burst) (hlt : cost ≤ c.room p now) {w : World} {g o : Nat} (h : CellAt w g o c) :
  Calls Try.prog 39 #[.pointer (some ⟨g, o, none⟩), p.val, .int .i64 now, .int .i64 cost] w (TakeYes g o (max c.full now + cost * p.unit) (c.used + cost) w) := by
 have RM := Lib.hid (fun W : World => room_any c p now hc hp W)
 have SU := Lib.hid (fun W : World => sum_any c.used cost hc.ok.2.2.2 (by have h1 := hp.burst; have h2 := hp.limit; unfold I64; omega) W)
 have hsum : sum c.used cost = c.used + cost := sum_in (by have h1 := hc.used; have h2 := hp.burst; have h3 := hp.limit; unfold I64; omega)
 rw [hsum] at SU
 have B0 := Lib.hid (Blk.new w [.int .i64 p.unit, .int .i64 p.window, .int .i64 p.burst, .int .i64 p.limit] 77)
 have M0 := Lib.hid ((Mod.refl [] w).alloc (.cells [.int .i64 p.unit, .int .i64 p.window, .int .i64 p.burst, .int .i64 p.limit].toArray 77))
 have HH := Lib.hid h
 have d0 : decide (cost < 1) = false := by simp; omega
 obtain ⟨q0, q1, q2, q3, q4, q5⟩ := h
 have hgl : g < w.heap.size := cell_lt q0
 have hne : ¬ g = w.heap.size := by omega
 obtain ⟨r, hr⟩ : ∃ r, c.room p now = r := ⟨_, rfl⟩
 rw [hr] at RM hlt
 obtain ⟨hf, hs, hca, hu⟩ := hc
 obtain ⟨t1, t2, t3, t4, t5, t6⟩ := hp
 have hx0 : 0 ≤ cost * p.unit := Int.mul_nonneg (by omega) (by omega)
 have hx1 : cost * p.unit ≤ p.burst * p.unit := Int.mul_le_mul_of_nonneg_right hco.2 (by omega)
 obtain ⟨c0, c1, c2, c3⟩ := c
 obtain ⟨p0, p1, p2, p3⟩ := p
 simp only [Cell.val, Pace.val] at *
 have d1 : decide (r < cost) = false := by simp; omega
 obtain ⟨xx, hxx⟩ : ∃ xx, cost * p0 = xx := ⟨_, rfl⟩
 rw [hxx] at hx0 hx1 ⊢
 have m1 := max_run c0 now
 obtain ⟨z1, hz1⟩ : ∃ z, max c0 now = z := ⟨_, rfl⟩
 rw [hz1] at m1 ⊢
 have hw1 : wrap64 xx = xx := by unfold wrap64; omega
 have hw2 : wrap64 (z1 + xx) = z1 + xx := by unfold wrap64; omega
 obtain ⟨z, hz⟩ : ∃ z, z1 + xx = z := ⟨_, rfl⟩
 obtain ⟨u, hu2⟩ : ∃ u, c3 + cost = u := ⟨_, rfl⟩
 rw [hu2] at SU ⊢
 rw [hz] at hw2 ⊢
 clear hr hco hlt hf hs hca hu t1 t2 t3 t4 t5 t6 hx0 hx1 hz1 hsum hu2
 go_enter Try.func39, Try.ntmps39
 go_wp2_with fail
 refine wp_region_lex (by kernel_rfl) (by kernel_rfl) ?_
 go_wp2_with fail
 refine (RM.out _).mono ?_
 rintro x1 w1 ⟨rfl, hM1⟩
 have M1 := Lib.hid (M0.out.drew.trans hM1)
 have b1 := hM1.blk B0.out.drew (by simp)
 have s0 := b1.cell (i := 0) rfl
 have r0 := (M1.out.cell (a := ⟨g, o, none⟩) hgl (by simp)).trans q0
 have r3 := (M1.out.cell (a := ⟨g, o + 3, none⟩) hgl (by simp)).trans q3
 have f0 := (M1.out.frozen (a := ⟨g, o, none⟩) hgl (by simp)).trans q4
 have f3 := (M1.out.frozen (a := ⟨g, o + 3, none⟩) hgl (by simp)).trans q5
 clear hM1 b1
 go_wp2_with fail
 refine ⟨by kernel_rfl, ?_⟩
 go_wp2_with fail
 refine wp_region_lex (by kernel_rfl) (by kernel_rfl) ?_
 have k3 : (w1.setCell ⟨g, o, none⟩ (.int .i64 z)).cell? ⟨g, o + 3, none⟩ = some (.int .i64 c3) := (World.cell?_setCell_other (a := ⟨g, o, none⟩) (b := ⟨g, o + 3, none⟩) (h := fun e => by have h := congrArg Addr.off e; simp only at h; omega) ..).trans r3
 have k3' : (w1.drew.setCell ⟨g, o, none⟩ (.int .i64 z)).cell? ⟨g, o + 3, none⟩ = some (.int .i64 c3) := (World.cell?_setCell_other (a := ⟨g, o, none⟩) (b := ⟨g, o + 3, none⟩) (h := fun e => by have h := congrArg Addr.off e; simp only at h; omega) ..).trans r3
 go_wp2_with fail
 refine ⟨by kernel_rfl, ?_⟩
 go_wp2_with fail
 refine (SU.out _).mono ?_
 rintro x2 w2 ⟨rfl, rfl⟩
 go_wp2_with fail
 go_ret
 exact ⟨rfl, _, M1.out.drew, rfl⟩
end Go.Proofs.Ytndekdafiaogmaa.Cell
end
