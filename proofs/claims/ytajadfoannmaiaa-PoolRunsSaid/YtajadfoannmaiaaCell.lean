/- cell: cells; New, young, Idle, Of. -/
import Derived.Test.YtajadfoannmaiaaArith
import Derived.Laws.ResultCell
import Derived.Laws.Rows
namespace Go.Proofs.Ytajadfoannmaiaa.Cell
open Go Go.RowKit Go.YtajadfoannmaiaaMem Go.YtajadfoannmaiaaLex Go.Proofs.Ytajadfoannmaiaa.Arith
set_option linter.unusedVariables false
set_option linter.unusedSimpArgs false

structure Cell where
  full : Int
  since : Int
  carry : Int
  used : Int
def Cell.cells (c : Cell) : List Value := [.int .i64 c.full, .int .i64 c.since, .int .i64 c.carry, .int .i64 c.used]
def Cell.ok (c : Cell) : Prop := I64 c.full ∧ I64 c.since ∧ I64 c.carry ∧ I64 c.used
abbrev Cell.val (c : Cell) : Value := .agg #[.int .i64 c.full, .int .i64 c.since, .int .i64 c.carry, .int .i64 c.used]
structure Pace where
  unit : Int
  window : Int
  burst : Int
  limit : Int
abbrev Pace.val (p : Pace) : Value := .agg #[.int .i64 p.unit, .int .i64 p.window, .int .i64 p.burst, .int .i64 p.limit]
def Pace.ok (c : Pace) : Prop := I64 c.unit ∧ I64 c.window ∧ I64 c.burst ∧ I64 c.limit
def Cell.zero : Cell := ⟨0, 0, 0, 0⟩
/-- One that begins now. -/
def fresh (now carry : Int) : Cell := ⟨now, now, carry, 0⟩
theorem fresh_ok {now carry : Int} (h1 : I64 now) (h2 : I64 carry) : (fresh now carry).ok := ⟨h1, h1, h2, by unfold I64 fresh; simp⟩
theorem four_size {t : TypeId} {P : Program} {z : Value} {b : Nat} (h : (P.info? t).map (fun i => (i.zero, i.size, i.bytes)) = some (some z, 4, b)) : (P.info? t).map (·.size) = some 4 := by
  obtain ⟨i, hi, _, hs, _⟩ := info_parts h
  rw [hi]; simp [hs]
theorem cell_info : (Try.prog.info? 32).map (fun i => (i.zero, i.size, i.bytes)) = some (some (.agg #[.int .i64 0, .int .i64 0, .int .i64 0, .int .i64 0]), 4, 32) := by kernel_rfl
theorem pace_info : (Try.prog.info? 58).map (fun i => (i.zero, i.size, i.bytes)) = some (some (.agg #[.int .i64 0, .int .i64 0, .int .i64 0, .int .i64 0]), 4, 32) := by kernel_rfl
set_option maxRecDepth 4000 in
theorem new_any (now carry : Int) (w : World) : Calls Try.prog 10 #[.int .i64 now, .int .i64 carry] w fun e w' => e = .returned (fresh now carry).val ∧ Mod [] w w' := by
  have B0 := Lib.hid (Blk.new w [.int .i64 now, .int .i64 now, .int .i64 carry, .int .i64 0] 32)
  go_enter Try.func10, Try.ntmps10
  go_wp2_with fail
  refine bodyPost_ret (v := (fresh now carry).val) (results_cell_row (p := 4) (ty := 32) rfl _ _ w.heap.size 32 #[.int .i64 now, .int .i64 now, .int .i64 carry, .int .i64 0] (0, 0) _ rfl B0.out Try.underlying32 rfl (four_size cell_info)) rfl ⟨rfl, (Mod.refl [] w).alloc _⟩
/-- Does what it carried still count? -/
def Cell.young (c : Cell) (p : Pace) (now : Int) : Bool := decide (now < sum c.since p.window)
set_option maxRecDepth 4000 in
theorem young_any (c : Cell) (p : Pace) (now : Int) (hc : c.ok) (hp : p.ok) (w : World) : Calls Try.prog 41 #[c.val, p.val, .int .i64 now] w fun e w' => e = .returned (.bool (c.young p now)) ∧ Mod [] w w' := by
  obtain ⟨c0, c1, c2, c3⟩ := c
  obtain ⟨p0, p1, p2, p3⟩ := p
  have S := Lib.hid (fun W : World => sum_any c1 p1 hc.2.1 hp.2.1 W)
  have hy : Cell.young ⟨c0, c1, c2, c3⟩ ⟨p0, p1, p2, p3⟩ now = decide (now < sum c1 p1) := rfl
  rw [hy]
  clear hy hc hp
  generalize sum c1 p1 = s at *
  simp only [Cell.val, Pace.val]
  go_enter Try.func41, Try.ntmps41
  go_wp2_with fail
  refine (S.out _).mono ?_
  rintro e1 w1 ⟨rfl, rfl⟩
  go_wp2_with fail
  go_ret
  exact ⟨rfl, ((Mod.refl [] w).alloc _).alloc _⟩
/-- Has it nothing that a new one hasn't? -/
def Cell.idle (c : Cell) (p : Pace) (now : Int) : Bool := !c.young p now && decide (c.full ≤ now - p.window)
set_option maxRecDepth 4000 in
theorem idle_any (c : Cell) (p : Pace) (now : Int) (hc : c.ok) (hp : p.ok) (hn : I64 (now - p.window)) (w : World) : Calls Try.prog 33 #[c.val, p.val, .int .i64 now] w fun e w' => e = .returned (.bool (c.idle p now)) ∧ Mod [] w w' := by
  have Y := Lib.hid (fun W : World => young_any c p now hc hp W)
  have hi : c.idle p now = (!c.young p now && decide (c.full ≤ now - p.window)) := rfl
  rw [hi]
  have B0 := Lib.hid (Blk.new w c.cells 32)
  have hsz : (w.alloc (.cells c.cells.toArray 32)).heap.size = w.heap.size + 1 := by simp
  have B1 := Lib.hid ((Blk.new (w.alloc (.cells c.cells.toArray 32)) [.int .i64 p.unit, .int .i64 p.window, .int .i64 p.burst, .int .i64 p.limit] 58))
  rw [hsz] at B1
  have B0' := Lib.hid (B0.out.alloc (.cells [.int .i64 p.unit, .int .i64 p.window, .int .i64 p.burst, .int .i64 p.limit].toArray 58))
  have M0 := Lib.hid (((Mod.refl [] w).alloc (.cells c.cells.toArray 32)).alloc (.cells [.int .i64 p.unit, .int .i64 p.window, .int .i64 p.burst, .int .i64 p.limit].toArray 58))
  clear hc hp hi hsz B0
  generalize c.young p now = y at *
  obtain ⟨c0, c1, c2, c3⟩ := c
  obtain ⟨p0, p1, p2, p3⟩ := p
  simp only [Cell.val, Pace.val, Cell.cells] at *
  unfold I64 at hn
  go_enter Try.func33, Try.ntmps33
  go_wp2_with fail
  refine (Y.out _).mono ?_
  rintro e1 w1 ⟨rfl, hM1⟩
  have M1 := Lib.hid (M0.out.trans hM1)
  have k0 := (hM1.blk B0'.out (by simp)).cell (i := 0) rfl
  have k1 := (hM1.blk B1.out (by simp)).cell (i := 1) rfl
  clear hM1
  cases y
  all_goals go_wp2_with fail
  all_goals go_ret
  all_goals exact ⟨rfl, M1.out⟩
/-- A rule. -/
structure Rule where
  limit : Int
  window : Int
  burst : Int
  slots : Int
  cells : Int
  rows : Int
  width : Int
  track : Int
  smooth : Bool
def Rule.vals (r : Rule) : List Value := [.int .i64 r.limit, .int .i64 r.window, .int .i64 r.burst, .int .i64 r.slots, .int .i64 r.cells, .int .i64 r.rows, .int .i64 r.width, .int .i64 r.track, .bool r.smooth]
abbrev Rule.val (r : Rule) : Value := .agg #[.int .i64 r.limit, .int .i64 r.window, .int .i64 r.burst, .int .i64 r.slots, .int .i64 r.cells, .int .i64 r.rows, .int .i64 r.width, .int .i64 r.track, .bool r.smooth]
def Rule.pace (r : Rule) : Pace := ⟨ceil r.window (r.limit + 1 - r.burst), r.window, r.burst, r.limit⟩
theorem ceil_i64 {a b : Int} (ha : I64 a) (h0 : 0 ≤ a) (h1 : 1 ≤ b) : I64 (ceil a b) := by
  unfold ceil
  rw [if_neg (by omega)]
  have hq0 : 0 ≤ a / b := Int.ediv_nonneg h0 (by omega)
  have hqa : a / b ≤ a := Int.ediv_le_self b h0
  have hr0 : 0 ≤ a % b := Int.emod_nonneg a (by omega)
  have hdm := Int.mul_ediv_add_emod a b
  unfold I64 at *
  by_cases hp : 0 < a % b
  · rw [if_pos hp]
    rcases Int.lt_or_eq_of_le hqa with h | h
    · omega
    · exfalso
      rw [h] at hdm
      have : a ≤ b * a := by
        have := Int.mul_le_mul_of_nonneg_right h1 h0
        omega
      omega
  · rw [if_neg hp]; omega
set_option maxRecDepth 4000 in
theorem of_any (r : Rule) (hl : I64 r.limit) (hw : I64 r.window) (hb : I64 r.burst) (h0 : 0 ≤ r.window) (h1 : r.limit < 9223372036854775807) (h2 : 0 ≤ r.burst) (h3 : r.burst ≤ r.limit) (w : World) :
    Calls Try.prog 18 #[r.val] w fun e w' => e = .returned r.pace.val ∧ Mod [] w w' := by
  have B0 := Lib.hid (Blk.new w r.vals 61)
  have CE := Lib.hid (fun W : World => ceil_any r.window (r.limit + 1 - r.burst) hw (by unfold I64 at *; omega) h0 (by omega) W)
  have hp : r.pace = ⟨ceil r.window (r.limit + 1 - r.burst), r.window, r.burst, r.limit⟩ := rfl
  rw [hp]
  obtain ⟨limit, window, burst, slots, cells, rows, width, track, smooth⟩ := r
  simp only [Rule.vals, Rule.val, Pace.val] at *
  have k0 := B0.out.cell (i := 0) rfl
  have k1 := B0.out.cell (i := 1) rfl
  have k2 := B0.out.cell (i := 2) rfl
  generalize ceil window (limit + 1 - burst) = u at *
  have B1 := Lib.hid ((Blk.new (w.alloc (.cells [.int .i64 limit, .int .i64 window, .int .i64 burst, .int .i64 slots, .int .i64 cells, .int .i64 rows, .int .i64 width, .int .i64 track, .bool smooth].toArray 61)) [.int .i64 u, .int .i64 window, .int .i64 burst, .int .i64 limit] 58))
  unfold I64 at hl hw hb
  clear hp
  go_enter Try.func18, Try.ntmps18
  go_wp2_with fail
  refine wp_region_held [9] [10, 12, 14] [] (by kernel_rfl) (by kernel_rfl) ?_
  simp only [wpCut, List.take_succ_cons, List.take_zero, List.drop_succ_cons, List.drop_zero, List.cons_append, List.nil_append]
  go_wp2_with fail
  refine (CE.out _).mono ?_
  rintro e1 w1 ⟨rfl, rfl⟩
  go_wp2_with fail
  refine ⟨Mod.refl _ _, ?_⟩
  have isc : IsC ((w.alloc (.cells #[.int .i64 limit, .int .i64 window, .int .i64 burst, .int .i64 slots, .int .i64 cells, .int .i64 rows, .int .i64 width, .int .i64 track, .bool smooth] 61)).alloc (.cells #[.int .i64 0, .int .i64 0, .int .i64 0, .int .i64 0] 58)).drew w.heap.size := isC_of_cell (w := (w.alloc _).alloc _) ((B0.out.alloc _).cell (i := 0) rfl)
  have IS := Lib.hid isc
  clear isc
  go_wp2_with fail
  refine ⟨by kernel_rfl, ⟨⟨by simp, IS.out⟩, ⟨by simp, IS.out⟩, ⟨by simp, IS.out⟩, trivial⟩, ?_⟩
  go_wp2_with fail
  rw [show (w.alloc (.cells [.int .i64 limit, .int .i64 window, .int .i64 burst, .int .i64 slots, .int .i64 cells, .int .i64 rows, .int .i64 width, .int .i64 track, .bool smooth].toArray 61)).heap.size = w.heap.size + 1 by simp] at B1
  refine bodyPost_ret (v := .agg #[.int .i64 u, .int .i64 window, .int .i64 burst, .int .i64 limit]) (results_cell_row (p := 2) (ty := 58) rfl _ _ (w.heap.size + 1) 58 #[.int .i64 u, .int .i64 window, .int .i64 burst, .int .i64 limit] (0, 0) _ rfl B1.out Try.underlying58 rfl (four_size pace_info)) rfl ⟨rfl, (((Mod.refl [] w).alloc _).alloc _).drew⟩
end Go.Proofs.Ytajadfoannmaiaa.Cell
