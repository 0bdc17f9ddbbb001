/- the document's cell, unit by unit: Unit, one, young. -/
import Derived.Test.YtndekdafiaogmaaZLimPlainD
set_option linter.unusedSimpArgs false
set_option linter.unusedVariables false
section
namespace Go.Proofs.Ytndekdafiaogmaa.Lim
open Go Go.RowKit Go.YtndekdafiaogmaaMem Go.YtndekdafiaogmaaLex Go.Proofs.Ytndekdafiaogmaa.Hash Go.Proofs.Ytndekdafiaogmaa.Arith Go.Proofs.Ytndekdafiaogmaa.Index Go.Proofs.Ytndekdafiaogmaa.Cell Go.Proofs.Ytndekdafiaogmaa.Slot
set_option maxRecDepth 8000 in
set_option maxHeartbeats 3200000 in
theorem unitR_any (r : Rule) (h : RuleOk r) (w : World) : Calls Try.prog 52 #[r.val] w fun e w' => e = .returned (.int .i64 r.pace.unit) ∧ Mod [] w w' := by
 have B0 := Lib.hid (Blk.new w r.vals 29)
 have M0 := Lib.hid ((Mod.refl [] w).alloc (.cells r.vals.toArray 29))
 have hl := h.limit
 have hb := h.burst
 have hw := h.window
 have hpu : r.pace.unit = ceil r.window (r.limit + 1 - r.burst) := rfl
 have hce : ceil r.window (r.limit + 1 - r.burst) = r.window / (r.limit + 1 - r.burst) + (if 0 < r.window % (r.limit + 1 - r.burst) then 1 else 0) := by unfold ceil; rw [if_neg (by omega)]
 rw [hpu, hce]
 clear hpu hce h
 obtain ⟨r0, r1, r2, r3, r4, r5, r6, r7, r8⟩ := r
 simp only [Rule.vals, Rule.val] at *
 obtain ⟨N, hN⟩ : ∃ N, r0 + 1 - r2 = N := ⟨_, rfl⟩
 have hNb : 1 ≤ N ∧ N ≤ 2147483648 := by omega
 have hN0 : ¬ N = 0 := by omega
 have hN1 : ¬ N = -1 := by omega
 rw [hN]
 have hdm := Int.mul_ediv_add_emod r1 N
 have hrl := Int.emod_lt_of_pos r1 (show 0 < N by omega)
 have hr0 := Int.emod_nonneg r1 hN0
 have hq : r1.tdiv N = r1 / N := Int.tdiv_eq_ediv_of_nonneg (by omega)
 have hq0 : 0 ≤ r1 / N := Int.ediv_nonneg (by omega) (by omega)
 have hq1 : r1 / N ≤ r1 := Int.ediv_le_self N (by omega)
 have hmc : N * (r1 / N) = r1 / N * N := Int.mul_comm _ _
 obtain ⟨q, hqq⟩ : ∃ q, r1 / N = q := ⟨_, rfl⟩
 obtain ⟨m, hmm⟩ : ∃ m, r1 % N = m := ⟨_, rfl⟩
 rw [hqq] at hq hq0 hq1 hmc hdm ⊢
 rw [hmm] at hdm hrl hr0 ⊢
 rw [hmc] at hdm
 obtain ⟨qn, hqn⟩ : ∃ z, q * N = z := ⟨_, rfl⟩
 rw [hqn] at hdm
 have hqi : 0 ≤ q ∧ q ≤ 1099511627776 := by omega
 have hqni : wrap64 qn = qn := by unfold wrap64; omega
 have hwN : wrap64 (r0 + 1 - r2) = N := by unfold wrap64; omega
 have hw0 : wrap64 (r0 + 1) = r0 + 1 := by unfold wrap64; omega
 have hwq : wrap64 q = q := by unfold wrap64; omega
 have k0 := B0.out.cell (i := 0) rfl
 have k1 := B0.out.cell (i := 1) rfl
 have k2 := B0.out.cell (i := 2) rfl
 by_cases hp : 0 < m
 ·have dp : decide (qn < r1) = true := by simp; omega
  rw [if_pos hp]
  clear hl hb hw hNb hdm hrl hr0 hq0 hq1 hmc hqq hmm hp hN
  go_enter Try.func52, Try.ntmps52
  go_wp2_with fail
  go_ret
  exact ⟨rfl, M0.out⟩
 ·have dp : decide (qn < r1) = false := by simp; omega
  rw [if_neg hp, Int.add_zero]
  clear hl hb hw hNb hdm hrl hr0 hq0 hq1 hmc hqq hmm hp hN
  go_enter Try.func52, Try.ntmps52
  go_wp2_with fail
  go_ret
  exact ⟨rfl, M0.out⟩
set_option maxRecDepth 8000 in
set_option maxHeartbeats 3200000 in
theorem youngR_any (c : Cell) (r : Rule) (now : Int) (h : wrap64 (now - c.since) = now - c.since) (w : World) : Calls Try.prog 51 #[c.val, r.val, .int .i64 now] w fun e w' => e = .returned (.bool (decide (now - c.since < r.window))) ∧ Mod [] w w' := by
 have B0 := Lib.hid (Blk.new w c.cells 62)
 have hsz : (w.alloc (.cells c.cells.toArray 62)).heap.size = w.heap.size + 1 := by simp
 have B1 := Lib.hid (Blk.new (w.alloc (.cells c.cells.toArray 62)) r.vals 29)
 rw [hsz] at B1
 have B0' := Lib.hid (B0.out.alloc (.cells r.vals.toArray 29))
 have M0 := Lib.hid (((Mod.refl [] w).alloc (.cells c.cells.toArray 62)).alloc (.cells r.vals.toArray 29))
 obtain ⟨c0, c1, c2, c3⟩ := c
 obtain ⟨r0, r1, r2, r3, r4, r5, r6, r7, r8⟩ := r
 simp only [Rule.vals, Rule.val, Cell.val, Cell.cells] at *
 have e1 := B0'.out.cell (i := 1) rfl
 have g1 := B1.out.cell (i := 1) rfl
 clear hsz
 go_enter Try.func51, Try.ntmps51
 go_wp2_with fail
 go_ret
 exact ⟨rfl, M0.out⟩
def oneB (p : Pace) (f now : Int) : Bool := decide (max f now ≤ now + (p.burst - 1) * p.unit)
def OnePost (g : Nat) (r : Rule) (c : Cell) (now : Int) (w : World) (e : Ending) (w' : World) : Prop :=
 e = .returned (.bool (oneB r.pace c.full now)) ∧ Blk w' g 62 ({ c with full := if oneB r.pace c.full now then max c.full now + r.pace.unit else c.full } : Cell).cells ∧ Mod [g] w w'
set_option maxRecDepth 8000 in
set_option maxHeartbeats 3200000 in
theorem oneR_any (c : Cell) (r : Rule) (now : Int) (h : RuleOk r) (hn : 0 ≤ now ∧ now < 4611686018427387904) (hf : 0 ≤ c.full ∧ c.full ≤ 4611690416473899008) {w : World} {g : Nat} (hB : Blk w g 62 c.cells) :
  Calls Try.prog 50 #[.pointer (some ⟨g, 0, none⟩), r.val, .int .i64 now] w (OnePost g r c now w) := by
 have U := Lib.hid (fun W : World => unitR_any r h W)
 have B0 := Lib.hid (Blk.new w r.vals 29)
 have M0 := Lib.hid ((Mod.refl [] w).alloc (.cells r.vals.toArray 29))
 have HB := Lib.hid hB
 have hgl : g < w.heap.size := hB.lt
 have hne : ¬ g = w.heap.size := by omega
 have hl := h.limit
 have hb := h.burst
 have hpa := h.pace
 have ho : oneB r.pace c.full now = decide (max c.full now ≤ now + (r.burst - 1) * r.pace.unit) := rfl
 have hx0 : 0 ≤ (r.burst - 1) * r.pace.unit := Int.mul_nonneg (by omega) (by omega)
 have hx1 : (r.burst - 1) * r.pace.unit ≤ r.burst * r.pace.unit := Int.mul_le_mul_of_nonneg_right (by omega) (by omega)
 unfold OnePost
 rw [ho]
 clear ho h
 obtain ⟨u, hu⟩ : ∃ u, r.pace.unit = u := ⟨_, rfl⟩
 rw [hu] at U hpa hx0 hx1 ⊢
 clear hu
 obtain ⟨c0, c1, c2, c3⟩ := c
 obtain ⟨r0, r1, r2, r3, r4, r5, r6, r7, r8⟩ := r
 simp only [Rule.vals, Rule.val, Cell.val, Cell.cells] at *
 obtain ⟨xx, hxx⟩ : ∃ xx, (r2 - 1) * u = xx := ⟨_, rfl⟩
 rw [hxx] at hx0 hx1 ⊢
 have hxi : xx ≤ 4398046511104 := by omega
 have hw0 : wrap64 (r2 - 1) = r2 - 1 := by unfold wrap64; omega
 have hw1 : wrap64 xx = xx := by unfold wrap64; omega
 have hw2 : wrap64 (now + xx) = now + xx := by unfold wrap64; omega
 have hgc := HB.out.cell (i := 0) rfl
 have IS := Lib.hid (show IsC (w.alloc (.cells #[.int .i64 r0, .int .i64 r1, .int .i64 r2, .int .i64 r3, .int .i64 r4, .int .i64 r5, .int .i64 r6, .int .i64 r7, .bool r8] 29)).drew w.heap.size from isC_of_cell (w := w.alloc _) (B0.out.cell (i := 0) rfl))
 have hxf : max c0 now + u ≤ 4611691516000000000 := by omega
 have hw3 : wrap64 (max c0 now + u) = max c0 now + u := by unfold wrap64; omega
 have k2 := B0.out.cell (i := 2) rfl
 by_cases h0 : c0 < now
 ·have d0 : decide (c0 < now) = true := by simp [h0]
  have hm : max c0 now = now := by omega
  have d1 : decide (now ≤ now + xx) = true := by simp; omega
  have d2 : decide (now + xx < now) = false := by simp; omega
  rw [hm] at hw3 ⊢
  rw [d1, if_pos rfl]
  clear hx0 hx1 hn hf h0 hm hxf hl hb hpa hB d1
  go_enter Try.func50, Try.ntmps50
  go_wp2_with fail
  refine Go.YtndekdafiaogmaaLex.wp_region_held [5] [1] [] (by kernel_rfl) (by kernel_rfl) ?_
  simp only [wpCut, List.take_succ_cons, List.take_zero, List.drop_succ_cons, List.drop_zero, List.cons_append, List.nil_append]
  go_wp2_with fail
  refine (U.out _).mono ?_
  rintro e1 w1 ⟨rfl, hM1⟩
  have M1 := Lib.hid (M0.out.drew.trans hM1)
  have D1 := Lib.hid hM1
  have x0 := (M1.out.cell (a := ⟨g, 0, none⟩) hgl (by simp)).trans hgc
  have HB1 := Lib.hid (M1.out.blk HB.out (by simp))
  have RB1 := Lib.hid (hM1.blk B0.out.drew (by simp))
  clear hM1 hgc k2
  go_wp2_with fail
  refine ⟨D1.out, ?_⟩
  go_wp2_with fail
  refine ⟨by kernel_rfl, ⟨⟨by simp, IS.out⟩, trivial⟩, ?_⟩
  have z0 := RB1.out.cell (i := 0) rfl
  have z1 := RB1.out.cell (i := 1) rfl
  have z2 := RB1.out.cell (i := 2) rfl
  have z3 := RB1.out.cell (i := 3) rfl
  have z4 := RB1.out.cell (i := 4) rfl
  have z5 := RB1.out.cell (i := 5) rfl
  have z6 := RB1.out.cell (i := 6) rfl
  have z7 := RB1.out.cell (i := 7) rfl
  have z8 := RB1.out.cell (i := 8) rfl
  have f1 := HB1.out.free 0
  go_wp2_with fail
  refine (U.out _).mono ?_
  rintro e2 w2 ⟨rfl, hM2⟩
  have M2 := Lib.hid (M1.out.trans hM2)
  have HB2 := Lib.hid (hM2.blk HB1.out (by simp))
  have f2 := HB2.out.free 0
  have y2 := HB2.out.cell (i := 0) rfl
  clear hM2
  go_wp2_with fail
  go_ret
  exact ⟨rfl, HB2.out.set 0 _, (M2.out.mono (by simp)).setCell (.inl (by simp)) _⟩
 ·have d0 : decide (c0 < now) = false := by simp; omega
  have hm : max c0 now = c0 := by omega
  rw [hm] at hw3 ⊢
  by_cases h1 : c0 ≤ now + xx
  ·have d1 : decide (c0 ≤ now + xx) = true := by simp [h1]
   have d2 : decide (now + xx < c0) = false := by simp; omega
   rw [d1, if_pos rfl]
   clear hx0 hx1 hn hf h0 h1 hm hxf hl hb hpa hB d1
   go_enter Try.func50, Try.ntmps50
   go_wp2_with fail
   refine Go.YtndekdafiaogmaaLex.wp_region_held [5] [1] [] (by kernel_rfl) (by kernel_rfl) ?_
   simp only [wpCut, List.take_succ_cons, List.take_zero, List.drop_succ_cons, List.drop_zero, List.cons_append, List.nil_append]
   go_wp2_with fail
   refine (U.out _).mono ?_
   rintro e1 w1 ⟨rfl, hM1⟩
   have M1 := Lib.hid (M0.out.drew.trans hM1)
   have D1 := Lib.hid hM1
   have x0 := (M1.out.cell (a := ⟨g, 0, none⟩) hgl (by simp)).trans hgc
   have HB1 := Lib.hid (M1.out.blk HB.out (by simp))
   have RB1 := Lib.hid (hM1.blk B0.out.drew (by simp))
   clear hM1 hgc k2
   go_wp2_with fail
   refine ⟨D1.out, ?_⟩
   go_wp2_with fail
   refine ⟨by kernel_rfl, ⟨⟨by simp, IS.out⟩, trivial⟩, ?_⟩
   have z0 := RB1.out.cell (i := 0) rfl
   have z1 := RB1.out.cell (i := 1) rfl
   have z2 := RB1.out.cell (i := 2) rfl
   have z3 := RB1.out.cell (i := 3) rfl
   have z4 := RB1.out.cell (i := 4) rfl
   have z5 := RB1.out.cell (i := 5) rfl
   have z6 := RB1.out.cell (i := 6) rfl
   have z7 := RB1.out.cell (i := 7) rfl
   have z8 := RB1.out.cell (i := 8) rfl
   have f1 := HB1.out.free 0
   go_wp2_with fail
   refine (U.out _).mono ?_
   rintro e2 w2 ⟨rfl, hM2⟩
   have M2 := Lib.hid (M1.out.trans hM2)
   have HB2 := Lib.hid (hM2.blk HB1.out (by simp))
   have f2 := HB2.out.free 0
   have y2 := HB2.out.cell (i := 0) rfl
   clear hM2
   go_wp2_with fail
   go_ret
   exact ⟨rfl, HB2.out.set 0 _, (M2.out.mono (by simp)).setCell (.inl (by simp)) _⟩
  ·have d1 : decide (c0 ≤ now + xx) = false := by simp; omega
   have d2 : decide (now + xx < c0) = true := by simp; omega
   rw [d1, if_neg (by simp)]
   clear hx0 hx1 hn hf h0 h1 hm hxf hl hb hpa hB d1
   go_enter Try.func50, Try.ntmps50
   go_wp2_with fail
   refine Go.YtndekdafiaogmaaLex.wp_region_held [5] [1] [] (by kernel_rfl) (by kernel_rfl) ?_
   simp only [wpCut, List.take_succ_cons, List.take_zero, List.drop_succ_cons, List.drop_zero, List.cons_append, List.nil_append]
   go_wp2_with fail
   refine (U.out _).mono ?_
   rintro e1 w1 ⟨rfl, hM1⟩
   have M1 := Lib.hid (M0.out.drew.trans hM1)
   have D1 := Lib.hid hM1
   have x0 := (M1.out.cell (a := ⟨g, 0, none⟩) hgl (by simp)).trans hgc
   have HB1 := Lib.hid (M1.out.blk HB.out (by simp))
   have RB1 := Lib.hid (hM1.blk B0.out.drew (by simp))
   clear hM1 hgc k2
   go_wp2_with fail
   refine ⟨D1.out, ?_⟩
   go_wp2_with fail
   refine ⟨by kernel_rfl, ⟨⟨by simp, IS.out⟩, trivial⟩, ?_⟩
   go_wp2_with fail
   go_ret
   exact ⟨rfl, HB1.out, M1.out.mono (by simp)⟩
end Go.Proofs.Ytndekdafiaogmaa.Lim
end
