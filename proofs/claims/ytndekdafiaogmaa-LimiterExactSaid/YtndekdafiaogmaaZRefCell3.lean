/- the document's cell, unit by unit: Take, Wait. -/
import Derived.Test.YtndekdafiaogmaaZRefCell2
set_option linter.unusedSimpArgs false
set_option linter.unusedVariables false
section
namespace Go.Proofs.Ytndekdafiaogmaa.Lim
open Go Go.RowKit Go.YtndekdafiaogmaaMem Go.YtndekdafiaogmaaLex Go.Proofs.Ytndekdafiaogmaa.Hash Go.Proofs.Ytndekdafiaogmaa.Arith Go.Proofs.Ytndekdafiaogmaa.Index Go.Proofs.Ytndekdafiaogmaa.Cell Go.Proofs.Ytndekdafiaogmaa.Slot
theorem free_ok {p : Pace} {f now : Int} {k : Nat} (hp : Tame p now) (h : (k : Int) ≤ (only f).free p now) : okU p f now k := by
 have hu := hp.unit
 have e : ∀ z : Int, (z - 1) * p.unit = z * p.unit - p.unit := fun z => by rw [Int.sub_mul, Int.one_mul]
 unfold okU
 rw [e, e]
 unfold Cell.free at h
 change (k : Int) ≤ if 0 < f - now then (if p.burst * p.unit < f - now then 0 else (p.burst * p.unit - (f - now)).tdiv p.unit) else p.burst at h
 split at h
 ·split at h
  ·left; omega
  ·right
   rw [Int.tdiv_eq_ediv_of_nonneg (by omega), Int.le_ediv_iff_mul_le (by omega)] at h
   omega
 ·right
  have := Int.mul_le_mul_of_nonneg_right h (show 0 ≤ p.unit by omega)
  omega
theorem roomR_le {c : Cell} {r : Rule} {now : Int} : roomR c r now ≤ (only c.full).free r.pace now := by
 unfold roomR
 rw [free_only]
 split <;> omega
def TakePost (g : Nat) (r : Rule) (c : Cell) (now cost : Int) (w : World) (e : Ending) (w' : World) : Prop :=
 e = .returned (.bool (decide (cost ≤ roomR c r now))) ∧ Blk w' g 62 (if cost ≤ roomR c r now then ({ c with full := max c.full now + cost * r.pace.unit, used := c.used + cost } : Cell) else c).cells ∧ Mod [g] w w'
set_option maxRecDepth 8000 in
set_option maxHeartbeats 3200000 in
theorem takeR_any (c : Cell) (r : Rule) (now : Int) (cost : Nat) (h : RuleOk r) (hn : 0 ≤ now ∧ now < 4611686018427387904) (hm : MildR c) (hc1 : 1 ≤ cost) (hc2 : (cost : Int) ≤ r.burst) {w : World} {g : Nat} (hB : Blk w g 62 c.cells) :
  Calls Try.prog 26 #[.pointer (some ⟨g, 0, none⟩), r.val, .int .i64 now, .int .i64 (cost : Int)] w (TakePost g r c now (cost : Int) w) := by
 have ht := h.tame hn
 have hu := ht.unit
 have RM := Lib.hid (fun W : World => roomR_any c r now h hn hm W)
 have hrl := roomR_le (c := c) (r := r) (now := now)
 unfold TakePost
 obtain ⟨rm, hrm⟩ : ∃ z, roomR c r now = z := ⟨_, rfl⟩
 rw [hrm] at RM hrl ⊢
 have ONE := Lib.hid (fun (f : Int) (W : World) (hf : 0 ≤ f ∧ f ≤ 4611690416473899008) (hB : Blk W g 62 ({ c with full := f } : Cell).cells) => oneR_any { c with full := f } r now h hn hf hB)
 have UPI := Lib.hid (fun (k : Nat) (hk : (k : Int) ≤ r.burst) hok => up_in (k := k) ht hm.full hk hok)
 have UPN := Lib.hid (fun k => up_next (f := c.full) (now := now) (k := k) hu.1)
 have OOK := Lib.hid (fun k => one_ok (f := c.full) (now := now) (k := k) hu.1)
 have FOK := Lib.hid (fun (k : Nat) (hk : (k : Int) ≤ rm) => free_ok (f := c.full) (k := k) ht (Int.le_trans hk hrl))
 have hupc : upF r.pace c.full now cost = max c.full now + (cost : Int) * r.pace.unit := by unfold upF; rw [if_neg (by omega)]
 have hup0 : upF r.pace c.full now 0 = c.full := rfl
 have UPC := Lib.hid hupc
 rw [← hupc]
 have hus := hm.used
 have hlb : r.burst ≤ 2147483648 := by have h1 := h.limit; have h2 := h.burst; omega
 have B0 := Lib.hid (Blk.new w r.vals 29)
 have M0 := Lib.hid ((Mod.refl [] w).alloc (.cells r.vals.toArray 29))
 have HB := Lib.hid hB
 have HBn := Lib.hid (hB.alloc (.cells r.vals.toArray 29))
 have hgl : g < w.heap.size := hB.lt
 have hne : ¬ g = w.heap.size := by omega
 unfold OnePost at ONE
 simp only at ONE
 obtain ⟨p, hp⟩ : ∃ p, r.pace = p := ⟨_, rfl⟩
 rw [hp] at ONE UPI UPN OOK FOK hup0 ⊢
 clear hrm hrl hupc ht hu UPC hp h hm hB hn
 obtain ⟨c0, c1, c2, c3⟩ := c
 obtain ⟨r0, r1, r2, r3, r4, r5, r6, r7, r8⟩ := r
 simp only [Rule.vals, Rule.val, Cell.val, Cell.cells] at *
 have IS := Lib.hid (show IsC (w.alloc (.cells #[.int .i64 r0, .int .i64 r1, .int .i64 r2, .int .i64 r3, .int .i64 r4, .int .i64 r5, .int .i64 r6, .int .i64 r7, .bool r8] 29)).drew w.heap.size from isC_of_cell (w := w.alloc _) (B0.out.cell (i := 0) rfl))
 have d0 : decide ((cost : Int) < 1) = false := by simp; omega
 by_cases hle : (cost : Int) ≤ rm
 ·have d1 : decide (rm < (cost : Int)) = false := by simp; omega
  have d2 : decide ((cost : Int) ≤ rm) = true := by simp [hle]
  rw [d2, if_pos hle]
  clear d2
  go_enter Try.func26, Try.ntmps26
  have cz0 := HBn.out.cell (i := 0) rfl
  have cz1 := HBn.out.cell (i := 1) rfl
  have cz2 := HBn.out.cell (i := 2) rfl
  have cz3 := HBn.out.cell (i := 3) rfl
  go_wp2_with fail
  refine Go.YtndekdafiaogmaaLex.wp_region_lex (by kernel_rfl) (by kernel_rfl) ?_
  go_wp2_with fail
  refine (RM.out _).mono ?_
  rintro e1 w1 ⟨rfl, hM1⟩
  have M1 := Lib.hid (M0.out.drew.trans hM1)
  have RB1 := Lib.hid (hM1.blk B0.out.drew (by simp))
  have HB1 := Lib.hid (M1.out.blk HB.out (by simp))
  clear hM1 cz0 cz1 cz2 cz3
  go_wp2_with fail
  refine ⟨by kernel_rfl, ?_⟩
  go_wp2_with fail
  go_loopw [9] (fun i W => ∃ k : Nat, k ≤ cost ∧ i = .int .i64 (k : Int) ∧ Blk W g 62 [.int .i64 (upF p c0 now k), .int .i64 c1, .int .i64 c2, .int .i64 c3] ∧ Blk W w.heap.size 29 [.int .i64 r0, .int .i64 r1, .int .i64 r2, .int .i64 r3, .int .i64 r4, .int .i64 r5, .int .i64 r6, .int .i64 r7, .bool r8] ∧ Mod [g] w W) (fun i _ => cost - (intOf i).toNat)
  case atStart => exact ⟨0, Nat.zero_le _, rfl, HB1.out, RB1.out, M1.out.mono (by simp)⟩
  case round =>
   obtain ⟨k, hk, rfl, hD, hR, hM⟩ := hrel
   have DR := Lib.hid hD
   have RR := Lib.hid hR
   have MR := Lib.hid hM
   by_cases hlt : k < cost
   ·have dk : decide ((k : Int) < (cost : Int)) = true := by simp; omega
    have HU := Lib.hid (UPI.out k (by omega) (FOK.out k (by omega)))
    have HOK := Lib.hid ((OOK.out k).2 (FOK.out (k + 1) (by omega)))
    clear hD hR hM
    have rz0 := RR.out.cell (i := 0) rfl
    have rz1 := RR.out.cell (i := 1) rfl
    have rz2 := RR.out.cell (i := 2) rfl
    have rz3 := RR.out.cell (i := 3) rfl
    have rz4 := RR.out.cell (i := 4) rfl
    have rz5 := RR.out.cell (i := 5) rfl
    have rz6 := RR.out.cell (i := 6) rfl
    have rz7 := RR.out.cell (i := 7) rfl
    have rz8 := RR.out.cell (i := 8) rfl
    go_wp2_with fail
    refine (ONE.out _ _ HU.out DR.out).mono ?_
    rintro e2 w2 ⟨rfl, hD2, hM2⟩
    rw [HOK.out, if_pos rfl, ← UPN.out k] at hD2
    have D2 := Lib.hid hD2
    have R2 := Lib.hid (hM2.blk RR.out (by simp; omega))
    have M2 := Lib.hid (MR.out.trans hM2)
    clear hD2 hM2 rz0 rz1 rz2 rz3 rz4 rz5 rz6 rz7 rz8
    go_wp2_with fail
    go_roundw
    case rel => exact ⟨k + 1, by omega, by go_num, D2.out, R2.out, M2.out⟩
    case measure => simp [intOf]; omega
   ·obtain rfl : k = cost := by omega
    have dk : decide ((k : Int) < (k : Int)) = false := by simp
    clear hD hR hM
    have f3 := DR.out.free 3
    have x3 := DR.out.cell (i := 3) rfl
    have hw3 : wrap64 (c3 + (k : Int)) = c3 + (k : Int) := by unfold wrap64; omega
    go_wp2_with fail
    go_ret
    exact ⟨rfl, DR.out.set 3 _, MR.out.setCell (.inl (by simp)) _⟩
 ·have d1 : decide (rm < (cost : Int)) = true := by simp; omega
  have d2 : decide ((cost : Int) ≤ rm) = false := by simp; omega
  rw [d2, if_neg hle]
  clear d2
  go_enter Try.func26, Try.ntmps26
  have cz0 := HBn.out.cell (i := 0) rfl
  have cz1 := HBn.out.cell (i := 1) rfl
  have cz2 := HBn.out.cell (i := 2) rfl
  have cz3 := HBn.out.cell (i := 3) rfl
  go_wp2_with fail
  refine Go.YtndekdafiaogmaaLex.wp_region_lex (by kernel_rfl) (by kernel_rfl) ?_
  go_wp2_with fail
  refine (RM.out _).mono ?_
  rintro e1 w1 ⟨rfl, hM1⟩
  have M1 := Lib.hid (M0.out.drew.trans hM1)
  have RB1 := Lib.hid (hM1.blk B0.out.drew (by simp))
  have HB1 := Lib.hid (M1.out.blk HB.out (by simp))
  clear hM1 cz0 cz1 cz2 cz3
  go_wp2_with fail
  refine ⟨by kernel_rfl, ?_⟩
  go_wp2_with fail
  go_ret
  exact ⟨rfl, HB1.out, M1.out.mono (by simp)⟩
def waitAt (c : Cell) (r : Rule) (now cost : Int) : Int := max (c.full - (r.burst - cost) * r.pace.unit) now
def waitR (c : Cell) (r : Rule) (now cost : Int) : Int :=
 if cost ≤ roomR c r now then 0 else (if waitAt c r now cost - c.since < r.window ∧ r.limit < c.carry + c.used + cost then c.since + r.window else waitAt c r now cost) - now
set_option maxRecDepth 8000 in
set_option maxHeartbeats 3200000 in
theorem waitR_any (c : Cell) (r : Rule) (now cost : Int) (h : RuleOk r) (hn : 0 ≤ now ∧ now < 4611686018427387904) (hm : MildR c) (hc1 : 1 ≤ cost) (hc2 : cost ≤ r.burst) (w : World) :
  Calls Try.prog 24 #[c.val, r.val, .int .i64 now, .int .i64 cost] w fun e w' => e = .returned (.int .i64 (waitR c r now cost)) ∧ Mod [] w w' := by
 have U := Lib.hid (fun W : World => unitR_any r h W)
 have RM := Lib.hid (fun W : World => roomR_any c r now h hn hm W)
 obtain ⟨rv, hrv⟩ : ∃ z, waitR c r now cost = z := ⟨_, rfl⟩
 have hrv2 := hrv
 unfold waitR at hrv2
 rw [hrv]
 clear hrv
 obtain ⟨rm, hrm⟩ : ∃ z, roomR c r now = z := ⟨_, rfl⟩
 rw [hrm] at RM hrv2
 have hat : waitAt c r now cost = max (c.full - (r.burst - cost) * r.pace.unit) now := rfl
 rw [hat] at hrv2
 have hpa := h.pace
 have hl := h.limit
 have hb := h.burst
 have hx0 : 0 ≤ (r.burst - cost) * r.pace.unit := Int.mul_nonneg (by omega) (by omega)
 have hx1 : (r.burst - cost) * r.pace.unit ≤ r.burst * r.pace.unit := Int.mul_le_mul_of_nonneg_right (by omega) (by omega)
 have hwi := h.window
 have hfu := hm.full
 have hsi := hm.since
 have hca := hm.carry
 have hus := hm.used
 have B0 := Lib.hid (Blk.new w c.cells 62)
 have hsz : (w.alloc (.cells c.cells.toArray 62)).heap.size = w.heap.size + 1 := by simp
 have B1 := Lib.hid (Blk.new (w.alloc (.cells c.cells.toArray 62)) r.vals 29)
 rw [hsz] at B1
 have B0' := Lib.hid (B0.out.alloc (.cells r.vals.toArray 29))
 have M0 := Lib.hid (((Mod.refl [] w).alloc (.cells c.cells.toArray 62)).alloc (.cells r.vals.toArray 29))
 obtain ⟨u, hu⟩ : ∃ u, r.pace.unit = u := ⟨_, rfl⟩
 rw [hu] at U hpa hx0 hx1 hrv2
 clear hsz hrm hat hu h hm
 obtain ⟨c0, c1, c2, c3⟩ := c
 obtain ⟨r0, r1, r2, r3, r4, r5, r6, r7, r8⟩ := r
 simp only [Rule.vals, Rule.val, Cell.val, Cell.cells] at *
 obtain ⟨xx, hxx⟩ : ∃ xx, (r2 - cost) * u = xx := ⟨_, rfl⟩
 rw [hxx] at hx0 hx1 hrv2
 have hxi : xx ≤ 4398046511104 := by omega
 clear hx1 hpa
 have hw0 : wrap64 (r2 - cost) = r2 - cost := by unfold wrap64; omega
 have hw1 : wrap64 xx = xx := by unfold wrap64; omega
 have hw2 : wrap64 (c0 - xx) = c0 - xx := by unfold wrap64; omega
 have hw5 : wrap64 (c2 + c3) = c2 + c3 := by unfold wrap64; omega
 have hw6 : wrap64 (c2 + c3 + cost) = c2 + c3 + cost := by unfold wrap64; omega
 have hw7 : wrap64 (c1 + r1) = c1 + r1 := by unfold wrap64; omega
 have hw8 : wrap64 (c1 + r1 - now) = c1 + r1 - now := by unfold wrap64; omega
 by_cases hle : cost ≤ rm
 ·have d1 : decide (cost ≤ rm) = true := by simp [hle]
  have HV := Lib.hid (show rv = 0 from by rw [← hrv2, if_pos hle])
  clear hrv2 hle
  go_enter Try.func24, Try.ntmps24
  have rz0 := B1.out.cell (i := 0) rfl
  have rz1 := B1.out.cell (i := 1) rfl
  have rz2 := B1.out.cell (i := 2) rfl
  have rz3 := B1.out.cell (i := 3) rfl
  have rz4 := B1.out.cell (i := 4) rfl
  have rz5 := B1.out.cell (i := 5) rfl
  have rz6 := B1.out.cell (i := 6) rfl
  have rz7 := B1.out.cell (i := 7) rfl
  have rz8 := B1.out.cell (i := 8) rfl
  have cz0 := B0'.out.cell (i := 0) rfl
  have cz1 := B0'.out.cell (i := 1) rfl
  have cz2 := B0'.out.cell (i := 2) rfl
  have cz3 := B0'.out.cell (i := 3) rfl
  go_wp2_with fail
  refine (RM.out _).mono ?_
  rintro e1 w1 ⟨rfl, hM1⟩
  have M1 := Lib.hid (M0.out.trans hM1)
  have RB1 := Lib.hid (hM1.blk B1.out (by simp))
  have CB1 := Lib.hid (hM1.blk B0'.out (by simp))
  clear hM1 rz0 rz1 rz2 rz3 rz4 rz5 rz6 rz7 rz8 cz0 cz1 cz2 cz3
  go_wp2_with fail
  go_ret
  exact ⟨by rw [HV.out]; rfl, M1.out⟩
 ·have d1 : decide (cost ≤ rm) = false := by simp; omega
  by_cases hm : c0 - xx < now
  ·have dm : decide (c0 - xx < now) = true := by simp; omega
   have hmx : max (c0 - xx) now = now := by omega
   have hwa : wrap64 (now - c1) = now - c1 := by unfold wrap64; omega
   have hwb : wrap64 (now - now) = now - now := by unfold wrap64; omega
   by_cases hy : now - c1 < r1
   ·have dy : decide (now - c1 < r1) = true := by simp; omega
    by_cases hq : r0 < c2 + c3 + cost
    ·have dq : decide (r0 < c2 + c3 + cost) = true := by simp; omega
     have HV := Lib.hid (show rv = c1 + r1 - now from by rw [← hrv2, if_neg hle, hmx, if_pos ⟨hy, hq⟩])
     clear hy hq hrv2 hle hmx hn hc1 hc2 hl hb hx0 hwi hfu hsi hca hus hxi hm
     go_enter Try.func24, Try.ntmps24
     have rz0 := B1.out.cell (i := 0) rfl
     have rz1 := B1.out.cell (i := 1) rfl
     have rz2 := B1.out.cell (i := 2) rfl
     have rz3 := B1.out.cell (i := 3) rfl
     have rz4 := B1.out.cell (i := 4) rfl
     have rz5 := B1.out.cell (i := 5) rfl
     have rz6 := B1.out.cell (i := 6) rfl
     have rz7 := B1.out.cell (i := 7) rfl
     have rz8 := B1.out.cell (i := 8) rfl
     have cz0 := B0'.out.cell (i := 0) rfl
     have cz1 := B0'.out.cell (i := 1) rfl
     have cz2 := B0'.out.cell (i := 2) rfl
     have cz3 := B0'.out.cell (i := 3) rfl
     go_wp2_with fail
     refine (RM.out _).mono ?_
     rintro e1 w1 ⟨rfl, hM1⟩
     have M1 := Lib.hid (M0.out.trans hM1)
     have RB1 := Lib.hid (hM1.blk B1.out (by simp))
     have CB1 := Lib.hid (hM1.blk B0'.out (by simp))
     clear hM1 rz0 rz1 rz2 rz3 rz4 rz5 rz6 rz7 rz8 cz0 cz1 cz2 cz3
     have rz0 := RB1.out.cell (i := 0) rfl
     have rz1 := RB1.out.cell (i := 1) rfl
     have rz2 := RB1.out.cell (i := 2) rfl
     have rz3 := RB1.out.cell (i := 3) rfl
     have rz4 := RB1.out.cell (i := 4) rfl
     have rz5 := RB1.out.cell (i := 5) rfl
     have rz6 := RB1.out.cell (i := 6) rfl
     have rz7 := RB1.out.cell (i := 7) rfl
     have rz8 := RB1.out.cell (i := 8) rfl
     have cz0 := CB1.out.cell (i := 0) rfl
     have cz1 := CB1.out.cell (i := 1) rfl
     have cz2 := CB1.out.cell (i := 2) rfl
     have cz3 := CB1.out.cell (i := 3) rfl
     have IR := Lib.hid (isC_of_blk RB1.out.drew)
     have IC := Lib.hid (isC_of_blk CB1.out.drew)
     go_wp2_with fail
     refine Go.YtndekdafiaogmaaLex.wp_region_held [8] [1, 3] [] (by kernel_rfl) (by kernel_rfl) ?_
     simp only [wpCut, List.take_succ_cons, List.take_zero, List.drop_succ_cons, List.drop_zero, List.cons_append, List.nil_append]
     go_wp2_with fail
     refine (U.out _).mono ?_
     rintro e2 w2 ⟨rfl, hM2⟩
     have D2 := Lib.hid hM2
     have M2 := Lib.hid (M1.out.drew.trans hM2)
     have RB2 := Lib.hid (hM2.blk RB1.out.drew (by simp))
     have CB2 := Lib.hid (hM2.blk CB1.out.drew (by simp))
     clear hM2 rz0 rz1 rz2 rz3 rz4 rz5 rz6 rz7 rz8 cz0 cz1 cz2 cz3
     go_wp2_with fail
     refine ⟨D2.out, ?_⟩
     go_wp2_with fail
     refine ⟨by kernel_rfl, ⟨⟨by simp, IC.out⟩, ⟨by simp, IR.out⟩, trivial⟩, ?_⟩
     have rz0 := RB2.out.cell (i := 0) rfl
     have rz1 := RB2.out.cell (i := 1) rfl
     have cz0 := CB2.out.cell (i := 0) rfl
     have cz1 := CB2.out.cell (i := 1) rfl
     have cz2 := CB2.out.cell (i := 2) rfl
     have cz3 := CB2.out.cell (i := 3) rfl
     go_wp2_with fail
     go_ret
     exact ⟨by rw [HV.out]; show Ending.returned (.int .i64 (wrap64 (c1 + r1 - now))) = _; rw [hw8], M2.out⟩
    ·have dq : decide (r0 < c2 + c3 + cost) = false := by simp; omega
     have HV := Lib.hid (show rv = now - now from by rw [← hrv2, if_neg hle, hmx, if_neg (fun hh => hq hh.2)])
     clear hy hq hrv2 hle hmx hn hc1 hc2 hl hb hx0 hwi hfu hsi hca hus hxi hm
     go_enter Try.func24, Try.ntmps24
     have rz0 := B1.out.cell (i := 0) rfl
     have rz1 := B1.out.cell (i := 1) rfl
     have rz2 := B1.out.cell (i := 2) rfl
     have rz3 := B1.out.cell (i := 3) rfl
     have rz4 := B1.out.cell (i := 4) rfl
     have rz5 := B1.out.cell (i := 5) rfl
     have rz6 := B1.out.cell (i := 6) rfl
     have rz7 := B1.out.cell (i := 7) rfl
     have rz8 := B1.out.cell (i := 8) rfl
     have cz0 := B0'.out.cell (i := 0) rfl
     have cz1 := B0'.out.cell (i := 1) rfl
     have cz2 := B0'.out.cell (i := 2) rfl
     have cz3 := B0'.out.cell (i := 3) rfl
     go_wp2_with fail
     refine (RM.out _).mono ?_
     rintro e1 w1 ⟨rfl, hM1⟩
     have M1 := Lib.hid (M0.out.trans hM1)
     have RB1 := Lib.hid (hM1.blk B1.out (by simp))
     have CB1 := Lib.hid (hM1.blk B0'.out (by simp))
     clear hM1 rz0 rz1 rz2 rz3 rz4 rz5 rz6 rz7 rz8 cz0 cz1 cz2 cz3
     have rz0 := RB1.out.cell (i := 0) rfl
     have rz1 := RB1.out.cell (i := 1) rfl
     have rz2 := RB1.out.cell (i := 2) rfl
     have rz3 := RB1.out.cell (i := 3) rfl
     have rz4 := RB1.out.cell (i := 4) rfl
     have rz5 := RB1.out.cell (i := 5) rfl
     have rz6 := RB1.out.cell (i := 6) rfl
     have rz7 := RB1.out.cell (i := 7) rfl
     have rz8 := RB1.out.cell (i := 8) rfl
     have cz0 := CB1.out.cell (i := 0) rfl
     have cz1 := CB1.out.cell (i := 1) rfl
     have cz2 := CB1.out.cell (i := 2) rfl
     have cz3 := CB1.out.cell (i := 3) rfl
     have IR := Lib.hid (isC_of_blk RB1.out.drew)
     have IC := Lib.hid (isC_of_blk CB1.out.drew)
     go_wp2_with fail
     refine Go.YtndekdafiaogmaaLex.wp_region_held [8] [1, 3] [] (by kernel_rfl) (by kernel_rfl) ?_
     simp only [wpCut, List.take_succ_cons, List.take_zero, List.drop_succ_cons, List.drop_zero, List.cons_append, List.nil_append]
     go_wp2_with fail
     refine (U.out _).mono ?_
     rintro e2 w2 ⟨rfl, hM2⟩
     have D2 := Lib.hid hM2
     have M2 := Lib.hid (M1.out.drew.trans hM2)
     have RB2 := Lib.hid (hM2.blk RB1.out.drew (by simp))
     have CB2 := Lib.hid (hM2.blk CB1.out.drew (by simp))
     clear hM2 rz0 rz1 rz2 rz3 rz4 rz5 rz6 rz7 rz8 cz0 cz1 cz2 cz3
     go_wp2_with fail
     refine ⟨D2.out, ?_⟩
     go_wp2_with fail
     refine ⟨by kernel_rfl, ⟨⟨by simp, IC.out⟩, ⟨by simp, IR.out⟩, trivial⟩, ?_⟩
     have rz0 := RB2.out.cell (i := 0) rfl
     have rz1 := RB2.out.cell (i := 1) rfl
     have cz0 := CB2.out.cell (i := 0) rfl
     have cz1 := CB2.out.cell (i := 1) rfl
     have cz2 := CB2.out.cell (i := 2) rfl
     have cz3 := CB2.out.cell (i := 3) rfl
     go_wp2_with fail
     go_ret
     exact ⟨by rw [HV.out]; show Ending.returned (.int .i64 0) = _; rw [Int.sub_self], M2.out⟩
   ·have dy : decide (now - c1 < r1) = false := by simp; omega
    have HV := Lib.hid (show rv = now - now from by rw [← hrv2, if_neg hle, hmx, if_neg (fun hh => hy hh.1)])
    clear hy hrv2 hle hmx hn hc1 hc2 hl hb hx0 hwi hfu hsi hca hus hxi hm
    go_enter Try.func24, Try.ntmps24
    have rz0 := B1.out.cell (i := 0) rfl
    have rz1 := B1.out.cell (i := 1) rfl
    have rz2 := B1.out.cell (i := 2) rfl
    have rz3 := B1.out.cell (i := 3) rfl
    have rz4 := B1.out.cell (i := 4) rfl
    have rz5 := B1.out.cell (i := 5) rfl
    have rz6 := B1.out.cell (i := 6) rfl
    have rz7 := B1.out.cell (i := 7) rfl
    have rz8 := B1.out.cell (i := 8) rfl
    have cz0 := B0'.out.cell (i := 0) rfl
    have cz1 := B0'.out.cell (i := 1) rfl
    have cz2 := B0'.out.cell (i := 2) rfl
    have cz3 := B0'.out.cell (i := 3) rfl
    go_wp2_with fail
    refine (RM.out _).mono ?_
    rintro e1 w1 ⟨rfl, hM1⟩
    have M1 := Lib.hid (M0.out.trans hM1)
    have RB1 := Lib.hid (hM1.blk B1.out (by simp))
    have CB1 := Lib.hid (hM1.blk B0'.out (by simp))
    clear hM1 rz0 rz1 rz2 rz3 rz4 rz5 rz6 rz7 rz8 cz0 cz1 cz2 cz3
    have rz0 := RB1.out.cell (i := 0) rfl
    have rz1 := RB1.out.cell (i := 1) rfl
    have rz2 := RB1.out.cell (i := 2) rfl
    have rz3 := RB1.out.cell (i := 3) rfl
    have rz4 := RB1.out.cell (i := 4) rfl
    have rz5 := RB1.out.cell (i := 5) rfl
    have rz6 := RB1.out.cell (i := 6) rfl
    have rz7 := RB1.out.cell (i := 7) rfl
    have rz8 := RB1.out.cell (i := 8) rfl
    have cz0 := CB1.out.cell (i := 0) rfl
    have cz1 := CB1.out.cell (i := 1) rfl
    have cz2 := CB1.out.cell (i := 2) rfl
    have cz3 := CB1.out.cell (i := 3) rfl
    have IR := Lib.hid (isC_of_blk RB1.out.drew)
    have IC := Lib.hid (isC_of_blk CB1.out.drew)
    go_wp2_with fail
    refine Go.YtndekdafiaogmaaLex.wp_region_held [8] [1, 3] [] (by kernel_rfl) (by kernel_rfl) ?_
    simp only [wpCut, List.take_succ_cons, List.take_zero, List.drop_succ_cons, List.drop_zero, List.cons_append, List.nil_append]
    go_wp2_with fail
    refine (U.out _).mono ?_
    rintro e2 w2 ⟨rfl, hM2⟩
    have D2 := Lib.hid hM2
    have M2 := Lib.hid (M1.out.drew.trans hM2)
    have RB2 := Lib.hid (hM2.blk RB1.out.drew (by simp))
    have CB2 := Lib.hid (hM2.blk CB1.out.drew (by simp))
    clear hM2 rz0 rz1 rz2 rz3 rz4 rz5 rz6 rz7 rz8 cz0 cz1 cz2 cz3
    go_wp2_with fail
    refine ⟨D2.out, ?_⟩
    go_wp2_with fail
    refine ⟨by kernel_rfl, ⟨⟨by simp, IC.out⟩, ⟨by simp, IR.out⟩, trivial⟩, ?_⟩
    have rz0 := RB2.out.cell (i := 0) rfl
    have rz1 := RB2.out.cell (i := 1) rfl
    have cz0 := CB2.out.cell (i := 0) rfl
    have cz1 := CB2.out.cell (i := 1) rfl
    have cz2 := CB2.out.cell (i := 2) rfl
    have cz3 := CB2.out.cell (i := 3) rfl
    go_wp2_with fail
    go_ret
    exact ⟨by rw [HV.out]; show Ending.returned (.int .i64 0) = _; rw [Int.sub_self], M2.out⟩
  ·have dm : decide (c0 - xx < now) = false := by simp; omega
   have hmx : max (c0 - xx) now = c0 - xx := by omega
   have hwa : wrap64 ((c0 - xx) - c1) = (c0 - xx) - c1 := by unfold wrap64; omega
   have hwb : wrap64 ((c0 - xx) - now) = (c0 - xx) - now := by unfold wrap64; omega
   by_cases hy : (c0 - xx) - c1 < r1
   ·have dy : decide ((c0 - xx) - c1 < r1) = true := by simp; omega
    by_cases hq : r0 < c2 + c3 + cost
    ·have dq : decide (r0 < c2 + c3 + cost) = true := by simp; omega
     have HV := Lib.hid (show rv = c1 + r1 - now from by rw [← hrv2, if_neg hle, hmx, if_pos ⟨hy, hq⟩])
     clear hy hq hrv2 hle hmx hn hc1 hc2 hl hb hx0 hwi hfu hsi hca hus hxi hm
     go_enter Try.func24, Try.ntmps24
     have rz0 := B1.out.cell (i := 0) rfl
     have rz1 := B1.out.cell (i := 1) rfl
     have rz2 := B1.out.cell (i := 2) rfl
     have rz3 := B1.out.cell (i := 3) rfl
     have rz4 := B1.out.cell (i := 4) rfl
     have rz5 := B1.out.cell (i := 5) rfl
     have rz6 := B1.out.cell (i := 6) rfl
     have rz7 := B1.out.cell (i := 7) rfl
     have rz8 := B1.out.cell (i := 8) rfl
     have cz0 := B0'.out.cell (i := 0) rfl
     have cz1 := B0'.out.cell (i := 1) rfl
     have cz2 := B0'.out.cell (i := 2) rfl
     have cz3 := B0'.out.cell (i := 3) rfl
     go_wp2_with fail
     refine (RM.out _).mono ?_
     rintro e1 w1 ⟨rfl, hM1⟩
     have M1 := Lib.hid (M0.out.trans hM1)
     have RB1 := Lib.hid (hM1.blk B1.out (by simp))
     have CB1 := Lib.hid (hM1.blk B0'.out (by simp))
     clear hM1 rz0 rz1 rz2 rz3 rz4 rz5 rz6 rz7 rz8 cz0 cz1 cz2 cz3
     have rz0 := RB1.out.cell (i := 0) rfl
     have rz1 := RB1.out.cell (i := 1) rfl
     have rz2 := RB1.out.cell (i := 2) rfl
     have rz3 := RB1.out.cell (i := 3) rfl
     have rz4 := RB1.out.cell (i := 4) rfl
     have rz5 := RB1.out.cell (i := 5) rfl
     have rz6 := RB1.out.cell (i := 6) rfl
     have rz7 := RB1.out.cell (i := 7) rfl
     have rz8 := RB1.out.cell (i := 8) rfl
     have cz0 := CB1.out.cell (i := 0) rfl
     have cz1 := CB1.out.cell (i := 1) rfl
     have cz2 := CB1.out.cell (i := 2) rfl
     have cz3 := CB1.out.cell (i := 3) rfl
     have IR := Lib.hid (isC_of_blk RB1.out.drew)
     have IC := Lib.hid (isC_of_blk CB1.out.drew)
     go_wp2_with fail
     refine Go.YtndekdafiaogmaaLex.wp_region_held [8] [1, 3] [] (by kernel_rfl) (by kernel_rfl) ?_
     simp only [wpCut, List.take_succ_cons, List.take_zero, List.drop_succ_cons, List.drop_zero, List.cons_append, List.nil_append]
     go_wp2_with fail
     refine (U.out _).mono ?_
     rintro e2 w2 ⟨rfl, hM2⟩
     have D2 := Lib.hid hM2
     have M2 := Lib.hid (M1.out.drew.trans hM2)
     have RB2 := Lib.hid (hM2.blk RB1.out.drew (by simp))
     have CB2 := Lib.hid (hM2.blk CB1.out.drew (by simp))
     clear hM2 rz0 rz1 rz2 rz3 rz4 rz5 rz6 rz7 rz8 cz0 cz1 cz2 cz3
     go_wp2_with fail
     refine ⟨D2.out, ?_⟩
     go_wp2_with fail
     refine ⟨by kernel_rfl, ⟨⟨by simp, IC.out⟩, ⟨by simp, IR.out⟩, trivial⟩, ?_⟩
     have rz0 := RB2.out.cell (i := 0) rfl
     have rz1 := RB2.out.cell (i := 1) rfl
     have cz0 := CB2.out.cell (i := 0) rfl
     have cz1 := CB2.out.cell (i := 1) rfl
     have cz2 := CB2.out.cell (i := 2) rfl
     have cz3 := CB2.out.cell (i := 3) rfl
     go_wp2_with fail
     go_ret
     exact ⟨by rw [HV.out]; show Ending.returned (.int .i64 (wrap64 (c1 + r1 - now))) = _; rw [hw8], M2.out⟩
    ·have dq : decide (r0 < c2 + c3 + cost) = false := by simp; omega
     have HV := Lib.hid (show rv = (c0 - xx) - now from by rw [← hrv2, if_neg hle, hmx, if_neg (fun hh => hq hh.2)])
     clear hy hq hrv2 hle hmx hn hc1 hc2 hl hb hx0 hwi hfu hsi hca hus hxi hm
     go_enter Try.func24, Try.ntmps24
     have rz0 := B1.out.cell (i := 0) rfl
     have rz1 := B1.out.cell (i := 1) rfl
     have rz2 := B1.out.cell (i := 2) rfl
     have rz3 := B1.out.cell (i := 3) rfl
     have rz4 := B1.out.cell (i := 4) rfl
     have rz5 := B1.out.cell (i := 5) rfl
     have rz6 := B1.out.cell (i := 6) rfl
     have rz7 := B1.out.cell (i := 7) rfl
     have rz8 := B1.out.cell (i := 8) rfl
     have cz0 := B0'.out.cell (i := 0) rfl
     have cz1 := B0'.out.cell (i := 1) rfl
     have cz2 := B0'.out.cell (i := 2) rfl
     have cz3 := B0'.out.cell (i := 3) rfl
     go_wp2_with fail
     refine (RM.out _).mono ?_
     rintro e1 w1 ⟨rfl, hM1⟩
     have M1 := Lib.hid (M0.out.trans hM1)
     have RB1 := Lib.hid (hM1.blk B1.out (by simp))
     have CB1 := Lib.hid (hM1.blk B0'.out (by simp))
     clear hM1 rz0 rz1 rz2 rz3 rz4 rz5 rz6 rz7 rz8 cz0 cz1 cz2 cz3
     have rz0 := RB1.out.cell (i := 0) rfl
     have rz1 := RB1.out.cell (i := 1) rfl
     have rz2 := RB1.out.cell (i := 2) rfl
     have rz3 := RB1.out.cell (i := 3) rfl
     have rz4 := RB1.out.cell (i := 4) rfl
     have rz5 := RB1.out.cell (i := 5) rfl
     have rz6 := RB1.out.cell (i := 6) rfl
     have rz7 := RB1.out.cell (i := 7) rfl
     have rz8 := RB1.out.cell (i := 8) rfl
     have cz0 := CB1.out.cell (i := 0) rfl
     have cz1 := CB1.out.cell (i := 1) rfl
     have cz2 := CB1.out.cell (i := 2) rfl
     have cz3 := CB1.out.cell (i := 3) rfl
     have IR := Lib.hid (isC_of_blk RB1.out.drew)
     have IC := Lib.hid (isC_of_blk CB1.out.drew)
     go_wp2_with fail
     refine Go.YtndekdafiaogmaaLex.wp_region_held [8] [1, 3] [] (by kernel_rfl) (by kernel_rfl) ?_
     simp only [wpCut, List.take_succ_cons, List.take_zero, List.drop_succ_cons, List.drop_zero, List.cons_append, List.nil_append]
     go_wp2_with fail
     refine (U.out _).mono ?_
     rintro e2 w2 ⟨rfl, hM2⟩
     have D2 := Lib.hid hM2
     have M2 := Lib.hid (M1.out.drew.trans hM2)
     have RB2 := Lib.hid (hM2.blk RB1.out.drew (by simp))
     have CB2 := Lib.hid (hM2.blk CB1.out.drew (by simp))
     clear hM2 rz0 rz1 rz2 rz3 rz4 rz5 rz6 rz7 rz8 cz0 cz1 cz2 cz3
     go_wp2_with fail
     refine ⟨D2.out, ?_⟩
     go_wp2_with fail
     refine ⟨by kernel_rfl, ⟨⟨by simp, IC.out⟩, ⟨by simp, IR.out⟩, trivial⟩, ?_⟩
     have rz0 := RB2.out.cell (i := 0) rfl
     have rz1 := RB2.out.cell (i := 1) rfl
     have cz0 := CB2.out.cell (i := 0) rfl
     have cz1 := CB2.out.cell (i := 1) rfl
     have cz2 := CB2.out.cell (i := 2) rfl
     have cz3 := CB2.out.cell (i := 3) rfl
     go_wp2_with fail
     go_ret
     exact ⟨by rw [HV.out]; show Ending.returned (.int .i64 (wrap64 ((c0 - xx) - now))) = _; rw [hwb], M2.out⟩
   ·have dy : decide ((c0 - xx) - c1 < r1) = false := by simp; omega
    have HV := Lib.hid (show rv = (c0 - xx) - now from by rw [← hrv2, if_neg hle, hmx, if_neg (fun hh => hy hh.1)])
    clear hy hrv2 hle hmx hn hc1 hc2 hl hb hx0 hwi hfu hsi hca hus hxi hm
    go_enter Try.func24, Try.ntmps24
    have rz0 := B1.out.cell (i := 0) rfl
    have rz1 := B1.out.cell (i := 1) rfl
    have rz2 := B1.out.cell (i := 2) rfl
    have rz3 := B1.out.cell (i := 3) rfl
    have rz4 := B1.out.cell (i := 4) rfl
    have rz5 := B1.out.cell (i := 5) rfl
    have rz6 := B1.out.cell (i := 6) rfl
    have rz7 := B1.out.cell (i := 7) rfl
    have rz8 := B1.out.cell (i := 8) rfl
    have cz0 := B0'.out.cell (i := 0) rfl
    have cz1 := B0'.out.cell (i := 1) rfl
    have cz2 := B0'.out.cell (i := 2) rfl
    have cz3 := B0'.out.cell (i := 3) rfl
    go_wp2_with fail
    refine (RM.out _).mono ?_
    rintro e1 w1 ⟨rfl, hM1⟩
    have M1 := Lib.hid (M0.out.trans hM1)
    have RB1 := Lib.hid (hM1.blk B1.out (by simp))
    have CB1 := Lib.hid (hM1.blk B0'.out (by simp))
    clear hM1 rz0 rz1 rz2 rz3 rz4 rz5 rz6 rz7 rz8 cz0 cz1 cz2 cz3
    have rz0 := RB1.out.cell (i := 0) rfl
    have rz1 := RB1.out.cell (i := 1) rfl
    have rz2 := RB1.out.cell (i := 2) rfl
    have rz3 := RB1.out.cell (i := 3) rfl
    have rz4 := RB1.out.cell (i := 4) rfl
    have rz5 := RB1.out.cell (i := 5) rfl
    have rz6 := RB1.out.cell (i := 6) rfl
    have rz7 := RB1.out.cell (i := 7) rfl
    have rz8 := RB1.out.cell (i := 8) rfl
    have cz0 := CB1.out.cell (i := 0) rfl
    have cz1 := CB1.out.cell (i := 1) rfl
    have cz2 := CB1.out.cell (i := 2) rfl
    have cz3 := CB1.out.cell (i := 3) rfl
    have IR := Lib.hid (isC_of_blk RB1.out.drew)
    have IC := Lib.hid (isC_of_blk CB1.out.drew)
    go_wp2_with fail
    refine Go.YtndekdafiaogmaaLex.wp_region_held [8] [1, 3] [] (by kernel_rfl) (by kernel_rfl) ?_
    simp only [wpCut, List.take_succ_cons, List.take_zero, List.drop_succ_cons, List.drop_zero, List.cons_append, List.nil_append]
    go_wp2_with fail
    refine (U.out _).mono ?_
    rintro e2 w2 ⟨rfl, hM2⟩
    have D2 := Lib.hid hM2
    have M2 := Lib.hid (M1.out.drew.trans hM2)
    have RB2 := Lib.hid (hM2.blk RB1.out.drew (by simp))
    have CB2 := Lib.hid (hM2.blk CB1.out.drew (by simp))
    clear hM2 rz0 rz1 rz2 rz3 rz4 rz5 rz6 rz7 rz8 cz0 cz1 cz2 cz3
    go_wp2_with fail
    refine ⟨D2.out, ?_⟩
    go_wp2_with fail
    refine ⟨by kernel_rfl, ⟨⟨by simp, IC.out⟩, ⟨by simp, IR.out⟩, trivial⟩, ?_⟩
    have rz0 := RB2.out.cell (i := 0) rfl
    have rz1 := RB2.out.cell (i := 1) rfl
    have cz0 := CB2.out.cell (i := 0) rfl
    have cz1 := CB2.out.cell (i := 1) rfl
    have cz2 := CB2.out.cell (i := 2) rfl
    have cz3 := CB2.out.cell (i := 3) rfl
    go_wp2_with fail
    go_ret
    exact ⟨by rw [HV.out]; show Ending.returned (.int .i64 (wrap64 ((c0 - xx) - now))) = _; rw [hwb], M2.out⟩
end Go.Proofs.Ytndekdafiaogmaa.Lim
end
