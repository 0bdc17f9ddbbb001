/- frame's laws: FrameApart. -/
import Derived.Test.YtpjmoomjbcplgaaFrameReq
import Derived.Test.YtpjmoomjbcplgaaFrameFit
namespace Go.Proofs.Ytpjmoomjbcplgaa.Frame
open Go Go.RowKit Go.YtpjmoomjbcplgaaMem Go.YtpjmoomjbcplgaaLex
set_option linter.unusedVariables false
set_option linter.unusedSimpArgs false

/-- What a request's calls give. -/
structure Known (q : Req) (bs : List UInt8) (n : Int) : Prop where
  light : ∀ w, Calls Try.prog 13 #[q.val] w fun e w' => e = .returned (.bool true) ∧ Mod [] w w'
  right : ∀ w, Calls Try.prog 14 #[q.val, .int .i64 n] w fun e w' => e = .returned (.bool true) ∧ Mod [] w w'
  enc : ∀ w, Calls Try.prog 15 #[q.val] w (Fresh w bs)
  len : 6 ≤ bs.length ∧ bs.length ≤ 75
theorem known {q : Req} {n : Int} (c : q.cost < 4294967296) (l : q.key.length ≤ 300) (h : q.may n) : Known q q.bytes n := by
  refine ⟨fun w => ?_, fun w => ?_, fun w => encode_any w q c l, ?_⟩
  · have := light_any w q; rwa [decide_eq_true l] at this
  · have := refRight w q n; unfold RightPost at this; rwa [decide_eq_true h] at this
  · have := Req.may_len h
    have : q.bytes.length = 4 + q.body.length := frame_length _ _
    omega

set_option maxRecDepth 4000 in
set_option maxHeartbeats 1600000 in
theorem apart_main (w : World) (p q : Req) (bp bq : List UInt8) (kp : Known p bp 9) (kq : Known q bq 9) (hap : p ≠ q → bp.take (min bp.length bq.length) ≠ bq.take (min bp.length bq.length)) (heq : p = q → bp = bq) :
    Calls Try.prog 3 #[p.val, q.val] w (TruePost w) := by
  have HAP := Lib.hid hap
  have HEQ := Lib.hid heq
  have KP := Lib.hid kp
  have KQ := Lib.hid kq
  obtain ⟨lp1, lp2⟩ := kp.len
  obtain ⟨lq1, lq2⟩ := kq.len
  clear hap heq kp kq
  have B1 := Lib.hid (Blk.alloc (Box.new w p rfl) (.cells q.cells.toArray 24))
  have B2 := Lib.hid (Box.new (w.alloc (.cells p.cells.toArray 24)) q (n := w.heap.size + 1) (by simp))
  obtain ⟨op, rule, cost, key, k⟩ := p
  obtain ⟨op', rule', cost', key', k'⟩ := q
  simp only [Req.val] at *
  go_enter Try.func3, Try.ntmps3
  go_wp2_with fail
  refine (fit_any _).mono ?_
  rintro e w1 ⟨rfl, hM1⟩
  obtain ⟨p0, p1, p2, p3, p4⟩ := Box.facts (Box.mod B1.out hM1)
  have M1 := Lib.hid hM1
  clear hM1
  go_wp2_with fail
  refine (KP.out.light _).mono ?_
  rintro e w2 ⟨rfl, hM2⟩
  clear p0 p1 p2 p3 p4
  have M2 := Lib.hid (M1.out.trans hM2)
  clear hM2
  obtain ⟨q0, q1, q2, q3, q4⟩ := Box.facts (Box.mod B2.out M2.out)
  go_wp2_with fail
  refine (KQ.out.light _).mono ?_
  rintro e w3 ⟨rfl, hM3⟩
  clear q0 q1 q2 q3 q4
  have M3 := Lib.hid (M2.out.trans hM3)
  clear hM3
  obtain ⟨p0, p1, p2, p3, p4⟩ := Box.facts (Box.mod B1.out M3.out)
  go_wp2_with fail
  refine (KP.out.right _).mono ?_
  rintro e w4 ⟨rfl, hM4⟩
  clear p0 p1 p2 p3 p4
  have M4 := Lib.hid (M3.out.trans hM4)
  clear hM4
  obtain ⟨q0, q1, q2, q3, q4⟩ := Box.facts (Box.mod B2.out M4.out)
  go_wp2_with fail
  refine (KQ.out.right _).mono ?_
  rintro e w5 ⟨rfl, hM5⟩
  clear q0 q1 q2 q3 q4
  have M5 := Lib.hid (M4.out.trans hM5)
  clear hM5
  obtain ⟨p0, p1, p2, p3, p4⟩ := Box.facts (Box.mod B1.out M5.out)
  go_wp2_with fail
  refine wp_region_held [2] [2] [] (by kernel_rfl) (by kernel_rfl) ?_
  simp only [wpCut, List.take_succ_cons, List.take_zero, List.drop_succ_cons, List.drop_zero]
  go_wp2_with fail
  refine (KP.out.enc _).mono ?_
  rintro e w6 ⟨v6, rfl, ho6, hM6⟩
  clear p0 p1 p2 p3 p4
  have HM6 := Lib.hid hM6
  have M6 := Lib.hid (M5.out.drew.trans hM6)
  have s5 := M5.out.size
  have ho6' := own_base ho6 s5
  have HO6 := Lib.hid ho6
  clear ho6' hM6 ho6
  obtain ⟨q0, q1, q2, q3, q4⟩ := Box.facts (Box.mod B2.out M6.out)
  go_wp2_with fail
  refine ⟨HM6.out, ?_⟩
  go_wp2_with fail
  refine (KQ.out.enc _).mono ?_
  rintro e w7 ⟨v7, rfl, ho7, hM7⟩
  have HM7 := Lib.hid hM7
  have M7 := Lib.hid (M6.out.trans hM7)
  have ho6' := hM7.own HO6.out (fun b hb => by simp)
  have HO6' := Lib.hid ho6'
  have HO7 := Lib.hid ho7
  have isc := isC_of_cell (q0)
  clear q0 q1 q2 q3 q4
  obtain ⟨p0, p1, p2, p3, p4⟩ := Box.facts (Box.mod B1.out M7.out)
  obtain ⟨q0, q1, q2, q3, q4⟩ := Box.facts (Box.mod B2.out M7.out)
  have isc5 : IsC w5.drew (w.heap.size + 1) := isC_of_cell (w := w5) (Box.facts (Box.mod B2.out M5.out)).1
  clear ho6' hM7 ho7 isc
  go_wp2_with fail
  refine ⟨by kernel_rfl, ⟨⟨by simp, isc5⟩, trivial⟩, ?_⟩
  obtain ⟨g6, c6, rfl, hg6, hl6, hc6⟩ := own_one HO6'.out (by omega)
  obtain ⟨g7, c7, rfl, hg7, hl7, hc7⟩ := own_one HO7.out (by omega)
  have hcv6 := own_str (P := Try.prog) HO6'.out Try.underlying28 Try.underlying5 Try.underlying9
  have hcv7 := own_str (P := Try.prog) HO7.out Try.underlying28 Try.underlying5 Try.underlying9
  have hk6 : bp.length ≤ c6 ∧ c6 ≤ maxLen := by
    rcases HO6'.out.2 with ⟨h, _⟩ | ⟨g, cap, cur, h, _, _, h1, h2, _⟩
    · cases h
    · injection h with _ _ h; subst h; exact ⟨h1, h2⟩
  have hk7 : bq.length ≤ c7 ∧ c7 ≤ maxLen := by
    rcases HO7.out.2 with ⟨h, _⟩ | ⟨g, cap, cur, h, _, _, h1, h2, _⟩
    · cases h
    · injection h with _ _ h; subst h; exact ⟨h1, h2⟩
  have HC6 := Lib.hid hc6
  have HC7 := Lib.hid hc7
  clear hc6 hc7
  by_cases hpq : op = op' ∧ rule = rule' ∧ (cost : Int) = cost' ∧ key = key' ∧ k = k'
  · obtain ⟨rfl, rfl, hcc, rfl, rfl⟩ := hpq
    obtain rfl : cost = cost' := by omega
    obtain rfl := HEQ.out rfl
    have hself : ((ByteArray.mk bp.toArray).toList == (ByteArray.mk bp.toArray).toList) = true := by simp
    clear hcc
    go_wp2_with fail
    go_ret
    exact ⟨rfl, (((Mod.refl [] w).alloc _).alloc _).trans M7.out⟩
  · have hne := HAP.out (fun h => hpq (by simp only [Req.mk.injEq] at h; obtain ⟨rfl, rfl, rfl, rfl, rfl⟩ := h; simp))
    have hmn : ∀ w : World, (Builtin.min_ #[3, 3] 3 #[.int .i64 bp.length, .int .i64 bq.length]).run Try.prog w = .ok (.int .i64 (min bp.length bq.length : Nat)) w := fun w => by
      show Result.ok (Value.int .i64 (if (bq.length : Int) < bp.length then (bq.length : Int) else bp.length)) w = _
      congr 2; omega
    generalize hm : min bp.length bq.length = m at hne hmn
    have hm1 : m ≤ bp.length ∧ m ≤ bq.length ∧ 6 ≤ m := by omega
    have hcs6 := run_str (P := Try.prog) (Sl.part (w := w7.drew) (b := g6) (off := 0) (c := c6) (i := 0) (m := m) (bs := bp) hl6 (fun i u h => by rw [Nat.zero_add]; exact HC6.out i u h) (by omega) (by omega) hk6.2) Try.underlying28 Try.underlying5 Try.underlying9
    have hcs7 := run_str (P := Try.prog) (Sl.part (w := w7.drew) (b := g7) (off := 0) (c := c7) (i := 0) (m := m) (bs := bq) hl7 (fun i u h => by rw [Nat.zero_add]; exact HC7.out i u h) (by omega) (by omega) hk7.2) Try.underlying28 Try.underlying5 Try.underlying9
    rw [List.drop_zero, Nat.add_zero] at hcs6 hcs7
    have hbb : (bp.take m == bq.take m) = false := by simpa using hne
    clear hm hne
    go_wp2_with fail
    · exact absurd ⟨by assumption, by assumption, by assumption, by assumption, by assumption⟩ hpq
    all_goals refine wp_region_lex (by kernel_rfl) (by kernel_rfl) ?_
    all_goals go_wp2
    all_goals refine ⟨by kernel_rfl, ?_⟩
    all_goals go_wp2
    all_goals go_ret
    all_goals exact ⟨rfl, (((Mod.refl [] w).alloc _).alloc _).trans M7.out.drew⟩

theorem apart_walk (w : World) (p : Req) (cp : p.cost < 4294967296) (q : Req) (cq : q.cost < 4294967296) :
    Calls Try.prog 3 #[p.val, q.val] w fun e w' => e = .returned (.bool true) ∧ Mod [] w w' := by
  by_cases hgood : (p.key.length ≤ 300 ∧ q.key.length ≤ 300) ∧ p.may 9 ∧ q.may 9
  · obtain ⟨⟨lp, lq⟩, hp, hq⟩ := hgood
    exact apart_main w p q _ _ (known cp lp hp) (known cq lq hq) (fun hne h => hne (bytes_apart hp hq cp cq h)) (fun h => by rw [h])
  · have LP := fun w => light_any w p
    have LQ := fun w => light_any w q
    have RP := fun w => refRight w p 9
    have RQ := fun w => refRight w q 9
    unfold RightPost at RP RQ
    generalize hlp : decide (p.key.length ≤ 300) = xlp at LP
    generalize hlq : decide (q.key.length ≤ 300) = xlq at LQ
    generalize hrp : decide (p.may 9) = xrp at RP
    generalize hrq : decide (q.may 9) = xrq at RQ
    have hbad : xlp = false ∨ xlq = false ∨ xrp = false ∨ xrq = false := by
      cases xlp <;> cases xlq <;> cases xrp <;> cases xrq <;> simp
      simp only [decide_eq_true_eq] at hlp hlq hrp hrq
      exact hgood ⟨⟨hlp, hlq⟩, hrp, hrq⟩
    have HLP := Lib.hid LP
    have HLQ := Lib.hid LQ
    have HRP := Lib.hid RP
    have HRQ := Lib.hid RQ
    clear LP LQ RP RQ hlp hlq hrp hrq hgood
    have B1 := Lib.hid (Blk.alloc (Box.new w p rfl) (.cells q.cells.toArray 24))
    have B2 := Lib.hid (Box.new (w.alloc (.cells p.cells.toArray 24)) q (n := w.heap.size + 1) (by simp))
    obtain ⟨op, rule, cost, key, k⟩ := p
    obtain ⟨op', rule', cost', key', k'⟩ := q
    simp only [Req.val] at *
    go_enter Try.func3, Try.ntmps3
    go_wp2_with fail
    refine (fit_any _).mono ?_
    rintro e w1 ⟨rfl, hM1⟩
    obtain ⟨p0, p1, p2, p3, p4⟩ := Box.facts (Box.mod B1.out hM1)
    have M1 := Lib.hid hM1
    clear hM1
    go_wp2_with fail
    refine (HLP.out _).mono ?_
    rintro e w2 ⟨rfl, hM2⟩
    clear p0 p1 p2 p3 p4
    have M2 := Lib.hid (M1.out.trans hM2)
    clear hM2
    cases xlp
    · go_wp2_with fail
      go_ret
      exact ⟨rfl, (((Mod.refl [] w).alloc _).alloc _).trans M2.out⟩
    obtain ⟨q0, q1, q2, q3, q4⟩ := Box.facts (Box.mod B2.out M2.out)
    go_wp2_with fail
    refine (HLQ.out _).mono ?_
    rintro e w3 ⟨rfl, hM3⟩
    clear q0 q1 q2 q3 q4
    have M3 := Lib.hid (M2.out.trans hM3)
    clear hM3
    cases xlq
    · go_wp2_with fail
      go_ret
      exact ⟨rfl, (((Mod.refl [] w).alloc _).alloc _).trans M3.out⟩
    obtain ⟨p0, p1, p2, p3, p4⟩ := Box.facts (Box.mod B1.out M3.out)
    go_wp2_with fail
    refine (HRP.out _).mono ?_
    rintro e w4 ⟨rfl, hM4⟩
    clear p0 p1 p2 p3 p4
    have M4 := Lib.hid (M3.out.trans hM4)
    clear hM4
    cases xrp
    · go_wp2_with fail
      go_ret
      exact ⟨rfl, (((Mod.refl [] w).alloc _).alloc _).trans M4.out⟩
    obtain ⟨q0, q1, q2, q3, q4⟩ := Box.facts (Box.mod B2.out M4.out)
    go_wp2_with fail
    refine (HRQ.out _).mono ?_
    rintro e w5 ⟨rfl, hM5⟩
    clear q0 q1 q2 q3 q4
    have M5 := Lib.hid (M4.out.trans hM5)
    clear hM5
    cases xrq
    · go_wp2_with fail
      go_ret
      exact ⟨rfl, (((Mod.refl [] w).alloc _).alloc _).trans M5.out⟩
    · simp at hbad
end Go.Proofs.Ytpjmoomjbcplgaa.Frame
