/- frame's laws: FrameRules. -/
import Derived.Test.YtpjmoomjbcplgaaParseLaw
import Derived.Test.YtpjmoomjbcplgaaFrameLaw1
namespace Go.Proofs.Ytpjmoomjbcplgaa.Frame
open Go Go.RowKit Go.YtpjmoomjbcplgaaMem Go.YtpjmoomjbcplgaaLex
set_option linter.unusedVariables false
set_option linter.unusedSimpArgs false

theorem parse_at {w : World} {v : Value} {bs : List UInt8} (hv : Sl w v (vb bs)) (hc : bs.length ≤ 1000000) (rules : Int) {op rule k : Int} {cost : Nat} {key : List UInt8} {n e : Nat} (h : parse bs rules = (⟨op, rule, cost, key, k⟩, n, e)) :
    Calls Try.prog 22 #[v, .int .i64 rules] w fun x w' => x = .returned (.tuple #[.agg #[.int .i64 op, .int .i64 rule, .int .u32 cost, .string ⟨key.toArray⟩, .int .i64 k], .int .i64 n, .int .i64 e]) ∧ Mod [] w w' := by
  have := parse_any hv hc rules
  unfold ParsePost at this
  rw [h] at this
  exact this

theorem part0 {w w' : World} {g c m : Nat} {bs : List UInt8} (hM : Mod [] w w') (hb : g < w.heap.size) (hcell : ∀ i u, (vb bs)[i]? = some u → w.cell? ⟨g, 0 + i, none⟩ = some u) (h1 : m ≤ bs.length) (h2 : bs.length ≤ c) (h3 : c ≤ maxLen) :
    Sl w' (.slice (some ⟨g, 0, none⟩) m c) (vb (bs.take m)) := by
  have := Sl.part (w := w') (b := g) (off := 0) (c := c) (i := 0) (m := m) (bs := bs) (hM.lt hb) (fun i u h => (hM.cell hb (by simp)).trans (hcell i u h)) (by omega) (by omega) h3
  rwa [Nat.add_zero, List.drop_zero] at this

theorem know {q : Req} {n : Int} (c : q.cost < 4294967296) (l : q.key.length ≤ 300) (h : q.may n) : Known q q.bytes n := known c l h

set_option maxRecDepth 4000 in
set_option maxHeartbeats 1600000 in
theorem rules_main (w : World) (q : Req) (rules : Int) (cq : q.cost < 4294967296) (lq : q.key.length ≤ 300) (hq : q.may 256) :
    Calls Try.prog 8 #[q.val, .int .i64 rules] w (TruePost w) := by
  obtain ⟨r1, hr1, hr2⟩ : ∃ n : Nat, bits .and .i64 rules 255 = (n : Int) ∧ n < 256 := ⟨(rules % 256).toNat, by rw [show (255 : Int) = 2 ^ 8 - 1 from rfl, and_mask _ _ (by omega)]; omega, by omega⟩
  have KQ := Lib.hid (know cq lq hq)
  obtain ⟨lq1, lq2⟩ := KQ.out.len
  have B1 := Lib.hid (Box.new w q rfl)
  have RQ := fun w => codeRight w q (r1 : Int)
  have hfin : (¬ q.rule < r1) → decide (q.may r1) = false := fun h => by simp only [decide_eq_false_iff_not]; rintro ⟨_, h2, _⟩; exact h h2
  have P0 := parse_bytes hq cq [] (r1 : Int)
  rw [List.append_nil] at P0
  have P5 := parse_part hq 5 (by omega) (r1 : Int)
  rw [if_pos (.inr (by omega))] at P5
  have P6 : ∃ o ru k : Int, ∃ c : Nat, ∃ ke : List UInt8, ∃ n : Nat, parse (q.bytes.take 6) (r1 : Int) = (⟨o, ru, c, ke, k⟩, n, if q.rule < r1 then 0 else 9) := by
    by_cases h6 : 6 < q.bytes.length
    · have := parse_part hq 6 h6 (r1 : Int)
      by_cases hr : q.rule < r1
      · rw [if_pos (.inl hr)] at this; rw [if_pos hr]; exact ⟨_, _, _, _, _, _, this⟩
      · rw [if_neg (by omega)] at this; rw [if_neg hr]; exact ⟨_, _, _, _, _, _, this⟩
    · rw [List.take_of_length_le (by omega)]
      rw [P0]
      by_cases hr : q.rule < r1
      · rw [if_pos hr, if_pos hr]; exact ⟨_, _, _, _, _, _, rfl⟩
      · rw [if_neg hr, if_neg hr]; exact ⟨_, _, _, _, _, _, rfl⟩
  obtain ⟨o6, ru6, k6, c6, ke6, n6, P6⟩ := P6
  generalize hbs : q.bytes = bs at *
  have HP0 := Lib.hid P0
  have HP5 := Lib.hid P5
  have HP6 := Lib.hid P6
  have HRQ := Lib.hid RQ
  have HF := Lib.hid hfin
  clear P0 P5 P6 RQ hfin hbs cq lq hq
  obtain ⟨op, rule, cost, key, k⟩ := q
  simp only [Req.val] at *
  go_enter Try.func8, Try.ntmps8
  go_wp2_with fail
  refine (fit_any _).mono ?_
  rintro e w1 ⟨rfl, hM1⟩
  obtain ⟨p0, p1, p2, p3, p4⟩ := Box.facts (Box.mod B1.out hM1)
  have M1 := Lib.hid hM1
  clear hM1
  go_wp2_with fail
  refine (KQ.out.light _).mono ?_
  rintro e w2 ⟨rfl, hM2⟩
  clear p0 p1 p2 p3 p4
  have M2 := Lib.hid (M1.out.trans hM2)
  clear hM2
  obtain ⟨p0, p1, p2, p3, p4⟩ := Box.facts (Box.mod B1.out M2.out)
  go_wp2_with fail
  refine (KQ.out.right _).mono ?_
  rintro e w3 ⟨rfl, hM3⟩
  clear p0 p1 p2 p3 p4
  have M3 := Lib.hid (M2.out.trans hM3)
  clear hM3
  obtain ⟨p0, p1, p2, p3, p4⟩ := Box.facts (Box.mod B1.out M3.out)
  go_wp2_with fail
  refine (KQ.out.enc _).mono ?_
  rintro e w4 ⟨v4, rfl, ho4, hM4⟩
  clear p0 p1 p2 p3 p4
  have M4 := Lib.hid (M3.out.trans hM4)
  obtain ⟨g, c, rfl, hg, hl4, hc4⟩ := own_one ho4 (by omega)
  have hk : bs.length ≤ c ∧ c ≤ maxLen := by
    rcases ho4.2 with ⟨h, _⟩ | ⟨g, cap, cur, h, _, _, h1, h2, _⟩
    · cases h
    · injection h with _ _ h; subst h; exact ⟨h1, h2⟩
  have HO4 := Lib.hid ho4
  have HC4 : Hid (∀ i u, (vb bs)[i]? = some u → w4.cell? ⟨g, 0 + i, none⟩ = some u) := fun i u h => by rw [Nat.zero_add]; exact hc4 i u h
  clear hM4 ho4 hc4 hr1
  by_cases hr : rule < r1
  · have hd : decide (rule < (r1 : Int)) = true := by simpa using hr
    have e0 := HP0.out
    rw [if_pos hr] at e0
    have e6 := HP6.out
    rw [if_pos hr] at e6
    have HE0 := Lib.hid e0
    have HE6 := Lib.hid e6
    clear e0 e6
    go_wp2_with fail
    refine (parse_at (Sl.own HO4.out) (by omega) _ HE0.out).mono ?_
    rintro e w5 ⟨rfl, hM5⟩
    have N5 := Lib.hid (hM5.alloc (.cells #[.int .i64 op, .int .i64 rule, .int .u32 cost, .string ⟨key.toArray⟩, .int .i64 k] 24))
    clear hM5
    go_wp2_with fail
    refine (parse_at (part0 N5.out hl4 HC4.out (by omega) hk.1 hk.2) (by simp; omega) _ HP5.out).mono ?_
    rintro e w6 ⟨rfl, hM6⟩
    have N6 := Lib.hid ((N5.out.trans hM6).alloc (.cells #[.int .i64 0, .int .i64 0, .int .u32 0, .string ⟨#[]⟩, .int .i64 0] 24))
    clear hM6
    go_wp2_with fail
    refine (parse_at (part0 N6.out hl4 HC4.out (by omega) hk.1 hk.2) (by simp; omega) _ HE6.out).mono ?_
    rintro e w7 ⟨rfl, hM7⟩
    have N7 := Lib.hid ((N6.out.trans hM7).alloc (.cells #[.int .i64 o6, .int .i64 ru6, .int .u32 c6, .string ⟨ke6.toArray⟩, .int .i64 k6] 24))
    clear hM7
    obtain ⟨p0, p1, p2, p3, p4⟩ := Box.facts (Box.mod B1.out (M4.out.trans N7.out))
    go_wp2_with fail
    go_ret
    exact ⟨rfl, ((Mod.refl [] w).alloc _).trans (M4.out.trans N7.out)⟩
  · have hd : decide (rule < (r1 : Int)) = false := by simpa using hr
    have e0 := HP0.out
    rw [if_neg hr] at e0
    have e6 := HP6.out
    rw [if_neg hr] at e6
    have HE0 := Lib.hid e0
    have HE6 := Lib.hid e6
    clear e0 e6
    go_wp2_with fail
    refine (parse_at (Sl.own HO4.out) (by omega) _ HE0.out).mono ?_
    rintro e w5 ⟨rfl, hM5⟩
    have N5 := Lib.hid (hM5.alloc (.cells #[.int .i64 0, .int .i64 0, .int .u32 0, .string ⟨#[]⟩, .int .i64 0] 24))
    clear hM5
    go_wp2_with fail
    refine (parse_at (part0 N5.out hl4 HC4.out (by omega) hk.1 hk.2) (by simp; omega) _ HP5.out).mono ?_
    rintro e w6 ⟨rfl, hM6⟩
    have N6 := Lib.hid ((N5.out.trans hM6).alloc (.cells #[.int .i64 0, .int .i64 0, .int .u32 0, .string ⟨#[]⟩, .int .i64 0] 24))
    clear hM6
    go_wp2_with fail
    refine (parse_at (part0 N6.out hl4 HC4.out (by omega) hk.1 hk.2) (by simp; omega) _ HE6.out).mono ?_
    rintro e w7 ⟨rfl, hM7⟩
    have N7 := Lib.hid ((N6.out.trans hM7).alloc (.cells #[.int .i64 o6, .int .i64 ru6, .int .u32 c6, .string ⟨ke6.toArray⟩, .int .i64 k6] 24))
    clear hM7
    obtain ⟨p0, p1, p2, p3, p4⟩ := Box.facts (Box.mod B1.out (M4.out.trans N7.out))
    go_wp2_with fail
    refine (HRQ.out _).mono ?_
    rintro e w8 ⟨rfl, hM8⟩
    rw [HF.out hr]
    have N8 := Lib.hid (N7.out.trans hM8)
    clear hM8
    go_wp2_with fail
    go_ret
    exact ⟨rfl, ((Mod.refl [] w).alloc _).trans (M4.out.trans N8.out)⟩

set_option maxRecDepth 4000 in
theorem rules_walk (w : World) (q : Req) (cq : q.cost < 4294967296) (rules : Int) (hw : (Lit.int .i64 rules).wf = true) :
    Calls Try.prog 8 #[q.val, .int .i64 rules] w fun e w' => e = .returned (.bool true) ∧ Mod [] w w' := by
  by_cases hgood : q.key.length ≤ 300 ∧ q.may 256
  · exact rules_main w q rules cq hgood.1 hgood.2
  · have LQ := fun w => light_any w q
    have RQ := fun w => refRight w q 256
    unfold RightPost at RQ
    generalize hlq : decide (q.key.length ≤ 300) = xlq at LQ
    generalize hrq : decide (q.may 256) = xrq at RQ
    have hbad : xlq = false ∨ xrq = false := by
      cases xlq <;> cases xrq <;> simp
      simp only [decide_eq_true_eq] at hlq hrq
      exact hgood ⟨hlq, hrq⟩
    have HLQ := Lib.hid LQ
    have HRQ := Lib.hid RQ
    clear LQ RQ hlq hrq hgood
    have B1 := Lib.hid (Box.new w q rfl)
    obtain ⟨op, rule, cost, key, k⟩ := q
    simp only [Req.val] at *
    go_enter Try.func8, Try.ntmps8
    go_wp2_with fail
    refine (fit_any _).mono ?_
    rintro e w1 ⟨rfl, hM1⟩
    obtain ⟨p0, p1, p2, p3, p4⟩ := Box.facts (Box.mod B1.out hM1)
    have M1 := Lib.hid hM1
    clear hM1
    go_wp2_with fail
    refine (HLQ.out _).mono ?_
    rintro e w2 ⟨rfl, hM2⟩
    clear p0 p1 p2 p3 p4
    have M2 := Lib.hid (M1.out.trans hM2)
    clear hM2
    cases xlq
    · go_wp2_with fail
      go_ret
      exact ⟨rfl, ((Mod.refl [] w).alloc _).trans M2.out⟩
    obtain ⟨p0, p1, p2, p3, p4⟩ := Box.facts (Box.mod B1.out M2.out)
    go_wp2_with fail
    refine (HRQ.out _).mono ?_
    rintro e w3 ⟨rfl, hM3⟩
    clear p0 p1 p2 p3 p4
    have M3 := Lib.hid (M2.out.trans hM3)
    clear hM3
    cases xrq
    · go_wp2_with fail
      go_ret
      exact ⟨rfl, ((Mod.refl [] w).alloc _).trans M3.out⟩
    · simp at hbad
end Go.Proofs.Ytpjmoomjbcplgaa.Frame
