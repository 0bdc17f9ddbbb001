/- frame's laws: FrameSizes, for all arguments. No condition. -/
import Derived.Test.YtpjmoomjbcplgaaFrameLaw6
namespace Go.Proofs.Ytpjmoomjbcplgaa.Frame
open Go Go.RowKit Go.YtpjmoomjbcplgaaMem Go.YtpjmoomjbcplgaaLex
set_option linter.unusedVariables false
set_option linter.unusedSimpArgs false

set_option maxRecDepth 4000 in
theorem sizes_early (w : World) (q : Req) (cq : q.cost < 4294967296) (a : Option Addr) (cp : Nat) (n : Nat) (hn : n ≤ 9223372036854775807) (hbad : ¬ (q.key.length ≤ 300 ∧ q.may 256 ∧ n ≤ 64)) :
    Calls Try.prog 4 #[q.val, .slice a n cp] w (TruePost w) := by
  have LQ := fun w => light_any w q
  have RQ := fun w => refRight w q 256
  unfold RightPost at RQ
  generalize hlq : decide (q.key.length ≤ 300) = xlq at LQ
  generalize hrq : decide (q.may 256) = xrq at RQ
  have hbad' : xlq = true → xrq = true → 64 < n := fun h1 h2 => by
    subst h1; subst h2
    simp only [decide_eq_true_eq] at hlq hrq
    exact Nat.lt_of_not_le fun h => hbad ⟨hlq, hrq, h⟩
  have HB := Lib.hid hbad'
  have HLQ := Lib.hid LQ
  have HRQ := Lib.hid RQ
  clear LQ RQ hlq hrq hbad hbad'
  have B1 := Lib.hid (Box.new w q rfl)
  obtain ⟨op, rule, cost, key, k⟩ := q
  simp only [Req.val] at *
  go_enter Try.func4, Try.ntmps4
  go_wp2_with fail
  refine (fit_any _).mono ?_
  rintro e w1 ⟨rfl, hM1⟩
  obtain ⟨p0, p1, p2, p3, p4⟩ := Box.facts (Box.mod B1.out hM1)
  have M1 := Lib.hid hM1
  clear hM1
  go_wp2_with fail
  refine (HLQ.out _).mono ?_
  rintro e w2 ⟨rfl, hM2⟩
  clear p0 p1 p2 p3 p4
  have M2 := Lib.hid (M1.out.trans hM2)
  clear hM2
  cases xlq
  · go_wp2_with fail
    go_ret
    exact ⟨rfl, ((Mod.refl [] w).alloc _).trans M2.out⟩
  obtain ⟨p0, p1, p2, p3, p4⟩ := Box.facts (Box.mod B1.out M2.out)
  go_wp2_with fail
  refine (HRQ.out _).mono ?_
  rintro e w3 ⟨rfl, hM3⟩
  clear p0 p1 p2 p3 p4
  have M3 := Lib.hid (M2.out.trans hM3)
  clear hM3
  cases xrq
  · go_wp2_with fail
    go_ret
    exact ⟨rfl, ((Mod.refl [] w).alloc _).trans M3.out⟩
  have h64 := HB.out (by first | rfl | trivial) (by first | rfl | trivial)
  have d64 : decide ((64 : Int) < n) = true := by simp; omega
  go_wp2_with fail
  go_ret
  exact ⟨rfl, ((Mod.refl [] w).alloc _).trans M3.out⟩

theorem sizes_walk (w : World) (q : Req) (cq : q.cost < 4294967296) (a : Option Addr) (cp : Nat) (l : List Cnt) (hlm : l.length ≤ maxLen) (hI : InC w a l) :
    Calls Try.prog 4 #[q.val, .slice a l.length cp] w (TruePost w) := by
  by_cases h : q.key.length ≤ 300 ∧ q.may 256 ∧ l.length ≤ 64
  · obtain ⟨h1, h2, h3⟩ := h
    obtain ⟨op, rule, cost, key, k⟩ := q
    have := h2.2.2
    simp only at this
    have hop : op = 1 ∨ op = 2 ∨ op = 3 ∨ op = 4 := by omega
    rcases hop with h | h | h | h
    · exact sizes_1 w op rule k cost key a cp l hI cq h1 h2 h3 h
    · exact sizes_2 w op rule k cost key a cp l hI cq h1 h2 h3 h
    · exact sizes_3 w op rule k cost key a cp l hI cq h1 h2 h3 h
    · exact sizes_4 w op rule k cost key a cp l hI cq h1 h2 h3 h
  · exact sizes_early w q cq a cp l.length (by unfold maxLen at hlm; omega) h
end Go.Proofs.Ytpjmoomjbcplgaa.Frame
