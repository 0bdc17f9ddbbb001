/- frame.Right: what may be a request. -/
import Derived.Test.YtpjmoomjbcplgaaFrameRight
namespace Go.Proofs.Ytpjmoomjbcplgaa.Frame
open Go Go.RowKit Go.YtpjmoomjbcplgaaMem Go.YtpjmoomjbcplgaaLex
set_option linter.unusedVariables false
set_option linter.unusedSimpArgs false

set_option maxHeartbeats 1600000 in
theorem codeRight (w : World) (q : Req) (rules : Int) :
    Calls Try.prog 20 #[q.val, .int .i64 rules] w (RightPost q rules w) := by
  obtain ⟨op, rule, cost, key, k⟩ := q
  simp only [Req.val] at *
  obtain ⟨n, hn⟩ : ∃ n, key.length = n := ⟨_, rfl⟩
  have hkl : (key = []) = (n = 0) := by rw [← hn, List.length_eq_zero_iff]
  have hke : key.isEmpty = decide (n = 0) := by rw [← hn]; cases key <;> simp
  by_cases e1 : op = 1
  · subst e1
    go_enter Try.func20, Try.ntmps20
    go_wp2
    all_goals go_ret
    all_goals refine ⟨?_, (Mod.refl [] w).alloc _⟩
    all_goals refine may_fin ?_
    all_goals simp only [Req.may, hkl, hn, hke, decide_eq_true_eq, beq_iff_eq, Bool.and_eq_true, Bool.false_eq_true, true_iff, false_iff, eq_self, Int.reduceEq, true_or, or_true, false_or, or_false, true_and, and_true, false_and, and_false, or_self]
    all_goals omega
  have b1 : (op == 1) = false := by simpa using e1
  by_cases e2 : op = 2
  · subst e2
    go_enter Try.func20, Try.ntmps20
    go_wp2
    all_goals go_ret
    all_goals refine ⟨?_, (Mod.refl [] w).alloc _⟩
    all_goals refine may_fin ?_
    all_goals simp only [Req.may, hkl, hn, hke, decide_eq_true_eq, beq_iff_eq, Bool.and_eq_true, Bool.false_eq_true, true_iff, false_iff, eq_self, Int.reduceEq, true_or, or_true, false_or, or_false, true_and, and_true, false_and, and_false, or_self]
    all_goals omega
  have b2 : (op == 2) = false := by simpa using e2
  by_cases e3 : op = 3
  · subst e3
    go_enter Try.func20, Try.ntmps20
    go_wp2
    all_goals go_ret
    all_goals refine ⟨?_, (Mod.refl [] w).alloc _⟩
    all_goals refine may_fin ?_
    all_goals simp only [Req.may, hkl, hn, hke, decide_eq_true_eq, beq_iff_eq, Bool.and_eq_true, Bool.false_eq_true, true_iff, false_iff, eq_self, Int.reduceEq, true_or, or_true, false_or, or_false, true_and, and_true, false_and, and_false, or_self]
    all_goals omega
  have b3 : (op == 3) = false := by simpa using e3
  by_cases e4 : op = 4
  · subst e4
    go_enter Try.func20, Try.ntmps20
    go_wp2
    all_goals go_ret
    all_goals refine ⟨?_, (Mod.refl [] w).alloc _⟩
    all_goals refine may_fin ?_
    all_goals simp only [Req.may, hkl, hn, hke, decide_eq_true_eq, beq_iff_eq, Bool.and_eq_true, Bool.false_eq_true, true_iff, false_iff, eq_self, Int.reduceEq, true_or, or_true, false_or, or_false, true_and, and_true, false_and, and_false, or_self]
    all_goals omega
  have b4 : (op == 4) = false := by simpa using e4
  go_enter Try.func20, Try.ntmps20
  go_wp2
  all_goals go_ret
  all_goals refine ⟨?_, (Mod.refl [] w).alloc _⟩
  all_goals refine may_fin ?_
  all_goals simp only [Req.may, hkl, hn, hke, decide_eq_true_eq, beq_iff_eq, Bool.and_eq_true, Bool.false_eq_true, true_iff, false_iff, eq_self, Int.reduceEq, true_or, or_true, false_or, or_false, true_and, and_true, false_and, and_false, or_self]
  all_goals omega
end Go.Proofs.Ytpjmoomjbcplgaa.Frame
