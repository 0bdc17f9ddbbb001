/- frame.Right and the document's: what may be a request. -/
import Derived.Test.YtpjmoomjbcplgaaFrameA
namespace Go.Proofs.Ytpjmoomjbcplgaa.Frame
open Go Go.RowKit Go.YtpjmoomjbcplgaaMem Go.YtpjmoomjbcplgaaLex
set_option linter.unusedVariables false
set_option linter.unusedSimpArgs false

def Req.may (q : Req) (rules : Int) : Prop := 0 ≤ q.rule ∧ q.rule < rules ∧ q.rule ≤ 255 ∧
  ((q.op = 1 ∨ q.op = 2) ∧ q.key.length ≤ 64 ∧ q.k = 0 ∨ q.op = 3 ∧ q.cost = 0 ∧ q.key = [] ∧ q.k = 0 ∨ q.op = 4 ∧ q.cost = 0 ∧ q.key = [] ∧ 0 ≤ q.k ∧ q.k ≤ 255)
instance (q : Req) (rules : Int) : Decidable (q.may rules) := by unfold Req.may; infer_instance

def RightPost (q : Req) (rules : Int) (w : World) (e : Ending) (w' : World) : Prop := e = .returned (.bool (decide (q.may rules))) ∧ Mod [] w w'

theorem may_fin {q : Req} {rules : Int} {b : Bool} (h : b = true ↔ q.may rules) : Ending.returned (.bool b) = Ending.returned (.bool (decide (q.may rules))) := by
  congr 2; rw [Bool.eq_iff_iff, h, decide_eq_true_eq]

set_option maxHeartbeats 1600000 in
theorem refRight (w : World) (q : Req) (rules : Int) :
    Calls Try.prog 14 #[q.val, .int .i64 rules] w (RightPost q rules w) := by
  obtain ⟨op, rule, cost, key, k⟩ := q
  simp only [Req.val] at *
  obtain ⟨n, hn⟩ : ∃ n, key.length = n := ⟨_, rfl⟩
  have hkl : (key = []) = (n = 0) := by rw [← hn, List.length_eq_zero_iff]
  have hke : key.isEmpty = decide (n = 0) := by rw [← hn]; cases key <;> simp
  go_enter Try.func14, Try.ntmps14
  go_wp2
  all_goals go_ret
  all_goals refine ⟨?_, (Mod.refl [] w).alloc _⟩
  all_goals refine may_fin ?_
  all_goals simp only [Req.may, hkl, hn, hke, decide_eq_true_eq, beq_iff_eq, Bool.and_eq_true, Bool.false_eq_true, true_iff, false_iff]
  all_goals omega

end Go.Proofs.Ytpjmoomjbcplgaa.Frame
