/- frame's laws: the example, and what is short. -/
import Derived.Test.YtpjmoomjbcplgaaFrameRight2
import Derived.Test.YtpjmoomjbcplgaaFrame
namespace Go.Proofs.Ytpjmoomjbcplgaa.Frame
open Go Go.RowKit Go.YtpjmoomjbcplgaaMem Go.YtpjmoomjbcplgaaLex
set_option linter.unusedVariables false
set_option linter.unusedSimpArgs false

set_option maxRecDepth 4000 in
theorem fit_any (w : World) : Calls Try.prog 12 #[] w fun e w' => e = .returned (.bool true) ∧ Mod [] w w' := by
  go_enter Try.func12, Try.ntmps12
  go_wp2_with fail
  refine (encode_any w ⟨3, 0, 0, [], 0⟩ (by decide) (by decide)).mono ?_
  rintro e w1 ⟨v, rfl, ho, hM⟩
  have hb : (Req.bytes ⟨3, 0, 0, [], 0⟩) = [167, 1, 0, 2, 3, 0] := by decide
  rw [hb] at ho
  obtain ⟨a, c, hv⟩ := ho.slice
  change v = .slice a 6 c at hv
  subst hv
  have hcv : (Go.convert 28 9 (.slice a 6 c)).run Try.prog w1 = .ok (.string ⟨#[167, 1, 0, 2, 3, 0]⟩) w1 := own_str (P := Try.prog) ho Try.underlying28 Try.underlying5 Try.underlying9
  have HM := Lib.hid hM
  clear ho hM
  go_wp2_with fail
  refine (codeRight w1 ⟨3, 0, 0, [], 0⟩ 1).mono ?_
  rintro e w2 ⟨rfl, hM2⟩
  have hd : decide (Req.may ⟨3, 0, 0, [], 0⟩ 1) = true := by decide
  rw [hd]
  have HM2 := Lib.hid (HM.out.trans hM2)
  clear hM2 hd
  go_wp2_with fail
  go_ret
  exact ⟨rfl, HM2.out⟩

theorem light_any (w : World) (q : Req) : Calls Try.prog 13 #[q.val] w fun e w' => e = .returned (.bool (decide (q.key.length ≤ 300))) ∧ Mod [] w w' := by
  obtain ⟨op, rule, cost, key, k⟩ := q
  simp only [Req.val] at *
  go_enter Try.func13, Try.ntmps13
  go_wp2
  all_goals go_ret
  refine ⟨?_, (Mod.refl [] w).alloc _⟩
  show Ending.returned (.bool (decide ((key.length : Int) ≤ 300))) = _
  congr 2; rw [decide_eq_decide]; omega
end Go.Proofs.Ytpjmoomjbcplgaa.Frame
