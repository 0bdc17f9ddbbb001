/- frame.Largest. -/
import Derived.Test.YtpjmoomjbcplgaaFrame
namespace Go.Proofs.Ytpjmoomjbcplgaa.Frame
open Go Go.RowKit Go.YtpjmoomjbcplgaaMem Go.YtpjmoomjbcplgaaLex
set_option linter.unusedVariables false
set_option linter.unusedSimpArgs false

def largest (q : Req) (track : Int) : Int := if q.op = 3 then 46 else if q.op = 4 then 7 + min (max q.k 1) track * 81 else 22
theorem largest_any (w : World) (q : Req) (track : Int) (hk : q.k ≤ 100000) (ht : 0 ≤ track ∧ track ≤ 100000) :
    Calls Try.prog 26 #[q.val, .int .i64 track] w fun e w' => e = .returned (.int .i64 (largest q track)) ∧ Mod [] w w' := by
  obtain ⟨op, rule, cost, key, k⟩ := q
  obtain ⟨m1, hm1⟩ : ∃ m1, m1 = max k 1 := ⟨_, rfl⟩
  obtain ⟨m, hm⟩ : ∃ m, m = min m1 track := ⟨_, rfl⟩
  have hmx : ∀ w : World, (Builtin.max_ #[3, 3] 3 #[.int .i64 k, .int .i64 1]).run Try.prog w = .ok (.int .i64 m1) w := fun w => by
    show Result.ok (Value.int .i64 (if 1 > k then 1 else k)) w = _
    congr 2; omega
  have hmn : ∀ w : World, (Builtin.min_ #[3, 3] 3 #[.int .i64 m1, .int .i64 track]).run Try.prog w = .ok (.int .i64 m) w := fun w => by
    show Result.ok (Value.int .i64 (if track < m1 then track else m1)) w = _
    congr 2; omega
  simp only at hk
  have hml : 0 ≤ m ∧ m ≤ 100000 := by omega
  have hL : largest ⟨op, rule, cost, key, k⟩ track = if op = 3 then 46 else if op = 4 then 7 + m * 81 else 22 := by unfold largest; simp only [← hm1, ← hm]
  have HL := Lib.hid hL
  clear hm1 hm hL
  simp only [Req.val]
  go_enter Try.func26, Try.ntmps26
  by_cases h3 : op = 3
  · subst h3
    go_wp2_with fail
    go_ret
    exact ⟨by rw [HL.out]; rfl, (Mod.refl [] w).alloc _⟩
  · have b3 : (op == 3) = false := by simpa using h3
    by_cases h4 : op = 4
    · subst h4
      go_wp2_with fail
      go_ret
      refine ⟨?_, (Mod.refl [] w).alloc _⟩
      rw [HL.out, if_neg (by omega), if_pos trivial]; rfl
    · have b4 : (op == 4) = false := by simpa using h4
      go_wp2_with fail
      go_ret
      refine ⟨?_, (Mod.refl [] w).alloc _⟩
      rw [HL.out, if_neg h3, if_neg h4]; rfl
end Go.Proofs.Ytpjmoomjbcplgaa.Frame
