/- arith: Sum (sums that stop at the ends), Ceil. -/
import Derived.Test.YtndekdafiaogmaaZFrameA
import Derived.WalkKit
set_option linter.unusedSimpArgs false
set_option linter.unusedVariables false
section
namespace Go.Proofs.Ytndekdafiaogmaa.Arith
open Go Go.RowKit Go.YtndekdafiaogmaaMem Go.YtndekdafiaogmaaLex
def I64 (a : Int) : Prop := -9223372036854775808 ≤ a ∧ a ≤ 9223372036854775807
instance (a : Int) : Decidable (I64 a) := by unfold I64; exact inferInstance
def sum (a b : Int) : Int := max (-9223372036854775808) (min 9223372036854775807 (a + b))
theorem sum_i64 (a b : Int) : I64 (sum a b) := by unfold I64 sum; omega
theorem sum_in {a b : Int} (h : I64 (a + b)) : sum a b = a + b := by unfold I64 at h; unfold sum; omega
set_option maxRecDepth 4000 in
theorem end_any (b : Bool) (w : World) : Calls Try.prog 76 #[.bool b] w fun e w' => e = .returned (.int .i64 (if b then -9223372036854775808 else 9223372036854775807)) ∧ w = w' := by
 cases b
 all_goals go_enter Try.func76, Try.ntmps76
 all_goals go_wp2_with fail
 all_goals go_ret
 all_goals exact ⟨rfl, rfl⟩
def addPost (a b : Int) (w : World) (e : Ending) (w' : World) : Prop :=
 ∃ s : Int, e = .returned (.tuple #[.int .i64 s, .bool (decide (I64 (a + b)))]) ∧ (I64 (a + b) → s = a + b) ∧ w = w'
set_option maxRecDepth 4000 in
theorem add_any (a b : Int) (ha : I64 a) (hb : I64 b) (w : World) : Calls Try.prog 75 #[.int .i64 a, .int .i64 b] w (addPost a b w) := by
 unfold addPost
 have h1 : (decide (a < wrap64 (a + b)) == decide (0 < b)) = decide (I64 (a + b)) := by
  unfold I64 at ha hb
  rw [Bool.eq_iff_iff]
  simp only [beq_iff_eq, decide_eq_decide, decide_eq_true_eq]
  unfold I64
  by_cases l1 : a + b < -9223372036854775808
  ·rw [show wrap64 (a + b) = a + b + 18446744073709551616 by unfold wrap64; omega]; (by_cases hb0 : 0 < b) <;> simp only [hb0, iff_true, iff_false] <;> omega
  ·by_cases l2 : 9223372036854775807 < a + b
   ·rw [show wrap64 (a + b) = a + b - 18446744073709551616 by unfold wrap64; omega]; (by_cases hb0 : 0 < b) <;> simp only [hb0, iff_true, iff_false] <;> omega
   ·rw [show wrap64 (a + b) = a + b by unfold wrap64; omega]; (by_cases hb0 : 0 < b) <;> simp only [hb0, iff_true, iff_false] <;> omega
 have h2 : I64 (a + b) → wrap64 (a + b) = a + b := by unfold I64 wrap64; omega
 obtain ⟨d, hd⟩ : ∃ d, decide (I64 (a + b)) = d := ⟨_, rfl⟩
 rw [hd] at h1
 have HH := Lib.hid h1
 have HD := Lib.hid hd
 have H2 := Lib.hid h2
 clear h1 h2 ha hb
 rw [hd]
 clear hd
 go_enter Try.func75, Try.ntmps75
 go_wp2_with fail
 go_ret2
 exact ⟨wrap64 (a + b), by first | rfl | (rw [← HH.out]; rfl), H2.out, rfl⟩
set_option maxRecDepth 4000 in
theorem sum_any (a b : Int) (ha : I64 a) (hb : I64 b) (w : World) : Calls Try.prog 42 #[.int .i64 a, .int .i64 b] w fun e w' => e = .returned (.int .i64 (sum a b)) ∧ w = w' := by
 have A := Lib.hid (add_any a b ha hb w)
 have E := Lib.hid (fun b => end_any b w)
 by_cases h : I64 (a + b)
 ·have hs : sum a b = a + b := sum_in h
  have d : decide (I64 (a + b)) = true := by simp [h]
  unfold addPost at A
  rw [d] at A
  rw [hs]
  have H := Lib.hid h
  clear ha hb hs d h
  go_enter Try.func42, Try.ntmps42
  go_wp2_with fail
  refine A.out.mono ?_
  rintro e1 w1 ⟨s, rfl, hs, rfl⟩
  have HS := Lib.hid (hs H.out)
  clear hs
  go_wp2_with fail
  go_ret
  exact ⟨by rw [← HS.out]; rfl, rfl⟩
 ·have d : decide (I64 (a + b)) = false := by simp [h]
  unfold addPost at A
  rw [d] at A
  by_cases h0 : a < 0
  ·have hs : sum a b = -9223372036854775808 := by unfold I64 at *; unfold sum; omega
   rw [hs]
   have d0 : decide (a < 0) = true := by simp [h0]
   have E1 := Lib.hid (E.out true)
   clear ha hb hs d h E
   go_enter Try.func42, Try.ntmps42
   go_wp2_with fail
   refine A.out.mono ?_
   rintro e1 w1 ⟨s, rfl, hs, rfl⟩
   clear hs
   go_wp2_with fail
   refine E1.out.mono ?_
   rintro e2 w2 ⟨rfl, rfl⟩
   go_wp2_with fail
   go_ret
   exact ⟨rfl, rfl⟩
  ·have hs : sum a b = 9223372036854775807 := by unfold I64 at *; unfold sum; omega
   rw [hs]
   have d0 : decide (a < 0) = false := by simp [h0]
   have E1 := Lib.hid (E.out false)
   clear ha hb hs d h E
   go_enter Try.func42, Try.ntmps42
   go_wp2_with fail
   refine A.out.mono ?_
   rintro e1 w1 ⟨s, rfl, hs, rfl⟩
   clear hs
   go_wp2_with fail
   refine E1.out.mono ?_
   rintro e2 w2 ⟨rfl, rfl⟩
   go_wp2_with fail
   go_ret
   exact ⟨rfl, rfl⟩
def ceil (a b : Int) : Int := if a < 0 ∨ b < 1 then 0 else a / b + (if 0 < a % b then 1 else 0)
set_option maxRecDepth 4000 in
theorem ceil_any (a b : Int) (ha : I64 a) (hb : I64 b) (h0 : 0 ≤ a) (h1 : 1 ≤ b) (w : World) : Calls Try.prog 60 #[.int .i64 a, .int .i64 b] w fun e w' => e = .returned (.int .i64 (ceil a b)) ∧ w = w' := by
 have d0 : decide (a < 0) = false := by simp; omega
 have d1 : decide (b < 1) = false := by simp; omega
 have hq : a.tdiv b = a / b := Int.tdiv_eq_ediv_of_nonneg h0
 have hr : a.tmod b = a % b := Int.tmod_eq_emod_of_nonneg h0
 have hq0 : 0 ≤ a / b := Int.ediv_nonneg h0 (by omega)
 have hr0 : 0 ≤ a % b := Int.emod_nonneg a (by omega)
 have hqa : a / b ≤ a := by
  have := Int.ediv_le_self b h0
  exact this
 have hdm := Int.mul_ediv_add_emod a b
 have hlt := Int.emod_lt_of_pos a (show 0 < b by omega)
 have hc : ceil a b = a / b + (if 0 < a % b then 1 else 0) := by unfold ceil; rw [if_neg (by omega)]
 have hbn : ¬ b = 0 := by omega
 have hbm : ¬ b = -1 := by omega
 have hq1 : 0 < a % b → a / b + 1 ≤ 9223372036854775807 := fun hp => by
  unfold I64 at ha
  rcases Int.lt_or_eq_of_le hqa with h | h
  ·omega
  ·exfalso
   rw [h] at hdm
   have : a ≤ b * a := by
    have := Int.mul_le_mul_of_nonneg_right h1 h0
    omega
   omega
 rw [hc]
 generalize a / b = q at *
 generalize a % b = r at *
 clear hdm hlt hc
 by_cases hp : 0 < r
 ·have dp : decide (0 < r) = true := by simp [hp]
  have hq2 := hq1 hp
  rw [if_pos hp]
  clear hq1
  unfold I64 at ha hb
  go_enter Try.func60, Try.ntmps60
  go_wp2_with fail
  go_ret
  exact ⟨rfl, rfl⟩
 ·have dp : decide (0 < r) = false := by simp [hp]
  rw [if_neg hp, Int.add_zero]
  clear hq1
  unfold I64 at ha hb
  go_enter Try.func60, Try.ntmps60
  go_wp2_with fail
  go_ret
  exact ⟨rfl, rfl⟩
end Go.Proofs.Ytndekdafiaogmaa.Arith
end
