/- arith: Mul, Product (of numbers from 0 on, no more than 63 bits), divide, Up (no more than 64 bits). -/
import Derived.Test.YtndekdafiaogmaaZArith
import Derived.Test.YtndekdafiaogmaaZHash
set_option linter.unusedSimpArgs false
set_option linter.unusedVariables false
section
namespace Go.Proofs.Ytndekdafiaogmaa.Arith
open Go Go.RowKit Go.YtndekdafiaogmaaMem Go.YtndekdafiaogmaaLex Go.Proofs.Ytndekdafiaogmaa.Hash
set_option maxRecDepth 4000 in
theorem mul_small (a b : Nat) (ha : a < 9223372036854775808) (hb : b < 9223372036854775808) (h : a * b < 9223372036854775808) (w : World) :
  Calls Try.prog 98 #[.int .i64 (a : Int), .int .i64 (b : Int)] w fun e w' => e = .returned (.tuple #[.int .i64 ((a * b : Nat) : Int), .bool true]) ∧ w = w' := by
 have M := Lib.hid (fun W : World => mul64_any a b (by omega) (by omega) W)
 obtain ⟨m, hm⟩ : ∃ m, a * b = m := ⟨_, rfl⟩
 rw [hm] at M h ⊢
 rw [show m / 18446744073709551616 = 0 by omega, show m % 18446744073709551616 = m by omega] at M
 have d1 : decide ((a : Int) < 0) = false := by simp
 have d2 : decide ((b : Int) < 0) = false := by simp
 have hw1 : IntKind.u64.wrap (a : Int) = (a : Int) := by rw [IntKind.wrap_u64]; omega
 have hw2 : IntKind.u64.wrap (b : Int) = (b : Int) := by rw [IntKind.wrap_u64]; omega
 have hw3 : wrap64 (m : Int) = (m : Int) := by unfold wrap64; omega
 have hsh : (m : Int) / 9223372036854775808 = 0 := by omega
 clear hm
 go_enter Try.func98, Try.ntmps98
 go_wp2_with fail
 refine (M.out _).mono ?_
 rintro e1 w1 ⟨rfl, rfl⟩
 go_wp2_with fail
 go_ret2
 exact ⟨rfl, rfl⟩
set_option maxRecDepth 4000 in
theorem product_small (a b : Nat) (ha : a < 9223372036854775808) (hb : b < 9223372036854775808) (h : a * b < 9223372036854775808) (w : World) :
  Calls Try.prog 81 #[.int .i64 (a : Int), .int .i64 (b : Int)] w fun e w' => e = .returned (.int .i64 ((a * b : Nat) : Int)) ∧ w = w' := by
 have M := Lib.hid (fun W : World => mul_small a b ha hb h W)
 obtain ⟨m, hm⟩ : ∃ m, a * b = m := ⟨_, rfl⟩
 rw [hm] at M ⊢
 clear ha hb h hm
 go_enter Try.func81, Try.ntmps81
 go_wp2_with fail
 refine (M.out _).mono ?_
 rintro e1 w1 ⟨rfl, rfl⟩
 go_wp2_with fail
 go_ret
 exact ⟨rfl, rfl⟩
def QrPost (m c : Nat) (w : World) (e : Ending) (w' : World) : Prop := e = .returned (.tuple #[.int .u64 ((m / c : Nat) : Int), .int .u64 ((m % c : Nat) : Int)]) ∧ Mod [] w w'
set_option maxRecDepth 4000 in
theorem div64_small (m c : Nat) (hm : m < 18446744073709551616) (hc : 0 < c) (hc2 : c < 18446744073709551616) (w : World) :
  Calls Try.prog 109 #[.int .u64 0, .int .u64 (m : Int), .int .u64 (c : Int)] w (QrPost m c w) := by
 unfold QrPost
 have hq : (m : Int) / (c : Int) = ((m / c : Nat) : Int) := rfl
 have hr : (m : Int) % (c : Int) = ((m % c : Nat) : Int) := rfl
 have hq1 : m / c ≤ m := Nat.div_le_self _ _
 have hr1 : m % c < c := Nat.mod_lt _ hc
 have ht : (m : Int).tdiv (c : Int) = ((m / c : Nat) : Int) := rfl
 have ht2 : (m : Int).tmod (c : Int) = ((m % c : Nat) : Int) := rfl
 generalize m / c = q at *
 generalize m % c = r at *
 have d0 : decide ((c : Int) = 0) = false := by simp; omega
 have d1 : decide ((c : Int) ≤ 0) = false := by simp; omega
 have hne : ¬ (c : Int) = 0 := by omega
 have hne2 : ¬ c = 0 := by omega
 go_enter Try.func109, Try.ntmps109
 go_wp2_with fail
 refine wp_region_lex (by kernel_rfl) (by kernel_rfl) ?_
 go_wp2_with fail
 refine ⟨by kernel_rfl, ?_⟩
 go_wp2_with fail
 go_ret2
 exact ⟨rfl, (Mod.refl [] w).drew⟩
def Qr3Post (m c : Nat) (w : World) (e : Ending) (w' : World) : Prop := e = .returned (.tuple #[.int .u64 ((m / c : Nat) : Int), .int .u64 ((m % c : Nat) : Int), .bool true]) ∧ Mod [] w w'
set_option maxRecDepth 4000 in
theorem divide_small (a b c : Nat) (ha : a < 18446744073709551616) (hb : b < 18446744073709551616) (h : a * b < 18446744073709551616) (hc : 0 < c) (hc2 : c < 18446744073709551616) (w : World) :
  Calls Try.prog 106 #[.int .u64 (a : Int), .int .u64 (b : Int), .int .u64 (c : Int)] w (Qr3Post (a * b) c w) := by
 have M := Lib.hid (fun W : World => mul64_any a b ha hb W)
 obtain ⟨m, hm⟩ : ∃ m, a * b = m := ⟨_, rfl⟩
 rw [hm] at M h ⊢
 rw [show m / 18446744073709551616 = 0 by omega, show m % 18446744073709551616 = m by omega] at M
 have D := Lib.hid (fun W : World => div64_small m c h hc hc2 W)
 unfold QrPost at D
 unfold Qr3Post
 generalize m / c = q at *
 generalize m % c = r at *
 have d0 : decide ((c : Int) = 0) = false := by simp; omega
 have d1 : decide ((c : Int) ≤ 0) = false := by simp; omega
 clear hm ha hb h
 go_enter Try.func106, Try.ntmps106
 go_wp2_with fail
 refine (M.out _).mono ?_
 rintro e1 w1 ⟨rfl, rfl⟩
 go_wp2_with fail
 refine (D.out _).mono ?_
 rintro e2 w2 ⟨rfl, hM⟩
 go_wp2_with fail
 go_ret3
 exact ⟨rfl, hM⟩
def up (m c : Nat) : Nat := m / c + (if 0 < m % c then 1 else 0)
set_option maxRecDepth 4000 in
theorem up_small (a b c : Nat) (ha : a < 18446744073709551616) (hb : b < 18446744073709551616) (h : a * b < 9223372036854775808) (hc : 0 < c) (hc2 : c < 18446744073709551616) (w : World) :
  Calls Try.prog 103 #[.int .u64 (a : Int), .int .u64 (b : Int), .int .u64 (c : Int)] w fun e w' => e = .returned (.tuple #[.int .u64 ((up (a * b) c : Nat) : Int), .bool true]) ∧ Mod [] w w' := by
 have D := Lib.hid (divide_small a b c ha hb (by omega) hc hc2 w)
 obtain ⟨m, hm⟩ : ∃ m, a * b = m := ⟨_, rfl⟩
 rw [hm] at D h ⊢
 have hq1 : m / c ≤ m := Nat.div_le_self _ _
 have hu : up m c = m / c + (if 0 < m % c then 1 else 0) := rfl
 rw [hu]
 unfold Qr3Post at D
 generalize m / c = q at *
 generalize m % c = r at *
 clear hm ha hb hu
 by_cases hr : 0 < r
 ·have d0 : decide ((0 : Int) < (r : Int)) = true := by simp; omega
  have d1 : decide ((q : Int) = 18446744073709551615) = false := by simp; omega
  rw [if_pos hr]
  go_enter Try.func103, Try.ntmps103
  go_wp2_with fail
  refine D.out.mono ?_
  rintro e1 w1 ⟨rfl, hM⟩
  go_wp2_with fail
  go_ret2
  exact ⟨rfl, hM⟩
 ·have d0 : decide ((0 : Int) < (r : Int)) = false := by simp; omega
  rw [if_neg hr]
  go_enter Try.func103, Try.ntmps103
  go_wp2_with fail
  refine D.out.mono ?_
  rintro e1 w1 ⟨rfl, hM⟩
  go_wp2_with fail
  go_ret2
  exact ⟨rfl, hM⟩
end Go.Proofs.Ytndekdafiaogmaa.Arith
end
