/- hash functions of the program: the field of 2^61 - 1, a key's number, its place among n. -/
import Derived.Test.YtajadfoannmaiaaFrameA
import Derived.WalkKit
import Derived.Lib.Mul64
import Derived.Laws.Bits64b
import Derived.Shelf.Bits.Mul64
namespace Go.Proofs.Ytajadfoannmaiaa.Hash
open Go Go.RowKit Go.YtajadfoannmaiaaMem Go.YtajadfoannmaiaaLex
set_option linter.unusedVariables false
set_option linter.unusedSimpArgs false

set_option maxRecDepth 4000 in
set_option maxHeartbeats 1000000 in
theorem mul64_any (x y : Nat) (hx : x < 18446744073709551616) (hy : y < 18446744073709551616) (w : World) :
    Calls Try.prog 54 #[.int .u64 x, .int .u64 y] w fun e w' => e = .returned (.tuple #[.int .u64 ((x * y / 18446744073709551616 : Nat) : Int), .int .u64 ((x * y % 18446744073709551616 : Nat) : Int)]) ∧ w = w' := by
  obtain ⟨bd, bt, bw, hhi⟩ := Lib.mul64_hi x y hx hy
  have ba := Lib.half_mul_le (a := x / 4294967296) (b := y / 4294967296) (by omega) (by omega)
  have bb := Lib.half_mul_le (a := x / 4294967296) (b := y % 4294967296) (by omega) (by omega)
  have bc := Lib.half_mul_le (a := x % 4294967296) (b := y / 4294967296) (by omega) (by omega)
  have ba' : x / 4294967296 * (y / 4294967296) < 18446744073709551616 := by omega
  have bb' : x / 4294967296 * (y % 4294967296) < 18446744073709551616 := by omega
  have bc' : x % 4294967296 * (y / 4294967296) < 18446744073709551616 := by omega
  have bh1 : x / 4294967296 * (y / 4294967296) + (x / 4294967296 * (y % 4294967296) + x % 4294967296 * (y % 4294967296) / 4294967296) / 4294967296 < 18446744073709551616 := by omega
  have bh : x / 4294967296 * (y / 4294967296) + (x / 4294967296 * (y % 4294967296) + x % 4294967296 * (y % 4294967296) / 4294967296) / 4294967296 + ((x / 4294967296 * (y % 4294967296) + x % 4294967296 * (y % 4294967296) / 4294967296) % 4294967296 + x % 4294967296 * (y / 4294967296)) / 4294967296 < 18446744073709551616 := by omega
  go_enter Try.func54, Try.ntmps54
  go_wp2
  simp only [Mul64.maskN x hx, Mul64.maskN y hy, Mul64.divN, Mul64.mulN, Mul64.addN, Mul64.wrapN _ bd, Mul64.wrapN _ bb', Mul64.wrapN _ bt, Mul64.maskN _ bt, Mul64.wrapN _ bc', Mul64.wrapN _ bw, Mul64.wrapN _ ba', Mul64.wrapN _ bh1, Mul64.wrapN _ bh, Mul64.wrapM (x * y)]
  rw [hhi]
  go_ret2
  exact ⟨rfl, rfl⟩

def P : Nat := 2305843009213693951
theorem and61 (a : Nat) (ha : a < 18446744073709551616) : bits .and .u64 (a : Int) 2305843009213693951 = ((a % 2305843009213693952 : Nat) : Int) := by
  have h := bits_and_u64_nat a 2305843009213693951 ha (by omega)
  have e : a &&& 2305843009213693951 = a % 2305843009213693952 := Nat.and_two_pow_sub_one_eq_mod a 61
  rw [e] at h
  exact h
theorem of_any (x : Nat) (hx : x < 18446744073709551616) (w : World) :
    Calls Try.prog 26 #[.int .u64 x] w fun e w' => e = .returned (.int .u64 ((x % 2305843009213693951 : Nat) : Int)) ∧ w = w' := by
  have hand := and61 x hx
  obtain ⟨q, hq⟩ : ∃ q, x / 2305843009213693952 = q := ⟨_, rfl⟩
  obtain ⟨r, hr⟩ : ∃ r, x % 2305843009213693952 = r := ⟨_, rfl⟩
  have hx2 : x = 2305843009213693952 * q + r := by rw [← hq, ← hr]; omega
  have hr1 : r < 2305843009213693952 := by omega
  have hq1 : q < 8 := by omega
  rw [hr] at hand
  have hdiv : (x : Int) / 2305843009213693952 = (q : Int) := by omega
  have hm : x % 2305843009213693951 = if q + r < 2305843009213693951 then q + r else q + r - 2305843009213693951 := by split <;> omega
  rw [hm]
  clear hm hx2 hq hr
  by_cases h : q + r < 2305843009213693951
  · have hd : decide ((2305843009213693951 : Int) ≤ (q : Int) + r) = false := by simp; omega
    rw [if_pos h]
    go_enter Try.func26, Try.ntmps26
    go_wp2_with fail
    go_ret
    exact ⟨by simp, rfl⟩
  · have hd : decide ((2305843009213693951 : Int) ≤ (q : Int) + r) = true := by simp; omega
    rw [if_neg h]
    have hs : (((q + r - 2305843009213693951 : Nat) : Nat) : Int) = (q : Int) + r - 2305843009213693951 := by omega
    rw [hs]
    go_enter Try.func26, Try.ntmps26
    go_wp2_with fail
    go_ret
    exact ⟨rfl, rfl⟩
theorem add_any (x y : Nat) (h : x + y < 18446744073709551616) (w : World) :
    Calls Try.prog 50 #[.int .u64 x, .int .u64 y] w fun e w' => e = .returned (.int .u64 (((x + y) % 2305843009213693951 : Nat) : Int)) ∧ w = w' := by
  go_enter Try.func50, Try.ntmps50
  go_wp2_with fail
  refine (of_any (x + y) h w).mono ?_
  rintro e w' ⟨rfl, rfl⟩
  go_wp2_with fail
  go_ret
  exact ⟨rfl, rfl⟩
theorem or8 (x c : Nat) (hc : c < 8) (hx : x < 2305843009213693952) : bits .or .u64 ((x : Int) * 8) (c : Int) = ((x * 8 + c : Nat) : Int) := by
  rw [show (x : Int) * 8 = ((x * 8 : Nat) : Int) by simp]
  simp only [bits, BitVec.ofInt_natCast, BitVec.toNat_or, BitVec.toNat_ofNat]
  simp only [show IntKind.u64.bits = 64 from rfl]
  rw [Nat.mod_eq_of_lt (show x * 8 < 2 ^ 64 by omega), Nat.mod_eq_of_lt (show c < 2 ^ 64 by omega)]
  have : x * 8 ||| c = x * 8 + c := by
    have := Nat.two_pow_add_eq_or_of_lt (i := 3) (b := c) hc x
    rw [show (2 : Nat) ^ 3 * x = x * 8 by omega] at this
    exact this.symm
  rw [this, IntKind.wrap_u64]; omega
theorem mod61 (m : Nat) : (m / 2305843009213693952 % 2305843009213693951 + m % 2305843009213693952 % 2305843009213693951) % 2305843009213693951 = m % 2305843009213693951 := by
  rw [← Nat.add_mod]
  have : m = (m / 2305843009213693952 + m % 2305843009213693952) + 2305843009213693951 * (m / 2305843009213693952) := by omega
  conv => rhs; rw [this, Nat.add_mul_mod_self_left]
theorem mul_any (x y : Nat) (hx : x < 2305843009213693952) (hy : y < 2305843009213693952) (w : World) :
    Calls Try.prog 51 #[.int .u64 x, .int .u64 y] w fun e w' => e = .returned (.int .u64 ((x * y % 2305843009213693951 : Nat) : Int)) ∧ w = w' := by
  obtain ⟨m, hm⟩ : ∃ m, x * y = m := ⟨_, rfl⟩
  have hm1 : m < 5316911983139663491615228241121378304 := by
    rw [← hm]; exact Nat.mul_lt_mul'' hx hy
  obtain ⟨hi, hhi⟩ : ∃ hi, m / 18446744073709551616 = hi := ⟨_, rfl⟩
  obtain ⟨lo, hlo⟩ : ∃ lo, m % 18446744073709551616 = lo := ⟨_, rfl⟩
  have hlo1 : lo < 18446744073709551616 := by omega
  have hhi1 : hi < 288230376151711744 := by omega
  obtain ⟨c, hc⟩ : ∃ c, lo / 2305843009213693952 = c := ⟨_, rfl⟩
  have hc1 : c < 8 := by omega
  have hcd : (lo : Int) / 2305843009213693952 = (c : Int) := by omega
  have hor := or8 hi c hc1 (by omega)
  have hq : hi * 8 + c = m / 2305843009213693952 := by omega
  have hql : hi * 8 + c < 18446744073709551616 := by omega
  have hand := and61 lo hlo1
  obtain ⟨r, hr⟩ : ∃ r, lo % 2305843009213693952 = r := ⟨_, rfl⟩
  have hr2 : r = m % 2305843009213693952 := by omega
  rw [hr] at hand
  have hr1 : r < 2305843009213693952 := by omega
  have hrm : (r : Int).tmod 2305843009213693951 = ((r % 2305843009213693951 : Nat) : Int) := by rw [Int.tmod_eq_emod_of_nonneg (by omega)]; omega
  have hfin := mod61 m
  rw [← hr2, ← hq] at hfin
  have HF := Lib.hid hfin
  have HM := Lib.hid hm
  have M1 := Lib.hid (fun W : World => mul64_any x y (by omega) (by omega) W)
  rw [hm, hhi, hlo] at M1
  have e1 := (hi * 8 + c) % 2305843009213693951
  obtain ⟨u, hu⟩ : ∃ u, (hi * 8 + c) % 2305843009213693951 = u := ⟨_, rfl⟩
  obtain ⟨v, hv⟩ : ∃ v, r % 2305843009213693951 = v := ⟨_, rfl⟩
  have hu1 : u < 2305843009213693951 := by omega
  have hv1 : v < 2305843009213693951 := by omega
  have O1 := Lib.hid (fun W : World => of_any (hi * 8 + c) hql W)
  rw [hu] at O1 HF
  rw [hv] at hrm HF
  rw [hm]
  clear hm hm1 hhi hlo hc hq hr hr2 hu hv hfin e1
  go_enter Try.func51, Try.ntmps51
  go_wp2_with fail
  refine (M1.out _).mono ?_
  rintro e w' ⟨rfl, rfl⟩
  go_wp2_with fail
  refine (O1.out _).mono ?_
  rintro e w' ⟨rfl, rfl⟩
  go_wp2_with fail
  refine (add_any u v (by omega) _).mono ?_
  rintro e w' ⟨rfl, rfl⟩
  go_wp2_with fail
  go_ret
  exact ⟨by rw [← HF.out]; first | rfl | (show Ending.returned (.int .u64 _) = _; congr 2; omega) | simp, rfl⟩
end Go.Proofs.Ytajadfoannmaiaa.Hash
