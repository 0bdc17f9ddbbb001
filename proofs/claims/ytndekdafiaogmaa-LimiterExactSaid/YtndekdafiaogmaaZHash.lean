/- hash functions of the program: the field of 2^61 - 1, a key's number, its place among n. | bits.Div64 by 2^61 - 1, of a small high part; a key's place among n. | a key's number and its place among n. | a key's words and its number. | a key's number by a row: Row.Of; Bucket. | hash functions of draws: Rows. -/
import Derived.Test.YtndekdafiaogmaaZFrameA
import Derived.WalkKit
import Derived.Lib.Mul64
import Derived.Laws.Bits64b
import Derived.Shelf.Bits.Mul64
import Derived.OwnWalk
import Derived.Deep.QuietTactic
import Derived.BigQuiet
import Derived.Laws.Strings2
set_option linter.unusedSimpArgs false
set_option linter.unusedVariables false
section
namespace Go.Proofs.Ytndekdafiaogmaa.Hash
open Go Go.RowKit Go.YtndekdafiaogmaaMem Go.YtndekdafiaogmaaLex
set_option maxRecDepth 4000 in
set_option maxHeartbeats 1000000 in
theorem mul64_any (x y : Nat) (hx : x < 18446744073709551616) (hy : y < 18446744073709551616) (w : World) :
  Calls Try.prog 105 #[.int .u64 x, .int .u64 y] w fun e w' => e = .returned (.tuple #[.int .u64 ((x * y / 18446744073709551616 : Nat) : Int), .int .u64 ((x * y % 18446744073709551616 : Nat) : Int)]) ∧ w = w' := by
 obtain ⟨bd, bt, bw, hhi⟩ := Lib.mul64_hi x y hx hy
 have ba := Lib.half_mul_le (a := x / 4294967296) (b := y / 4294967296) (by omega) (by omega)
 have bb := Lib.half_mul_le (a := x / 4294967296) (b := y % 4294967296) (by omega) (by omega)
 have bc := Lib.half_mul_le (a := x % 4294967296) (b := y / 4294967296) (by omega) (by omega)
 have ba' : x / 4294967296 * (y / 4294967296) < 18446744073709551616 := by omega
 have bb' : x / 4294967296 * (y % 4294967296) < 18446744073709551616 := by omega
 have bc' : x % 4294967296 * (y / 4294967296) < 18446744073709551616 := by omega
 have bh1 : x / 4294967296 * (y / 4294967296) + (x / 4294967296 * (y % 4294967296) + x % 4294967296 * (y % 4294967296) / 4294967296) / 4294967296 < 18446744073709551616 := by omega
 have bh : x / 4294967296 * (y / 4294967296) + (x / 4294967296 * (y % 4294967296) + x % 4294967296 * (y % 4294967296) / 4294967296) / 4294967296 + ((x / 4294967296 * (y % 4294967296) + x % 4294967296 * (y % 4294967296) / 4294967296) % 4294967296 + x % 4294967296 * (y / 4294967296)) / 4294967296 < 18446744073709551616 := by omega
 go_enter Try.func105, Try.ntmps105
 go_wp2
 simp only [Mul64.maskN x hx, Mul64.maskN y hy, Mul64.divN, Mul64.mulN, Mul64.addN, Mul64.wrapN _ bd, Mul64.wrapN _ bb', Mul64.wrapN _ bt, Mul64.maskN _ bt, Mul64.wrapN _ bc', Mul64.wrapN _ bw, Mul64.wrapN _ ba', Mul64.wrapN _ bh1, Mul64.wrapN _ bh, Mul64.wrapM (x * y)]
 rw [hhi]
 go_ret2
 exact ⟨rfl, rfl⟩
def P : Nat := 2305843009213693951
theorem and61 (a : Nat) (ha : a < 18446744073709551616) : bits .and .u64 (a : Int) 2305843009213693951 = ((a % 2305843009213693952 : Nat) : Int) := by
 have h := bits_and_u64_nat a 2305843009213693951 ha (by omega)
 have e : a &&& 2305843009213693951 = a % 2305843009213693952 := Nat.and_two_pow_sub_one_eq_mod a 61
 rw [e] at h
 exact h
theorem of_any (x : Nat) (hx : x < 18446744073709551616) (w : World) :
  Calls Try.prog 58 #[.int .u64 x] w fun e w' => e = .returned (.int .u64 ((x % 2305843009213693951 : Nat) : Int)) ∧ w = w' := by
 have hand := and61 x hx
 obtain ⟨q, hq⟩ : ∃ q, x / 2305843009213693952 = q := ⟨_, rfl⟩
 obtain ⟨r, hr⟩ : ∃ r, x % 2305843009213693952 = r := ⟨_, rfl⟩
 have hx2 : x = 2305843009213693952 * q + r := by rw [← hq, ← hr]; omega
 have hr1 : r < 2305843009213693952 := by omega
 have hq1 : q < 8 := by omega
 rw [hr] at hand
 have hdiv : (x : Int) / 2305843009213693952 = (q : Int) := by omega
 have hm : x % 2305843009213693951 = if q + r < 2305843009213693951 then q + r else q + r - 2305843009213693951 := by split <;> omega
 rw [hm]
 clear hm hx2 hq hr
 by_cases h : q + r < 2305843009213693951
 ·have hd : decide ((2305843009213693951 : Int) ≤ (q : Int) + r) = false := by simp; omega
  rw [if_pos h]
  go_enter Try.func58, Try.ntmps58
  go_wp2_with fail
  go_ret
  exact ⟨by simp, rfl⟩
 ·have hd : decide ((2305843009213693951 : Int) ≤ (q : Int) + r) = true := by simp; omega
  rw [if_neg h]
  have hs : (((q + r - 2305843009213693951 : Nat) : Nat) : Int) = (q : Int) + r - 2305843009213693951 := by omega
  rw [hs]
  go_enter Try.func58, Try.ntmps58
  go_wp2_with fail
  go_ret
  exact ⟨rfl, rfl⟩
theorem add_any (x y : Nat) (h : x + y < 18446744073709551616) (w : World) :
  Calls Try.prog 111 #[.int .u64 x, .int .u64 y] w fun e w' => e = .returned (.int .u64 (((x + y) % 2305843009213693951 : Nat) : Int)) ∧ w = w' := by
 go_enter Try.func111, Try.ntmps111
 go_wp2_with fail
 refine (of_any (x + y) h w).mono ?_
 rintro e w' ⟨rfl, rfl⟩
 go_wp2_with fail
 go_ret
 exact ⟨rfl, rfl⟩
theorem or8 (x c : Nat) (hc : c < 8) (hx : x < 2305843009213693952) : bits .or .u64 ((x : Int) * 8) (c : Int) = ((x * 8 + c : Nat) : Int) := by
 rw [show (x : Int) * 8 = ((x * 8 : Nat) : Int) by simp]
 simp only [bits, BitVec.ofInt_natCast, BitVec.toNat_or, BitVec.toNat_ofNat]
 simp only [show IntKind.u64.bits = 64 from rfl]
 rw [Nat.mod_eq_of_lt (show x * 8 < 2 ^ 64 by omega), Nat.mod_eq_of_lt (show c < 2 ^ 64 by omega)]
 have : x * 8 ||| c = x * 8 + c := by
  have := Nat.two_pow_add_eq_or_of_lt (i := 3) (b := c) hc x
  rw [show (2 : Nat) ^ 3 * x = x * 8 by omega] at this
  exact this.symm
 rw [this, IntKind.wrap_u64]; omega
theorem mod61 (m : Nat) : (m / 2305843009213693952 % 2305843009213693951 + m % 2305843009213693952 % 2305843009213693951) % 2305843009213693951 = m % 2305843009213693951 := by
 rw [← Nat.add_mod]
 have : m = (m / 2305843009213693952 + m % 2305843009213693952) + 2305843009213693951 * (m / 2305843009213693952) := by omega
 conv => rhs; rw [this, Nat.add_mul_mod_self_left]
theorem mul_any (x y : Nat) (hx : x < 2305843009213693952) (hy : y < 2305843009213693952) (w : World) :
  Calls Try.prog 112 #[.int .u64 x, .int .u64 y] w fun e w' => e = .returned (.int .u64 ((x * y % 2305843009213693951 : Nat) : Int)) ∧ w = w' := by
 obtain ⟨m, hm⟩ : ∃ m, x * y = m := ⟨_, rfl⟩
 have hm1 : m < 5316911983139663491615228241121378304 := by
  rw [← hm]; exact Nat.mul_lt_mul'' hx hy
 obtain ⟨hi, hhi⟩ : ∃ hi, m / 18446744073709551616 = hi := ⟨_, rfl⟩
 obtain ⟨lo, hlo⟩ : ∃ lo, m % 18446744073709551616 = lo := ⟨_, rfl⟩
 have hlo1 : lo < 18446744073709551616 := by omega
 have hhi1 : hi < 288230376151711744 := by omega
 obtain ⟨c, hc⟩ : ∃ c, lo / 2305843009213693952 = c := ⟨_, rfl⟩
 have hc1 : c < 8 := by omega
 have hcd : (lo : Int) / 2305843009213693952 = (c : Int) := by omega
 have hor := or8 hi c hc1 (by omega)
 have hq : hi * 8 + c = m / 2305843009213693952 := by omega
 have hql : hi * 8 + c < 18446744073709551616 := by omega
 have hand := and61 lo hlo1
 obtain ⟨r, hr⟩ : ∃ r, lo % 2305843009213693952 = r := ⟨_, rfl⟩
 have hr2 : r = m % 2305843009213693952 := by omega
 rw [hr] at hand
 have hr1 : r < 2305843009213693952 := by omega
 have hrm : (r : Int).tmod 2305843009213693951 = ((r % 2305843009213693951 : Nat) : Int) := by rw [Int.tmod_eq_emod_of_nonneg (by omega)]; omega
 have hfin := mod61 m
 rw [← hr2, ← hq] at hfin
 have HF := Lib.hid hfin
 have HM := Lib.hid hm
 have M1 := Lib.hid (fun W : World => mul64_any x y (by omega) (by omega) W)
 rw [hm, hhi, hlo] at M1
 have e1 := (hi * 8 + c) % 2305843009213693951
 obtain ⟨u, hu⟩ : ∃ u, (hi * 8 + c) % 2305843009213693951 = u := ⟨_, rfl⟩
 obtain ⟨v, hv⟩ : ∃ v, r % 2305843009213693951 = v := ⟨_, rfl⟩
 have hu1 : u < 2305843009213693951 := by omega
 have hv1 : v < 2305843009213693951 := by omega
 have O1 := Lib.hid (fun W : World => of_any (hi * 8 + c) hql W)
 rw [hu] at O1 HF
 rw [hv] at hrm HF
 rw [hm]
 clear hm hm1 hhi hlo hc hq hr hr2 hu hv hfin e1
 go_enter Try.func112, Try.ntmps112
 go_wp2_with fail
 refine (M1.out _).mono ?_
 rintro e w' ⟨rfl, rfl⟩
 go_wp2_with fail
 refine (O1.out _).mono ?_
 rintro e w' ⟨rfl, rfl⟩
 go_wp2_with fail
 refine (add_any u v (by omega) _).mono ?_
 rintro e w' ⟨rfl, rfl⟩
 go_wp2_with fail
 go_ret
 exact ⟨by rw [← HF.out]; first | rfl | (show Ending.returned (.int .u64 _) = _; congr 2; omega) | simp, rfl⟩
end Go.Proofs.Ytndekdafiaogmaa.Hash
end
section
namespace Go.Proofs.Ytndekdafiaogmaa.Hash
open Go Go.RowKit Go.YtndekdafiaogmaaMem Go.YtndekdafiaogmaaLex
set_option maxRecDepth 4000 in
theorem lead_any (w : World) : Calls Try.prog 114 #[.int .u64 2305843009213693951] w fun e w' => e = .returned (.int .i64 3) ∧ w = w' := by
 go_enter Try.func114, Try.ntmps114
 go_wp2_with fail
 have : Calls Try.prog 115 #[.int .u64 2305843009213693951] w fun e w' => e = .returned (.int .i64 61) ∧ w = w' := by
  go_enter Try.func115, Try.ntmps115
  go_wp2_with fail
  go_ret
  exact ⟨by first | kernel_rfl | (simp; decide), rfl⟩
 refine this.mono ?_
 rintro e w' ⟨rfl, rfl⟩
 go_wp2_with fail
 go_ret
 exact ⟨rfl, rfl⟩
def DivPost (q : Nat) (w : World) (e : Ending) (w' : World) : Prop := ∃ r : Int, e = .returned (.tuple #[.int .u64 (q : Int), .int .u64 r]) ∧ w.heap = w'.heap ∧ Mod [] w w'
set_option maxRecDepth 4000 in
theorem div_small (lo : Nat) (hlo : lo < 18446744073709551616) (w : World) :
  Calls Try.prog 109 #[.int .u64 0, .int .u64 lo, .int .u64 2305843009213693951] w (DivPost (lo / 2305843009213693951) w) := by
 go_enter Try.func109, Try.ntmps109
 go_wp2_with fail
 refine wp_region_lex (by kernel_rfl) (by kernel_rfl) ?_
 go_wp2_with fail
 refine ⟨by kernel_rfl, ?_⟩
 go_wp2_with fail
 go_ret2
 refine ⟨(lo : Int) % 2305843009213693951, ?_, rfl, (Mod.refl [] w).drew⟩
 rfl
set_option maxRecDepth 40000 in
set_option maxHeartbeats 1600000 in
theorem div_any (m : Nat) (hm : m < 9444732965739290427392) (h0 : m / 18446744073709551616 ≠ 0) (w : World) :
  Calls Try.prog 109 #[.int .u64 ((m / 18446744073709551616 : Nat) : Int), .int .u64 ((m % 18446744073709551616 : Nat) : Int), .int .u64 2305843009213693951] w (DivPost (m / 2305843009213693951) w) := by
 obtain ⟨hi, hhi⟩ : ∃ hi, m / 18446744073709551616 = hi := ⟨_, rfl⟩
 obtain ⟨lo, hlo⟩ : ∃ lo, m % 18446744073709551616 = lo := ⟨_, rfl⟩
 rw [hhi] at h0 ⊢
 rw [hlo]
 have hlo1 : lo < 18446744073709551616 := by omega
 have hhi1 : hi < 512 := by omega
 obtain ⟨c, hc⟩ : ∃ c, lo / 2305843009213693952 = c := ⟨_, rfl⟩
 have hc1 : c < 8 := by omega
 have hcd : (lo : Int) / 2305843009213693952 = (c : Int) := by omega
 have hor := or8 hi c hc1 (by omega)
 obtain ⟨a, ha⟩ : ∃ a, hi * 8 + c = a := ⟨_, rfl⟩
 rw [ha] at hor
 have ha1 : a < 4096 := by omega
 obtain ⟨b, hb⟩ : ∃ b, m % 2305843009213693952 = b := ⟨_, rfl⟩
 have hma : m = 2305843009213693952 * a + b := by omega
 have hb1 : b < 2305843009213693952 := by omega
 have hsh : IntKind.u64.wrap ((lo : Int) * 8) = ((8 * b : Nat) : Int) := by rw [IntKind.wrap_u64]; omega
 obtain ⟨u1, hu1⟩ : ∃ u1, b / 536870912 = u1 := ⟨_, rfl⟩
 obtain ⟨u0, hu0⟩ : ∃ u0, b % 536870912 = u0 := ⟨_, rfl⟩
 have e1 : ((8 * b : Nat) : Int) / 4294967296 = (u1 : Int) := by omega
 have e0 : bits .and .u64 ((8 * b : Nat) : Int) 4294967295 = ((8 * u0 : Nat) : Int) := by rw [Mul64.maskN _ (by omega)]; omega
 have D1 := Lib.hid (fun W : World => lead_any W)
 have HMA := Lib.hid hma
 have HA := Lib.hid ha
 have HU1 := Lib.hid hu1
 have HU0 := Lib.hid hu0
 have hu1b : u1 < 4294967296 := by omega
 have hu0b : u0 < 536870912 := by omega
 rw [show ((8 * b : Nat) : Int) = 8 * (b : Int) by simp] at hsh e1 e0
 rw [show ((8 * u0 : Nat) : Int) = 8 * (u0 : Int) by simp] at e0
 clear hma ha hm
 clear hhi hlo hc hb hu1 hu0
 have dP : decide ((2305843009213693951 : Int) ≤ (hi : Int)) = false := by simp; omega
 have d0 : ((hi : Int) == 0) = false := by simp; omega
 have d0' : decide ((hi : Int) = 0) = false := by simp; omega
 obtain ⟨q, hq⟩ : ∃ q, m / 2305843009213693951 = q := ⟨_, rfl⟩
 rw [hq]
 have HQ := Lib.hid hq
 clear hq
 have hband : bits .and .u64 18446744073709551608 4294967295 = 4294967288 := by kernel_rfl
 have hq1 : (a : Int) / 4294967295 = 0 := by omega
 obtain ⟨z, hz⟩ : ∃ z, (a * 4294967296 + u1) / 4294967295 = z := ⟨_, rfl⟩
 obtain ⟨rh, hrh⟩ : ∃ rh, (a * 4294967296 + u1) % 4294967295 = rh := ⟨_, rfl⟩
 have hzr : a * 4294967296 + u1 = z * 4294967295 + rh := by omega
 have hz1 : z < 8192 := by omega
 have hrh1 : rh < 4294967295 := by omega
 have hzi : ((a : Int) * 4294967296 + u1) / 4294967295 = (z : Int) := by omega
 have hri : (a : Int) * 4294967296 + u1 - z * 4294967295 = (rh : Int) := by omega
 have hb2 : b = 536870912 * u1 + u0 := by have h1 := HU1.out; have h2 := HU0.out; omega
 have ha3 : a * 4294967296 + u1 < 20000000000000 := by omega
 have hqz : q = if z * 4294967288 ≤ 4294967296 * rh + 8 * u0 then z else z - 1 := by
  have h1 := HMA.out; have h2 := HQ.out
  split <;> omega
 have HQZ := Lib.hid hqz
 obtain ⟨t, ht⟩ : ∃ t : Nat, a * 4294967296 + u1 = t := ⟨_, rfl⟩
 have hti : (a : Int) * 4294967296 + u1 = (t : Int) := by omega
 rw [hti] at hzi hri
 have ht1 : t < 20000000000000 := by omega
 obtain ⟨p1, hp1⟩ : ∃ p1 : Int, IntKind.u64.wrap ((t : Int) * 4294967296) = p1 := ⟨_, rfl⟩
 obtain ⟨p2, hp2⟩ : ∃ p2 : Int, IntKind.u64.wrap (p1 + 8 * (u0 : Int)) = p2 := ⟨_, rfl⟩
 obtain ⟨p3, hp3⟩ : ∃ p3 : Int, IntKind.u64.wrap ((z : Int) * 18446744073709551608) = p3 := ⟨_, rfl⟩
 obtain ⟨p4, hp4⟩ : ∃ p4 : Int, IntKind.u64.wrap (p2 - p3) = p4 := ⟨_, rfl⟩
 clear hzr hb2 hqz hz hrh ht ha3
 go_enter Try.func109, Try.ntmps109
 go_wp2_with fail
 refine (D1.out _).mono ?_
 rintro e w' ⟨rfl, rfl⟩
 go_wp2_with fail
 refine wp_loop_once ?_
 go_wp2_with fail
 have dz : decide ((4294967296 : Int) ≤ (z : Int)) = false := by simp; omega
 by_cases hA : z * 4294967288 ≤ 4294967296 * rh + 8 * u0
 ·have dA : decide ((4294967296 : Int) * rh + 8 * u0 < z * 4294967288) = false := by simp; omega
  refine wp_loop_once ?_
  go_wp2_with fail
  go_ret2
  exact ⟨p4 / 8, by rw [HQZ.out, if_pos hA]; rfl, rfl, Mod.refl [] w⟩
 ·have dB : decide ((4294967296 : Int) * rh + 8 * u0 < z * 4294967288) = true := by simp; omega
  have hz0 : 0 < z := by omega
  obtain ⟨zm, hzm⟩ : ∃ zm, z - 1 = zm := ⟨_, rfl⟩
  have hzmi : (z : Int) - 1 = (zm : Int) := by omega
  have hzm1 : zm < 8192 := by omega
  have dzm : decide ((4294967296 : Int) ≤ (zm : Int)) = false := by simp; omega
  have dC : decide ((18446744069414584320 : Int) + 8 * u0 < zm * 4294967288) = false := by simp; omega
  have HR : Hid (q = zm) := Lib.hid (by rw [HQZ.out, if_neg hA, hzm])
  obtain ⟨p5, hp5⟩ : ∃ p5 : Int, IntKind.u64.wrap ((zm : Int) * 18446744073709551608) = p5 := ⟨_, rfl⟩
  obtain ⟨p6, hp6⟩ : ∃ p6 : Int, IntKind.u64.wrap (p2 - p5) = p6 := ⟨_, rfl⟩
  have HH := Lib.hid hzm
  clear hA hzm hp3 hp4
  go_loopw [16, 18] (fun r x wr => wr = w ∧ ((r = .int .u64 rh ∧ x = .int .u64 z) ∨ (rh = 0 ∧ r = .int .u64 4294967295 ∧ x = .int .u64 zm))) (fun _ x _ => (intOf x).toNat)
  case atStart => exact ⟨rfl, .inl ⟨rfl, rfl⟩⟩
  case round =>
   obtain ⟨rfl, hd⟩ := hrel
   rcases hd with ⟨rfl, rfl⟩ | ⟨hr0, rfl, rfl⟩
   ·by_cases h1 : rh = 0
    ·have dR : decide ((4294967296 : Int) ≤ (rh : Int) + 4294967295) = false := by simp; omega
     have hre : (rh : Int) + 4294967295 = 4294967295 := by omega
     have H1 := Lib.hid h1
     clear h1
     go_wp2_with fail
     exact ⟨⟨by trivial, .inr ⟨H1.out, rfl, rfl⟩⟩, by simp [intOf]; omega⟩
    ·have dR : decide ((4294967296 : Int) ≤ (rh : Int) + 4294967295) = true := by simp; omega
     go_wp2_with fail
     go_ret2
     exact ⟨p6 / 8, by rw [HR.out]; rfl, rfl, Mod.refl [] wr⟩
   ·go_wp2_with fail
    go_ret2
    exact ⟨p6 / 8, by rw [HR.out]; rfl, rfl, Mod.refl [] wr⟩
end Go.Proofs.Ytndekdafiaogmaa.Hash
end
section
namespace Go.Proofs.Ytndekdafiaogmaa.Hash
open Go Go.RowKit Go.YtndekdafiaogmaaMem Go.YtndekdafiaogmaaLex
def DowPost (q : Nat) (w : World) (e : Ending) (w' : World) : Prop := ∃ r : Int, e = .returned (.tuple #[.int .u64 (q : Int), .int .u64 r, .bool true]) ∧ w.heap = w'.heap ∧ Mod [] w w'
set_option maxRecDepth 4000 in
theorem divide_any (h n : Nat) (hh : h < 2305843009213693951) (hn : n < 4096) (w : World) :
  Calls Try.prog 106 #[.int .u64 h, .int .u64 n, .int .u64 2305843009213693951] w (DowPost (h * n / 2305843009213693951) w) := by
 obtain ⟨m, hm⟩ : ∃ m, h * n = m := ⟨_, rfl⟩
 have hm1 : m < 9444732965739290427392 := by
  rw [← hm]
  have := Nat.mul_lt_mul'' hh hn
  omega
 have D := Lib.hid (fun (h0 : m / 18446744073709551616 ≠ 0) (W : World) => div_any m hm1 h0 W)
 have E := Lib.hid (fun (W : World) => div_small (m % 18446744073709551616) (by omega) W)
 have M := Lib.hid (fun (W : World) => mul64_any h n (by omega) (by omega) W)
 rw [hm] at M ⊢
 have hs : m / 18446744073709551616 = 0 → m % 18446744073709551616 / 2305843009213693951 = m / 2305843009213693951 := fun h => by omega
 have HS := Lib.hid hs
 have hhi : m / 18446744073709551616 < 512 := by omega
 obtain ⟨hi, hhe⟩ : ∃ hi, m / 18446744073709551616 = hi := ⟨_, rfl⟩
 obtain ⟨lo, hlo⟩ : ∃ lo, m % 18446744073709551616 = lo := ⟨_, rfl⟩
 obtain ⟨q, hq⟩ : ∃ q, m / 2305843009213693951 = q := ⟨_, rfl⟩
 rw [hhe, hlo] at M D
 rw [hlo] at E
 rw [hhe, hlo] at HS
 rw [hq] at D HS ⊢
 rw [hhe] at hhi
 have dP : decide ((2305843009213693951 : Int) ≤ (hi : Int)) = false := by simp; omega
 clear hm hm1 hs hhe hlo hq
 go_enter Try.func106, Try.ntmps106
 go_wp2_with fail
 refine (M.out _).mono ?_
 rintro e w' ⟨rfl, rfl⟩
 by_cases h0 : hi = 0
 ·subst h0
  have hsm := HS.out rfl
  go_wp2_with fail
  refine (E.out _).mono ?_
  rintro e w' ⟨r, rfl, hw, hM⟩
  go_wp2_with fail
  go_ret3
  exact ⟨r, by rw [← hsm]; rfl, hw, hM⟩
 ·go_wp2_with fail
  refine (D.out h0 _).mono ?_
  rintro e w' ⟨r, rfl, hw, hM⟩
  go_wp2_with fail
  go_ret3
  exact ⟨r, rfl, hw, hM⟩
theorem down_any (h n : Nat) (hh : h < 2305843009213693951) (hn : n < 4096) (w : World) :
  Calls Try.prog 110 #[.int .u64 h, .int .u64 n, .int .u64 2305843009213693951] w fun e w' => e = .returned (.tuple #[.int .u64 ((h * n / 2305843009213693951 : Nat) : Int), .bool true]) ∧ Mod [] w w' := by
 obtain ⟨q, hq⟩ : ∃ q, h * n / 2305843009213693951 = q := ⟨_, rfl⟩
 have D := Lib.hid (divide_any h n hh hn w)
 rw [hq] at D ⊢
 clear hq
 go_enter Try.func110, Try.ntmps110
 go_wp2_with fail
 refine D.out.mono ?_
 rintro e w' ⟨r, rfl, hw, hM⟩
 go_wp2_with fail
 go_ret2
 exact ⟨rfl, hM⟩
def place (h n : Nat) : Nat := h * n / 2305843009213693951
theorem place_lt {h n : Nat} (hh : h < 2305843009213693951) (hn : 0 < n) : place h n < n := by
 unfold place
 rw [Nat.div_lt_iff_lt_mul (by omega), Nat.mul_comm n]
 exact Nat.mul_lt_mul_of_pos_right hh hn
theorem place_any (h n : Nat) (hh : h < 2305843009213693951) (hn : n < 4096) (h1 : 0 < n) (w : World) :
  Calls Try.prog 107 #[.int .u64 h, .int .i64 n] w fun e w' => e = .returned (.int .i64 (place h n : Nat)) ∧ Mod [] w w' := by
 have hp := place_lt hh h1
 have D := Lib.hid (down_any h n hh hn w)
 rw [show h * n / 2305843009213693951 = place h n from rfl] at D
 generalize place h n = q at *
 have dn : decide ((n : Int) < 1) = false := by simp; omega
 go_enter Try.func107, Try.ntmps107
 go_wp2_with fail
 refine D.out.mono ?_
 rintro e w' ⟨rfl, hM⟩
 go_wp2_with fail
 go_ret
 exact ⟨rfl, hM⟩
def num : List UInt8 → Nat := List.foldl (fun x b => x * 256 + b.toNat) 0
theorem num_snoc (l : List UInt8) (b : UInt8) : num (l ++ [b]) = num l * 256 + b.toNat := by unfold num; rw [List.foldl_append]; rfl
theorem num_lt : ∀ (j : Nat) (l : List UInt8), l.length = j → num l < 256 ^ j
 | 0, l, h => by rw [List.eq_nil_of_length_eq_zero h]; decide
 | j + 1, l, h => by
   have hne : l ≠ [] := by intro e; rw [e] at h; simp at h
   rw [← List.dropLast_concat_getLast hne, num_snoc]
   have h1 := num_lt j l.dropLast (by rw [List.length_dropLast]; omega)
   have h2 := (l.getLast hne).toNat_lt
   rw [Nat.pow_succ]
   have : (num l.dropLast + 1) * 256 ≤ 256 ^ j * 256 := Nat.mul_le_mul_right _ h1
   omega
end Go.Proofs.Ytndekdafiaogmaa.Hash
end
section
namespace Go.Proofs.Ytndekdafiaogmaa.Hash
open Go Go.RowKit Go.YtndekdafiaogmaaMem Go.YtndekdafiaogmaaLex
theorem or_byte {x c : Nat} (hc : c < 256) (hx : x < 72057594037927936) : bits .or .u64 (((x : Nat) : Int) * 256) ((c : Nat) : Int) = ((x * 256 + c : Nat) : Int) := by
 rw [show ((x : Nat) : Int) * 256 = ((x * 256 : Nat) : Int) by simp]
 simp only [bits, BitVec.ofInt_natCast, BitVec.toNat_or, BitVec.toNat_ofNat]
 simp only [show IntKind.u64.bits = 64 from rfl]
 rw [Nat.mod_eq_of_lt (show x * 256 < 2 ^ 64 by omega), Nat.mod_eq_of_lt (show c < 2 ^ 64 by omega)]
 have : x * 256 ||| c = x * 256 + c := by
  have := Nat.two_pow_add_eq_or_of_lt (i := 8) (b := c) hc x
  rw [show (2 : Nat) ^ 8 * x = x * 256 by omega] at this
  exact this.symm
 rw [this, IntKind.wrap_u64]; omega
set_option maxRecDepth 4000 in
theorem word_any (s : List UInt8) (hs : s.length ≤ 7) (w : World) :
  Calls Try.prog 113 #[.string ⟨s.toArray⟩] w fun e w' => e = .returned (.int .u64 (num s : Nat)) ∧ w = w' := by
 have hsz : (ByteArray.mk s.toArray).size = s.length := by simp [ByteArray.size]
 go_enter Try.func113, Try.ntmps113
 go_wp2_with fail
 go_loopw [3, 7] (fun x i wr => ∃ j : Nat, j ≤ s.length ∧ x = .int .u64 (num (s.take j) : Nat) ∧ i = .int .i64 j ∧ w = wr) (fun _ i _ => s.length - (intOf i).toNat)
 case atStart => exact ⟨0, Nat.zero_le _, rfl, rfl, rfl⟩
 case round =>
  obtain ⟨j, hj, rfl, rfl, rfl⟩ := hrel
  by_cases hlt : j < s.length
  ·have hn := num_lt j (s.take j) (by rw [List.length_take]; omega)
   have hn2 : num (s.take j) < 281474976710656 := Nat.lt_of_lt_of_le hn (by rw [show (281474976710656 : Nat) = 256 ^ 6 from rfl]; exact Nat.pow_le_pow_right (by decide) (by omega))
   have htk : num (s.take (j + 1)) = num (s.take j) * 256 + (s[j]).toNat := by rw [List.take_succ_eq_append_getElem hlt, num_snoc]
   have HTK := Lib.hid htk
   have hb := (s[j]).toNat_lt
   have hor := or_byte hb (show num (s.take j) < 72057594037927936 by omega)
   generalize num (s.take j) = x at *
   generalize hsj : s[j] = c at *
   clear htk hn
   go_wp2_with fail
   have e : ((ByteArray.mk s.toArray)[j]'(by rw [hsz]; exact hlt)) = c := hsj
   have hw : IntKind.u64.wrap (c.toNat : Int) = c.toNat := by rw [IntKind.wrap_u64]; omega
   refine ⟨⟨j + 1, by omega, ?_, by go_num, by trivial⟩, by simp [intOf]; omega⟩
   rw [e, hw, hor, HTK.out]
  ·obtain rfl : j = s.length := by omega
   rw [List.take_length]
   go_wp2_with fail
   go_ret
   exact ⟨rfl, rfl⟩
end Go.Proofs.Ytndekdafiaogmaa.Hash
end
section
namespace Go.Proofs.Ytndekdafiaogmaa.Hash
open Go Go.RowKit Go.YtndekdafiaogmaaMem Go.YtndekdafiaogmaaLex
structure Row where
 x : Nat
 a : Nat
 b : Nat
def Row.ok (r : Row) : Prop := r.x < 2305843009213693952 ∧ r.a < 2305843009213693952 ∧ r.b < 2305843009213693952
def Row.cells (r : Row) : List Value := [.int .u64 (r.x : Int), .int .u64 (r.a : Int), .int .u64 (r.b : Int)]
def chunks (x : Nat) : Nat → Nat → List UInt8 → Nat
 | 0, h, _ => h
 | f + 1, h, s => if s = [] then h else chunks x f ((h * x % 2305843009213693951 + num (s.take 7)) % 2305843009213693951) (s.drop 7)
def Row.of (r : Row) (key : List UInt8) : Nat := (chunks r.x key.length (key.length + 1) key * r.a % 2305843009213693951 + r.b) % 2305843009213693951
theorem Row.of_lt (r : Row) (key : List UInt8) : r.of key < 2305843009213693951 := Nat.mod_lt _ (by decide)
theorem same_mul {x y : Nat} {w : World} {n : Nat} (hx : x < 2305843009213693952) (hy : y < 2305843009213693952) : Calls Try.prog 112 #[.int .u64 x, .int .u64 y] (w.drewN n) fun e w'' => e = .returned (.int .u64 ((x * y % 2305843009213693951 : Nat) : Int)) ∧ ∃ m, w'' = w.drewN m :=
 Calls.quiet_of_same ((mul_any x y hx hy _).mono fun e w' h => ⟨h.1, h.2.symm⟩)
theorem same_add {x y : Nat} {w : World} {n : Nat} (h : x + y < 18446744073709551616) : Calls Try.prog 111 #[.int .u64 x, .int .u64 y] (w.drewN n) fun e w'' => e = .returned (.int .u64 (((x + y) % 2305843009213693951 : Nat) : Int)) ∧ ∃ m, w'' = w.drewN m :=
 Calls.quiet_of_same ((add_any x y h _).mono fun e w' h => ⟨h.1, h.2.symm⟩)
theorem same_word {s : List UInt8} {w : World} {n : Nat} (hs : s.length ≤ 7) : Calls Try.prog 113 #[.string ⟨s.toArray⟩] (w.drewN n) fun e w'' => e = .returned (.int .u64 ((num s : Nat) : Int)) ∧ ∃ m, w'' = w.drewN m :=
 Calls.quiet_of_same ((word_any s hs _).mono fun e w' h => ⟨h.1, h.2.symm⟩)
set_option maxRecDepth 4000 in
set_option maxHeartbeats 1600000 in
theorem of_key (r : Row) (key : List UInt8) (hr : r.ok) (hl : key.length ≤ 1000000) (w : World) :
  Calls Try.prog 108 #[.agg #[.int .u64 (r.x : Int), .int .u64 (r.a : Int), .int .u64 (r.b : Int)], .string ⟨key.toArray⟩] w fun e w' => e = .returned (.int .u64 ((r.of key : Nat) : Int)) ∧ Mod [] w w' := by
 have hsz : (ByteArray.mk key.toArray).size = key.length := by simp [ByteArray.size]
 obtain ⟨x, a, b⟩ := r
 obtain ⟨hx, ha, hb⟩ := hr
 simp only at hx ha hb
 have HBX := Lib.hid (Blk.new w [.int .u64 (x : Int), .int .u64 (a : Int), .int .u64 (b : Int)] 75)
 go_enter Try.func108, Try.ntmps108
 go_wp2_with fail
 go_loopw [5, 6] (fun u i wr => ∃ (j h f : Nat), j ≤ key.length + 6 ∧ h < 2305843009213693951 ∧ (key.drop j).length ≤ f ∧ chunks x f h (key.drop j) = chunks x key.length (key.length + 1) key ∧ u = .int .u64 h ∧ i = .int .i64 j ∧ Blk wr w.heap.size 75 [.int .u64 (x : Int), .int .u64 (a : Int), .int .u64 (b : Int)] ∧ Mod [] w wr) (fun _ i _ => key.length + 7 - (intOf i).toNat)
 case atStart => exact ⟨0, key.length + 1, key.length, by omega, by omega, by simp, rfl, by simp, rfl, HBX.out, (Mod.refl [] w).alloc _⟩
 case round =>
  obtain ⟨j, h, f, hj, hh, hf, hch, rfl, rfl, hB, hM⟩ := hrel
  have c0 := hB.cell (i := 0) rfl
  have c1 := hB.cell (i := 1) rfl
  have c2 := hB.cell (i := 2) rfl
  have HC := Lib.hid hch
  have B2 := Lib.hid hB
  have MR := Lib.hid hM
  clear hch hB hM HBX
  by_cases hlt : j < key.length
  ·obtain ⟨m, hm⟩ : ∃ m, m = min (j + 7) key.length := ⟨_, rfl⟩
   have hmn : ∀ w : World, (Builtin.min_ #[3, 3] 3 #[.int .i64 ((j : Int) + 7), .int .i64 (key.length : Int)]).run Try.prog w = .ok (.int .i64 m) w := fun w => by
    show Result.ok (Value.int .i64 (if (key.length : Int) < (j : Int) + 7 then (key.length : Int) else (j : Int) + 7)) w = _
    congr 2; omega
   have hmj : j ≤ m := by omega
   have hml : m ≤ key.length := by omega
   have hext : (ByteArray.mk key.toArray).extract j m = ⟨((key.drop j).take 7).toArray⟩ := by
    rw [ByteArray.extract_mk]
    congr 2
    by_cases h7 : j + 7 ≤ key.length
    ·rw [show m - j = 7 by omega]
    ·rw [List.take_of_length_le (by rw [List.length_drop]; omega), List.take_of_length_le (by rw [List.length_drop]; omega)]
   have hjm1 : (j : Int) ≤ m := by omega
   have hml1 : (m : Int) ≤ key.length := by omega
   have hj0 : (0 : Int) ≤ j := by omega
   have hm0 : (0 : Int) ≤ m := by omega
   have hsl : ∀ W : World, (Instr.sliceAt 9 (.string ⟨key.toArray⟩) (some (.int .i64 j)) (some (.int .i64 m)) none).run Try.prog W = .ok (.string ⟨((key.drop j).take 7).toArray⟩) W := fun W => by
    have h0 := run_sliceAt_string (P := Try.prog) (w := W) 9 (.string ⟨key.toArray⟩) (some (.int .i64 (j : Int))) (some (.int .i64 (m : Int))) none Try.underlying9
    refine h0.trans ?_
    have b1 : (Instr.sliceBound (.int .i64 (m : Int)) key.length .sliceAlen).run Try.prog W = .ok m W := by
     simp [Instr.sliceBound, asIntOf, go_sem, hml]
    have b2 : (Instr.sliceBound (.int .i64 (j : Int)) m .sliceB).run Try.prog W = .ok j W := by
     simp [Instr.sliceBound, asIntOf, go_sem, hmj]
    simp [Instr.slice, Instr.sliceBounds, run_underlying Try.underlying9, hsz, b1, b2, hext]
   have hw7 : ((key.drop j).take 7).length ≤ 7 := List.length_take_le ..
   obtain ⟨mu, hmu⟩ : ∃ mu, h * x % 2305843009213693951 = mu := ⟨_, rfl⟩
   have hmu1 : mu < 2305843009213693951 := by rw [← hmu]; exact Nat.mod_lt _ (by decide)
   obtain ⟨nm, hnm⟩ : ∃ nm, num ((key.drop j).take 7) = nm := ⟨_, rfl⟩
   have hnm1 : nm < 72057594037927936 := by
    rw [← hnm]
    exact Nat.lt_of_lt_of_le (num_lt _ _ rfl) (by rw [show (72057594037927936 : Nat) = 256 ^ 7 from rfl]; exact Nat.pow_le_pow_right (by decide) hw7)
   obtain ⟨sm, hsm⟩ : ∃ sm, (mu + nm) % 2305843009213693951 = sm := ⟨_, rfl⟩
   have hsm1 : sm < 2305843009213693951 := by rw [← hsm]; exact Nat.mod_lt _ (by decide)
   have SM := Lib.hid (fun (W : World) (k : Nat) => same_mul (w := W) (n := k) (show h < 2305843009213693952 by omega) hx)
   have SW := Lib.hid (fun (W : World) (k : Nat) => same_word (w := W) (n := k) hw7)
   have SA := Lib.hid (fun (W : World) (k : Nat) => same_add (x := mu) (y := nm) (w := W) (n := k) (by omega))
   rw [hmu] at SM
   rw [hnm] at SW
   rw [hsm] at SA
   have HMU := Lib.hid hmu
   have HNM := Lib.hid hnm
   have HSM := Lib.hid hsm
   have HM := Lib.hid hm
   clear hm hmu hnm hsm hext hw7
   go_wp2_with fail
   go_quiet (first | (go_at_call 112; exact SM.out _ _) | (go_at_call 113; exact SW.out _ _) | (go_at_call 111; exact SA.out _ _))
   go_wp2_with fail
   obtain ⟨f, rfl⟩ : ∃ f', f = f' + 1 := ⟨f - 1, by rw [List.length_drop] at hf; omega⟩
   have hne : key.drop j ≠ [] := by intro e; have := congrArg List.length e; rw [List.length_drop] at this; simp at this; omega
   have hst : chunks x (f + 1) h (key.drop j) = chunks x f sm (key.drop (j + 7)) := by
    show (if key.drop j = [] then _ else _) = _
    rw [if_neg hne, HMU.out, HNM.out, HSM.out, List.drop_drop]
   exact ⟨⟨j + 7, sm, f, by omega, hsm1, by rw [List.length_drop] at hf ⊢; omega, by rw [← hst]; exact HC.out, rfl, by go_num, B2.out.drewN _, MR.out.drewN _⟩, by simp [intOf]; omega⟩
  ·have hdr : key.drop j = [] := List.drop_eq_nil_of_le (by omega)
   have hc0 := HC.out
   rw [hdr] at hc0
   have hch : chunks x f h [] = h := by cases f <;> rfl
   rw [hch] at hc0
   obtain ⟨mu, hmu⟩ : ∃ mu, h * a % 2305843009213693951 = mu := ⟨_, rfl⟩
   have hmu1 : mu < 2305843009213693951 := by rw [← hmu]; exact Nat.mod_lt _ (by decide)
   obtain ⟨sm, hsm⟩ : ∃ sm, (mu + b) % 2305843009213693951 = sm := ⟨_, rfl⟩
   have hres : sm = Row.of ⟨x, a, b⟩ key := by unfold Row.of; simp only; rw [← hc0, hmu, hsm]
   have SM := Lib.hid (fun (W : World) (k : Nat) => same_mul (w := W) (n := k) (show h < 2305843009213693952 by omega) ha)
   have SA := Lib.hid (fun (W : World) (k : Nat) => same_add (x := mu) (y := b) (w := W) (n := k) (by omega))
   rw [hmu] at SM
   rw [hsm] at SA
   have HRS := Lib.hid hres
   clear hc0 hch hmu hsm hres
   go_wp2_with fail
   go_quiet (first | (go_at_call 112; exact SM.out _ _) | (go_at_call 111; exact SA.out _ _))
   go_wp2_with fail
   go_ret
   exact ⟨by rw [← HRS.out]; rfl, MR.out.drewN _⟩
theorem bucket_any (r : Row) (key : List UInt8) (n : Nat) (hr : r.ok) (hl : key.length ≤ 1000000) (h1 : 0 < n) (hn : n < 4096) (w : World) :
  Calls Try.prog 104 #[.agg #[.int .u64 (r.x : Int), .int .u64 (r.a : Int), .int .u64 (r.b : Int)], .string ⟨key.toArray⟩, .int .i64 n] w fun e w' => e = .returned (.int .i64 (place (r.of key) n : Nat)) ∧ Mod [] w w' := by
 have K := Lib.hid (fun W : World => of_key r key hr hl W)
 have P := Lib.hid (fun W : World => place_any (r.of key) n (r.of_lt key) hn h1 W)
 generalize r.of key = q at *
 obtain ⟨x, a, b⟩ := r
 simp only at K
 clear hr
 go_enter Try.func104, Try.ntmps104
 go_wp2_with fail
 refine (K.out _).mono ?_
 rintro e w1 ⟨rfl, hM1⟩
 go_wp2_with fail
 refine (P.out _).mono ?_
 rintro e w2 ⟨rfl, hM2⟩
 go_wp2_with fail
 go_ret
 exact ⟨rfl, (((Mod.refl [] w).alloc _).trans hM1).trans hM2⟩
end Go.Proofs.Ytndekdafiaogmaa.Hash
end
section
namespace Go.Proofs.Ytndekdafiaogmaa.Hash
open Go Go.RowKit Go.YtndekdafiaogmaaMem Go.YtndekdafiaogmaaLex
def v64 (l : List Nat) : List Value := l.map fun (x : Nat) => .int .u64 (x : Int)
theorem v64_length (l : List Nat) : (v64 l).length = l.length := by simp [v64]
theorem v64_get {l : List Nat} {i x : Nat} (h : l[i]? = some x) : (v64 l)[i]? = some (.int .u64 (x : Int)) := by simp [v64, h]
set_option maxRecDepth 4000 in
theorem draw_any {w : World} {v : Value} {l : List Nat} (hv : Sl w v (v64 l)) (i : Nat) (hi : i < 1000000) :
  Calls Try.prog 59 #[v, .int .i64 i] w fun e w' => e = .returned (.int .u64 ((l.getD i 0 : Nat) : Int)) ∧ w = w' := by
 obtain ⟨a, cp, rfl, hm, hA⟩ := hv.open
 rw [v64_length] at *
 by_cases h : i < l.length
 ·obtain ⟨b, off, rfl, hb, hc⟩ := hA i h
  have ck := hc i _ (v64_get (List.getElem?_eq_getElem h))
  have hd : l.getD i 0 = l[i] := by rw [List.getD_eq_getElem?_getD, List.getElem?_eq_getElem h]; rfl
  rw [hd]
  generalize l[i] = x at *
  have dl : decide ((l.length : Int) ≤ i) = false := by simp; omega
  clear hv hA hc hd
  go_enter Try.func59, Try.ntmps59
  go_wp2_with fail
  go_ret
  exact ⟨rfl, rfl⟩
 ·have hd : l.getD i 0 = 0 := by rw [List.getD_eq_getElem?_getD, List.getElem?_eq_none (by omega)]; rfl
  rw [hd]
  have dl : decide ((l.length : Int) ≤ i) = true := by simp; omega
  clear hv hA hd
  go_enter Try.func59, Try.ntmps59
  go_wp2_with fail
  go_ret
  exact ⟨rfl, rfl⟩
def wholeN (l : List Nat) (i : Nat) : Nat := l.getD i 0 % 2305843009213693950 + 1
theorem wholeN_lt (l : List Nat) (i : Nat) : wholeN l i < 2305843009213693951 := by unfold wholeN; omega
set_option maxRecDepth 4000 in
theorem whole_any {w : World} {v : Value} {l : List Nat} (hv : Sl w v (v64 l)) (i : Nat) (hi : i < 1000000) :
  Calls Try.prog 57 #[v, .int .i64 i] w fun e w' => e = .returned (.int .u64 ((wholeN l i : Nat) : Int)) ∧ w = w' := by
 have D := Lib.hid (draw_any hv i hi)
 have hw := wholeN_lt l i
 have he : wholeN l i = l.getD i 0 % 2305843009213693950 + 1 := rfl
 generalize wholeN l i = q at *
 generalize l.getD i 0 = x at *
 obtain ⟨y, hy⟩ : ∃ y, x % 2305843009213693950 = y := ⟨_, rfl⟩
 have hx : (x : Int).tmod 2305843009213693950 = (y : Int) := by rw [Int.tmod_eq_emod_of_nonneg (by omega)]; omega
 have hx2 : (x : Int) % 2305843009213693950 = (y : Int) := by omega
 have hq : q = y + 1 := by omega
 have hy1 : y < 2305843009213693950 := by omega
 clear hv he hy
 subst hq
 go_enter Try.func57, Try.ntmps57
 go_wp2_with fail
 refine D.out.mono ?_
 rintro e w' ⟨rfl, rfl⟩
 go_wp2_with fail
 go_ret
 exact ⟨rfl, rfl⟩
theorem row_info : ∃ i, Try.prog.info? 75 = some i ∧ i.zero = some (.agg #[.int .u64 0, .int .u64 0, .int .u64 0]) ∧ i.size = 3 ∧ i.bytes = 24 := info_parts (show (Try.prog.info? 75).map (fun i => (i.zero, i.size, i.bytes)) = some (some ((.agg #[.int .u64 0, .int .u64 0, .int .u64 0])), 3, 24) by kernel_rfl)
end Go.Proofs.Ytndekdafiaogmaa.Hash
end
