/- bits.Div64 by 2^61 - 1, of a small high part; a key's place among n. -/
import Derived.Test.YtajadfoannmaiaaHash
namespace Go.Proofs.Ytajadfoannmaiaa.Hash
open Go Go.RowKit Go.YtajadfoannmaiaaMem Go.YtajadfoannmaiaaLex
set_option linter.unusedVariables false
set_option linter.unusedSimpArgs false

set_option maxRecDepth 4000 in
theorem lead_any (w : World) : Calls Try.prog 56 #[.int .u64 2305843009213693951] w fun e w' => e = .returned (.int .i64 3) ∧ w = w' := by
  go_enter Try.func56, Try.ntmps56
  go_wp2_with fail
  have : Calls Try.prog 57 #[.int .u64 2305843009213693951] w fun e w' => e = .returned (.int .i64 61) ∧ w = w' := by
    go_enter Try.func57, Try.ntmps57
    go_wp2_with fail
    go_ret
    exact ⟨by first | kernel_rfl | (simp; decide), rfl⟩
  refine this.mono ?_
  rintro e w' ⟨rfl, rfl⟩
  go_wp2_with fail
  go_ret
  exact ⟨rfl, rfl⟩

def DivPost (q : Nat) (w : World) (e : Ending) (w' : World) : Prop := ∃ r : Int, e = .returned (.tuple #[.int .u64 (q : Int), .int .u64 r]) ∧ w.heap = w'.heap ∧ Mod [] w w'

set_option maxRecDepth 4000 in
theorem div_small (lo : Nat) (hlo : lo < 18446744073709551616) (w : World) :
    Calls Try.prog 55 #[.int .u64 0, .int .u64 lo, .int .u64 2305843009213693951] w (DivPost (lo / 2305843009213693951) w) := by
  go_enter Try.func55, Try.ntmps55
  go_wp2_with fail
  refine wp_region_lex (by kernel_rfl) (by kernel_rfl) ?_
  go_wp2_with fail
  refine ⟨by kernel_rfl, ?_⟩
  go_wp2_with fail
  go_ret2
  refine ⟨(lo : Int) % 2305843009213693951, ?_, rfl, (Mod.refl [] w).drew⟩
  rfl

set_option maxRecDepth 40000 in
set_option maxHeartbeats 1600000 in
theorem div_any (m : Nat) (hm : m < 9444732965739290427392) (h0 : m / 18446744073709551616 ≠ 0) (w : World) :
    Calls Try.prog 55 #[.int .u64 ((m / 18446744073709551616 : Nat) : Int), .int .u64 ((m % 18446744073709551616 : Nat) : Int), .int .u64 2305843009213693951] w (DivPost (m / 2305843009213693951) w) := by
  obtain ⟨hi, hhi⟩ : ∃ hi, m / 18446744073709551616 = hi := ⟨_, rfl⟩
  obtain ⟨lo, hlo⟩ : ∃ lo, m % 18446744073709551616 = lo := ⟨_, rfl⟩
  rw [hhi] at h0 ⊢
  rw [hlo]
  have hlo1 : lo < 18446744073709551616 := by omega
  have hhi1 : hi < 512 := by omega
  obtain ⟨c, hc⟩ : ∃ c, lo / 2305843009213693952 = c := ⟨_, rfl⟩
  have hc1 : c < 8 := by omega
  have hcd : (lo : Int) / 2305843009213693952 = (c : Int) := by omega
  have hor := or8 hi c hc1 (by omega)
  obtain ⟨a, ha⟩ : ∃ a, hi * 8 + c = a := ⟨_, rfl⟩
  rw [ha] at hor
  have ha1 : a < 4096 := by omega
  obtain ⟨b, hb⟩ : ∃ b, m % 2305843009213693952 = b := ⟨_, rfl⟩
  have hma : m = 2305843009213693952 * a + b := by omega
  have hb1 : b < 2305843009213693952 := by omega
  have hsh : IntKind.u64.wrap ((lo : Int) * 8) = ((8 * b : Nat) : Int) := by rw [IntKind.wrap_u64]; omega
  obtain ⟨u1, hu1⟩ : ∃ u1, b / 536870912 = u1 := ⟨_, rfl⟩
  obtain ⟨u0, hu0⟩ : ∃ u0, b % 536870912 = u0 := ⟨_, rfl⟩
  have e1 : ((8 * b : Nat) : Int) / 4294967296 = (u1 : Int) := by omega
  have e0 : bits .and .u64 ((8 * b : Nat) : Int) 4294967295 = ((8 * u0 : Nat) : Int) := by rw [Mul64.maskN _ (by omega)]; omega
  have D1 := Lib.hid (fun W : World => lead_any W)
  have HMA := Lib.hid hma
  have HA := Lib.hid ha
  have HU1 := Lib.hid hu1
  have HU0 := Lib.hid hu0
  have hu1b : u1 < 4294967296 := by omega
  have hu0b : u0 < 536870912 := by omega
  rw [show ((8 * b : Nat) : Int) = 8 * (b : Int) by simp] at hsh e1 e0
  rw [show ((8 * u0 : Nat) : Int) = 8 * (u0 : Int) by simp] at e0
  clear hma ha hm
  clear hhi hlo hc hb hu1 hu0
  have dP : decide ((2305843009213693951 : Int) ≤ (hi : Int)) = false := by simp; omega
  have d0 : ((hi : Int) == 0) = false := by simp; omega
  have d0' : decide ((hi : Int) = 0) = false := by simp; omega
  obtain ⟨q, hq⟩ : ∃ q, m / 2305843009213693951 = q := ⟨_, rfl⟩
  rw [hq]
  have HQ := Lib.hid hq
  clear hq
  have hband : bits .and .u64 18446744073709551608 4294967295 = 4294967288 := by kernel_rfl
  have hq1 : (a : Int) / 4294967295 = 0 := by omega
  obtain ⟨z, hz⟩ : ∃ z, (a * 4294967296 + u1) / 4294967295 = z := ⟨_, rfl⟩
  obtain ⟨rh, hrh⟩ : ∃ rh, (a * 4294967296 + u1) % 4294967295 = rh := ⟨_, rfl⟩
  have hzr : a * 4294967296 + u1 = z * 4294967295 + rh := by omega
  have hz1 : z < 8192 := by omega
  have hrh1 : rh < 4294967295 := by omega
  have hzi : ((a : Int) * 4294967296 + u1) / 4294967295 = (z : Int) := by omega
  have hri : (a : Int) * 4294967296 + u1 - z * 4294967295 = (rh : Int) := by omega
  have hb2 : b = 536870912 * u1 + u0 := by have h1 := HU1.out; have h2 := HU0.out; omega
  have ha3 : a * 4294967296 + u1 < 20000000000000 := by omega
  have hqz : q = if z * 4294967288 ≤ 4294967296 * rh + 8 * u0 then z else z - 1 := by
    have h1 := HMA.out; have h2 := HQ.out
    split <;> omega
  have HQZ := Lib.hid hqz
  obtain ⟨t, ht⟩ : ∃ t : Nat, a * 4294967296 + u1 = t := ⟨_, rfl⟩
  have hti : (a : Int) * 4294967296 + u1 = (t : Int) := by omega
  rw [hti] at hzi hri
  have ht1 : t < 20000000000000 := by omega
  obtain ⟨p1, hp1⟩ : ∃ p1 : Int, IntKind.u64.wrap ((t : Int) * 4294967296) = p1 := ⟨_, rfl⟩
  obtain ⟨p2, hp2⟩ : ∃ p2 : Int, IntKind.u64.wrap (p1 + 8 * (u0 : Int)) = p2 := ⟨_, rfl⟩
  obtain ⟨p3, hp3⟩ : ∃ p3 : Int, IntKind.u64.wrap ((z : Int) * 18446744073709551608) = p3 := ⟨_, rfl⟩
  obtain ⟨p4, hp4⟩ : ∃ p4 : Int, IntKind.u64.wrap (p2 - p3) = p4 := ⟨_, rfl⟩
  clear hzr hb2 hqz hz hrh ht ha3
  go_enter Try.func55, Try.ntmps55
  go_wp2_with fail
  refine (D1.out _).mono ?_
  rintro e w' ⟨rfl, rfl⟩
  go_wp2_with fail
  refine wp_loop_once ?_
  go_wp2_with fail
  have dz : decide ((4294967296 : Int) ≤ (z : Int)) = false := by simp; omega
  by_cases hA : z * 4294967288 ≤ 4294967296 * rh + 8 * u0
  · have dA : decide ((4294967296 : Int) * rh + 8 * u0 < z * 4294967288) = false := by simp; omega
    refine wp_loop_once ?_
    go_wp2_with fail
    go_ret2
    exact ⟨p4 / 8, by rw [HQZ.out, if_pos hA]; rfl, rfl, Mod.refl [] w⟩
  · have dB : decide ((4294967296 : Int) * rh + 8 * u0 < z * 4294967288) = true := by simp; omega
    have hz0 : 0 < z := by omega
    obtain ⟨zm, hzm⟩ : ∃ zm, z - 1 = zm := ⟨_, rfl⟩
    have hzmi : (z : Int) - 1 = (zm : Int) := by omega
    have hzm1 : zm < 8192 := by omega
    have dzm : decide ((4294967296 : Int) ≤ (zm : Int)) = false := by simp; omega
    have dC : decide ((18446744069414584320 : Int) + 8 * u0 < zm * 4294967288) = false := by simp; omega
    have HR : Hid (q = zm) := Lib.hid (by rw [HQZ.out, if_neg hA, hzm])
    obtain ⟨p5, hp5⟩ : ∃ p5 : Int, IntKind.u64.wrap ((zm : Int) * 18446744073709551608) = p5 := ⟨_, rfl⟩
    obtain ⟨p6, hp6⟩ : ∃ p6 : Int, IntKind.u64.wrap (p2 - p5) = p6 := ⟨_, rfl⟩
    have HH := Lib.hid hzm
    clear hA hzm hp3 hp4
    go_loopw [16, 18] (fun r x wr => wr = w ∧ ((r = .int .u64 rh ∧ x = .int .u64 z) ∨ (rh = 0 ∧ r = .int .u64 4294967295 ∧ x = .int .u64 zm))) (fun _ x _ => (intOf x).toNat)
    case atStart => exact ⟨rfl, .inl ⟨rfl, rfl⟩⟩
    case round =>
      obtain ⟨rfl, hd⟩ := hrel
      rcases hd with ⟨rfl, rfl⟩ | ⟨hr0, rfl, rfl⟩
      · by_cases h1 : rh = 0
        · have dR : decide ((4294967296 : Int) ≤ (rh : Int) + 4294967295) = false := by simp; omega
          have hre : (rh : Int) + 4294967295 = 4294967295 := by omega
          have H1 := Lib.hid h1
          clear h1
          go_wp2_with fail
          exact ⟨⟨by trivial, .inr ⟨H1.out, rfl, rfl⟩⟩, by simp [intOf]; omega⟩
        · have dR : decide ((4294967296 : Int) ≤ (rh : Int) + 4294967295) = true := by simp; omega
          go_wp2_with fail
          go_ret2
          exact ⟨p6 / 8, by rw [HR.out]; rfl, rfl, Mod.refl [] wr⟩
      · go_wp2_with fail
        go_ret2
        exact ⟨p6 / 8, by rw [HR.out]; rfl, rfl, Mod.refl [] wr⟩
end Go.Proofs.Ytajadfoannmaiaa.Hash
