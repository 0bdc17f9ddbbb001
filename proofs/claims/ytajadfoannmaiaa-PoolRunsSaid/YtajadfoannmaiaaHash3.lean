/- a key's number and its place among n. -/
import Derived.Test.YtajadfoannmaiaaHash2
import Derived.OwnWalk
namespace Go.Proofs.Ytajadfoannmaiaa.Hash
open Go Go.RowKit Go.YtajadfoannmaiaaMem Go.YtajadfoannmaiaaLex
set_option linter.unusedVariables false
set_option linter.unusedSimpArgs false

def DowPost (q : Nat) (w : World) (e : Ending) (w' : World) : Prop := ∃ r : Int, e = .returned (.tuple #[.int .u64 (q : Int), .int .u64 r, .bool true]) ∧ w.heap = w'.heap ∧ Mod [] w w'
theorem heap_refl (w : World) : w.heap = w.drew.heap := rfl
set_option maxRecDepth 4000 in
theorem divide_any (h n : Nat) (hh : h < 2305843009213693951) (hn : n < 4096) (w : World) :
    Calls Try.prog 53 #[.int .u64 h, .int .u64 n, .int .u64 2305843009213693951] w (DowPost (h * n / 2305843009213693951) w) := by
  obtain ⟨m, hm⟩ : ∃ m, h * n = m := ⟨_, rfl⟩
  have hm1 : m < 9444732965739290427392 := by
    rw [← hm]
    have := Nat.mul_lt_mul'' hh hn
    omega
  have D := Lib.hid (fun (h0 : m / 18446744073709551616 ≠ 0) (W : World) => div_any m hm1 h0 W)
  have E := Lib.hid (fun (W : World) => div_small (m % 18446744073709551616) (by omega) W)
  have M := Lib.hid (fun (W : World) => mul64_any h n (by omega) (by omega) W)
  rw [hm] at M ⊢
  have hs : m / 18446744073709551616 = 0 → m % 18446744073709551616 / 2305843009213693951 = m / 2305843009213693951 := fun h => by omega
  have HS := Lib.hid hs
  have hhi : m / 18446744073709551616 < 512 := by omega
  obtain ⟨hi, hhe⟩ : ∃ hi, m / 18446744073709551616 = hi := ⟨_, rfl⟩
  obtain ⟨lo, hlo⟩ : ∃ lo, m % 18446744073709551616 = lo := ⟨_, rfl⟩
  obtain ⟨q, hq⟩ : ∃ q, m / 2305843009213693951 = q := ⟨_, rfl⟩
  rw [hhe, hlo] at M D
  rw [hlo] at E
  rw [hhe, hlo] at HS
  rw [hq] at D HS ⊢
  rw [hhe] at hhi
  have dP : decide ((2305843009213693951 : Int) ≤ (hi : Int)) = false := by simp; omega
  clear hm hm1 hs hhe hlo hq
  go_enter Try.func53, Try.ntmps53
  go_wp2_with fail
  refine (M.out _).mono ?_
  rintro e w' ⟨rfl, rfl⟩
  by_cases h0 : hi = 0
  · subst h0
    have hsm := HS.out rfl
    go_wp2_with fail
    refine (E.out _).mono ?_
    rintro e w' ⟨r, rfl, hw, hM⟩
    go_wp2_with fail
    go_ret3
    exact ⟨r, by rw [← hsm]; rfl, hw, hM⟩
  · go_wp2_with fail
    refine (D.out h0 _).mono ?_
    rintro e w' ⟨r, rfl, hw, hM⟩
    go_wp2_with fail
    go_ret3
    exact ⟨r, rfl, hw, hM⟩
theorem down_any (h n : Nat) (hh : h < 2305843009213693951) (hn : n < 4096) (w : World) :
    Calls Try.prog 49 #[.int .u64 h, .int .u64 n, .int .u64 2305843009213693951] w fun e w' => e = .returned (.tuple #[.int .u64 ((h * n / 2305843009213693951 : Nat) : Int), .bool true]) ∧ Mod [] w w' := by
  obtain ⟨q, hq⟩ : ∃ q, h * n / 2305843009213693951 = q := ⟨_, rfl⟩
  have D := Lib.hid (divide_any h n hh hn w)
  rw [hq] at D ⊢
  clear hq
  go_enter Try.func49, Try.ntmps49
  go_wp2_with fail
  refine D.out.mono ?_
  rintro e w' ⟨r, rfl, hw, hM⟩
  go_wp2_with fail
  go_ret2
  exact ⟨rfl, hM⟩
/-- A number below the prime as one of n places. -/
def place (h n : Nat) : Nat := h * n / 2305843009213693951
theorem place_lt {h n : Nat} (hh : h < 2305843009213693951) (hn : 0 < n) : place h n < n := by
  unfold place
  rw [Nat.div_lt_iff_lt_mul (by omega), Nat.mul_comm n]
  exact Nat.mul_lt_mul_of_pos_right hh hn
theorem place_any (h n : Nat) (hh : h < 2305843009213693951) (hn : n < 4096) (h1 : 0 < n) (w : World) :
    Calls Try.prog 45 #[.int .u64 h, .int .i64 n] w fun e w' => e = .returned (.int .i64 (place h n : Nat)) ∧ Mod [] w w' := by
  have hp := place_lt hh h1
  have D := Lib.hid (down_any h n hh hn w)
  rw [show h * n / 2305843009213693951 = place h n from rfl] at D
  generalize place h n = q at *
  have dn : decide ((n : Int) < 1) = false := by simp; omega
  go_enter Try.func45, Try.ntmps45
  go_wp2_with fail
  refine D.out.mono ?_
  rintro e w' ⟨rfl, hM⟩
  go_wp2_with fail
  go_ret
  exact ⟨rfl, hM⟩

/-- Bytes as a number, the first one highest. -/
def num : List UInt8 → Nat := List.foldl (fun x b => x * 256 + b.toNat) 0
theorem num_snoc (l : List UInt8) (b : UInt8) : num (l ++ [b]) = num l * 256 + b.toNat := by unfold num; rw [List.foldl_append]; rfl
theorem num_lt : ∀ (j : Nat) (l : List UInt8), l.length = j → num l < 256 ^ j
  | 0, l, h => by rw [List.eq_nil_of_length_eq_zero h]; decide
  | j + 1, l, h => by
    have hne : l ≠ [] := by intro e; rw [e] at h; simp at h
    rw [← List.dropLast_concat_getLast hne, num_snoc]
    have h1 := num_lt j l.dropLast (by rw [List.length_dropLast]; omega)
    have h2 := (l.getLast hne).toNat_lt
    rw [Nat.pow_succ]
    have : (num l.dropLast + 1) * 256 ≤ 256 ^ j * 256 := Nat.mul_le_mul_right _ h1
    omega
end Go.Proofs.Ytajadfoannmaiaa.Hash
