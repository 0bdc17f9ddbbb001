/- frame: the first fault of bytes. -/
import Derived.Test.YtnhnmpgjbopihaaParse
namespace Go.Proofs.Ytnhnmpgjbopihaa.Frame
open Go Go.RowKit Go.YtnhnmpgjbopihaaMem Go.YtnhnmpgjbopihaaLex
set_option linter.unusedVariables false
set_option linter.unusedSimpArgs false

/-! ### The first fault -/

def pfxTo (bs : List UInt8) (rules : Int) : Nat → Nat
  | 0 => 0
  | k + 1 => if pfxTo bs rules k ≠ 0 then pfxTo bs rules k else faultAt bs rules k
theorem pfxTo_stay {bs : List UInt8} {rules : Int} {k : Nat} (h : pfxTo bs rules k ≠ 0) : ∀ m, k ≤ m → pfxTo bs rules m = pfxTo bs rules k := by
  intro m hm
  induction m with
  | zero =>
    obtain rfl : k = 0 := by omega
    rfl
  | succ m ih =>
    rcases Nat.lt_or_ge m k with hlt | hge
    · obtain rfl : k = m + 1 := by omega
      rfl
    · have := ih hge
      simp only [pfxTo, this, h, ne_eq, not_false_eq_true, if_true]
/-- How many bytes are looked at. -/
def lim (bs : List UInt8) : Nat := min bs.length (4 + nb bs 3)
def pfx (bs : List UInt8) (rules : Int) : Nat := pfxTo bs rules (lim bs)

set_option maxRecDepth 4000 in
set_option maxHeartbeats 1600000 in
theorem prefix_main {w : World} {b off c : Nat} {bs : List UInt8} (hc : bs.length ≤ 1000000) (hcell : ∀ i u, (vb bs)[i]? = some u → w.cell? ⟨b, off + i, none⟩ = some u) (rules : Int) :
    Calls Try.prog 37 #[.slice (some ⟨b, off, none⟩) bs.length c, .int .i64 rules] w fun e w' => e = .returned (.int .i64 (pfx bs rules)) ∧ w = w' := by
  have HC := Lib.hid hcell
  clear hcell
  go_enter Try.func37, Try.ntmps37
  go_wp2_with fail
  go_loopw [10] (fun i wr => ∃ k : Nat, k ≤ bs.length ∧ i = .int .i64 k ∧ pfxTo bs rules k = 0 ∧ (k ≤ 4 ∨ k ≤ 4 + nb bs 3) ∧ w = wr) (fun i _ => bs.length - (intOf i).toNat)
  case atStart => exact ⟨0, Nat.zero_le _, rfl, rfl, by omega, rfl⟩
  case round =>
    obtain ⟨k, hk, rfl, hp, h4, rfl⟩ := hrel
    have HP := Lib.hid hp
    clear hp
    have hn := nb_lt bs 3
    by_cases hlt : k < bs.length
    · have ck : w.cell? ⟨b, off + k, none⟩ = some (.int .u8 (nb bs k)) := HC.out k _ (nb_get hlt)
      by_cases hk4 : 4 ≤ k
      · have c3 : w.cell? ⟨b, off + 3, none⟩ = some (.int .u8 (nb bs 3)) := HC.out 3 _ (nb_get (by omega))
        have d4 : decide ((4 : Int) ≤ k) = true := by simp; omega
        by_cases hstop : 4 + nb bs 3 ≤ k
        · have ds : decide ((4 : Int) + nb bs 3 ≤ k) = true := by simp; omega
          go_wp2_with fail
          go_ret
          refine ⟨ret_int (n := pfx bs rules) ?_, rfl⟩
          have hp := HP.out
          unfold pfx lim
          rw [show min bs.length (4 + nb bs 3) = k by omega, hp]; rfl
        · have ds : decide ((4 : Int) + nb bs 3 ≤ k) = false := by simp; omega
          go_wp2_with fail
          refine (fault_any HC.out k hlt rules).mono ?_
          rintro e w' ⟨rfl, rfl⟩
          by_cases hf : faultAt bs rules k = 0
          · rw [hf]
            go_wp2_with fail
            go_roundw
            case rel => exact ⟨k + 1, by omega, by go_num, by have hp := HP.out; simp [pfxTo, hp, hf], by omega, (by first | rfl | trivial)⟩
            case measure => simp [intOf]; omega
          · have hf1 : ¬ (faultAt bs rules k : Int) = 0 := by omega
            have hf2 : ((faultAt bs rules k : Int) == 0) = false := by simpa using hf
            go_wp2_with fail
            go_ret
            refine ⟨ret_int (n := pfx bs rules) ?_, rfl⟩
            have hp := HP.out
            have e1 : pfxTo bs rules (k + 1) = faultAt bs rules k := by simp [pfxTo, hp]
            unfold pfx
            rw [pfxTo_stay (k := k + 1) (by rw [e1]; exact hf) _ (by unfold lim; omega), e1]
      · have d4 : decide ((4 : Int) ≤ k) = false := by simp; omega
        go_wp2_with fail
        refine (fault_any HC.out k hlt rules).mono ?_
        rintro e w' ⟨rfl, rfl⟩
        by_cases hf : faultAt bs rules k = 0
        · rw [hf]
          go_wp2_with fail
          go_roundw
          case rel => exact ⟨k + 1, by omega, by go_num, by have hp := HP.out; simp [pfxTo, hp, hf], by omega, (by first | rfl | trivial)⟩
          case measure => simp [intOf]; omega
        · have hf1 : ¬ (faultAt bs rules k : Int) = 0 := by omega
          have hf2 : ((faultAt bs rules k : Int) == 0) = false := by simpa using hf
          go_wp2_with fail
          go_ret
          refine ⟨ret_int (n := pfx bs rules) ?_, rfl⟩
          have hp := HP.out
          have e1 : pfxTo bs rules (k + 1) = faultAt bs rules k := by simp [pfxTo, hp]
          unfold pfx
          rw [pfxTo_stay (k := k + 1) (by rw [e1]; exact hf) _ (by unfold lim; omega), e1]
    · obtain rfl : k = bs.length := by omega
      go_wp2_with fail
      go_ret
      refine ⟨ret_int (n := pfx bs rules) ?_, rfl⟩
      have hp := HP.out
      unfold pfx lim
      by_cases h : bs.length ≤ 4 + nb bs 3
      · rw [show min bs.length (4 + nb bs 3) = bs.length by omega, hp]; rfl
      · omega

/-! ### A number of some bytes -/

def numOf (bs : List UInt8) : Nat := bs.foldl (fun x c => x * 256 + c.toNat) 0
theorem numOf_snoc (bs : List UInt8) (c : UInt8) : numOf (bs ++ [c]) = numOf bs * 256 + c.toNat := by simp [numOf]
theorem numOf_lt : ∀ (bs : List UInt8), numOf bs < 256 ^ bs.length := by
  intro bs
  have key : ∀ (bs : List UInt8) (x : Nat), bs.foldl (fun x c => x * 256 + c.toNat) x < (x + 1) * 256 ^ bs.length := by
    intro bs
    induction bs with
    | nil => intro x; simp
    | cons c bs ih =>
      intro x
      have h1 := ih (x * 256 + c.toNat)
      have h2 := c.toNat_lt
      refine Nat.lt_of_lt_of_le h1 ?_
      rw [List.length_cons, Nat.pow_succ, Nat.mul_comm (256 ^ bs.length) 256, ← Nat.mul_assoc]
      exact Nat.mul_le_mul_right _ (by omega)
  simpa [numOf] using key bs 0

set_option maxRecDepth 8000 in
theorem wrap_u64 {n : Nat} (h : n < 18446744073709551616) : IntKind.u64.wrap (n : Int) = n := by
  have h1 : (2 : Int) ^ IntKind.u64.bits = 18446744073709551616 := by decide
  have h2 : IntKind.u64.signed = false := rfl
  unfold IntKind.wrap
  simp only [h1, h2, Bool.false_and, Bool.false_eq_true, if_false]
  omega
set_option maxRecDepth 8000 in
theorem or_low {a c : Nat} (hc : c < 256) (ha : a * 256 + c < 18446744073709551616) : bits .or .u64 ((a : Int) * 256) (IntKind.u64.wrap c) = ((a * 256 + c : Nat) : Int) := by
  rw [wrap_u64 (by omega), show (a : Int) * 256 = ((a * 256 : Nat) : Int) by simp]
  simp only [bits, BitVec.ofInt_natCast, BitVec.toNat_or, BitVec.toNat_ofNat]
  simp only [show IntKind.u64.bits = 64 from rfl]
  rw [Nat.mod_eq_of_lt (show a * 256 < 2 ^ 64 by omega), Nat.mod_eq_of_lt (show c < 2 ^ 64 by omega)]
  have : a * 256 ||| c = a * 256 + c := by
    have := Nat.two_pow_add_eq_or_of_lt (i := 8) (b := c) hc a
    rw [show (2 : Nat) ^ 8 * a = a * 256 by omega] at this
    exact this.symm
  rw [this, wrap_u64 ha]

set_option maxRecDepth 4000 in
set_option maxHeartbeats 1600000 in
theorem num_main {w : World} {b off c : Nat} {bs : List UInt8} (hc : bs.length ≤ 8) (hcell : ∀ i u, (vb bs)[i]? = some u → w.cell? ⟨b, off + i, none⟩ = some u) :
    Calls Try.prog 38 #[.slice (some ⟨b, off, none⟩) bs.length c] w fun e w' => e = .returned (.int .u64 (numOf bs)) ∧ w = w' := by
  have HC := Lib.hid hcell
  clear hcell
  go_enter Try.func38, Try.ntmps38
  go_wp2_with fail
  go_loopw [3, 8] (fun x i wr => ∃ k : Nat, k ≤ bs.length ∧ i = .int .i64 k ∧ x = .int .u64 (numOf (bs.take k)) ∧ w = wr) (fun _ i _ => bs.length - (intOf i).toNat)
  case atStart => exact ⟨0, Nat.zero_le _, rfl, rfl, rfl⟩
  case round =>
    obtain ⟨k, hk, rfl, rfl, rfl⟩ := hrel
    by_cases hlt : k < bs.length
    · have ck : w.cell? ⟨b, off + k, none⟩ = some (.int .u8 bs[k].toNat) := HC.out k _ (vb_get (List.getElem?_eq_getElem hlt))
      have hx : numOf (bs.take k) < 72057594037927936 := by
        refine Nat.lt_of_lt_of_le (numOf_lt _) ?_
        rw [List.length_take, show (72057594037927936 : Nat) = 256 ^ 7 from rfl]
        exact Nat.pow_le_pow_right (by decide) (by omega)
      go_wp2_with fail
      have e1 : numOf (bs.take (k + 1)) = numOf (bs.take k) * 256 + bs[k].toNat := by
        rw [List.take_succ_eq_append_getElem hlt, numOf_snoc]
      have hb := bs[k].toNat_lt
      rw [or_low hb (by omega)]
      refine ⟨⟨k + 1, by omega, by go_num, by rw [e1], trivial⟩, by simp [intOf]; omega⟩
    · obtain rfl : k = bs.length := by omega
      rw [List.take_length]
      go_wp2_with fail
      go_ret
      exact ⟨rfl, rfl⟩
end Go.Proofs.Ytnhnmpgjbopihaa.Frame
