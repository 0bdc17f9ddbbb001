/- a key's words and its number. -/
import Derived.Test.YtajadfoannmaiaaHash3
namespace Go.Proofs.Ytajadfoannmaiaa.Hash
open Go Go.RowKit Go.YtajadfoannmaiaaMem Go.YtajadfoannmaiaaLex
set_option linter.unusedVariables false
set_option linter.unusedSimpArgs false

theorem or_byte {x c : Nat} (hc : c < 256) (hx : x < 72057594037927936) : bits .or .u64 (((x : Nat) : Int) * 256) ((c : Nat) : Int) = ((x * 256 + c : Nat) : Int) := by
  rw [show ((x : Nat) : Int) * 256 = ((x * 256 : Nat) : Int) by simp]
  simp only [bits, BitVec.ofInt_natCast, BitVec.toNat_or, BitVec.toNat_ofNat]
  simp only [show IntKind.u64.bits = 64 from rfl]
  rw [Nat.mod_eq_of_lt (show x * 256 < 2 ^ 64 by omega), Nat.mod_eq_of_lt (show c < 2 ^ 64 by omega)]
  have : x * 256 ||| c = x * 256 + c := by
    have := Nat.two_pow_add_eq_or_of_lt (i := 8) (b := c) hc x
    rw [show (2 : Nat) ^ 8 * x = x * 256 by omega] at this
    exact this.symm
  rw [this, IntKind.wrap_u64]; omega

set_option maxRecDepth 4000 in
theorem word_any (s : List UInt8) (hs : s.length ≤ 7) (w : World) :
    Calls Try.prog 52 #[.string ⟨s.toArray⟩] w fun e w' => e = .returned (.int .u64 (num s : Nat)) ∧ w = w' := by
  have hsz : (ByteArray.mk s.toArray).size = s.length := by simp [ByteArray.size]
  go_enter Try.func52, Try.ntmps52
  go_wp2_with fail
  go_loopw [3, 7] (fun x i wr => ∃ j : Nat, j ≤ s.length ∧ x = .int .u64 (num (s.take j) : Nat) ∧ i = .int .i64 j ∧ w = wr) (fun _ i _ => s.length - (intOf i).toNat)
  case atStart => exact ⟨0, Nat.zero_le _, rfl, rfl, rfl⟩
  case round =>
    obtain ⟨j, hj, rfl, rfl, rfl⟩ := hrel
    by_cases hlt : j < s.length
    · have hn := num_lt j (s.take j) (by rw [List.length_take]; omega)
      have hn2 : num (s.take j) < 281474976710656 := Nat.lt_of_lt_of_le hn (by rw [show (281474976710656 : Nat) = 256 ^ 6 from rfl]; exact Nat.pow_le_pow_right (by decide) (by omega))
      have htk : num (s.take (j + 1)) = num (s.take j) * 256 + (s[j]).toNat := by rw [List.take_succ_eq_append_getElem hlt, num_snoc]
      have HTK := Lib.hid htk
      have hb := (s[j]).toNat_lt
      have hor := or_byte hb (show num (s.take j) < 72057594037927936 by omega)
      generalize num (s.take j) = x at *
      generalize hsj : s[j] = c at *
      clear htk hn
      go_wp2_with fail
      have e : ((ByteArray.mk s.toArray)[j]'(by rw [hsz]; exact hlt)) = c := hsj
      have hw : IntKind.u64.wrap (c.toNat : Int) = c.toNat := by rw [IntKind.wrap_u64]; omega
      refine ⟨⟨j + 1, by omega, ?_, by go_num, by trivial⟩, by simp [intOf]; omega⟩
      rw [e, hw, hor, HTK.out]
    · obtain rfl : j = s.length := by omega
      rw [List.take_length]
      go_wp2_with fail
      go_ret
      exact ⟨rfl, rfl⟩
end Go.Proofs.Ytajadfoannmaiaa.Hash
