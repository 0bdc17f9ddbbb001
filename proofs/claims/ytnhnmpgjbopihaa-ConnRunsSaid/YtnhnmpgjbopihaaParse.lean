/- frame: the bytes that begin with a request: the fault of a byte, of the bytes ahead. -/
import Derived.Test.YtnhnmpgjbopihaaFrameA
namespace Go.Proofs.Ytnhnmpgjbopihaa.Frame
open Go Go.RowKit Go.YtnhnmpgjbopihaaMem Go.YtnhnmpgjbopihaaLex
set_option linter.unusedVariables false
set_option linter.unusedSimpArgs false

def fitsB (op n : Nat) : Bool := if op = 1 ∨ op = 2 then decide (7 ≤ n) else if op = 3 then decide (n = 2) else if op = 4 then decide (n = 3) else false
/-- The byte of that number, 0 behind the last. -/
def nb (bs : List UInt8) (i : Nat) : Nat := (bs.getD i 0).toNat
theorem nb_lt (bs : List UInt8) (i : Nat) : nb bs i < 256 := by unfold nb; have := (bs.getD i 0).toNat_lt; omega
theorem nb_get {bs : List UInt8} {i : Nat} (h : i < bs.length) : (vb bs)[i]? = some (.int .u8 (nb bs i)) := by
  unfold nb; rw [List.getD_eq_getElem?_getD, List.getElem?_eq_getElem h]; exact vb_get (List.getElem?_eq_getElem h)
/-- The fault of the i-th byte. -/
def faultAt (bs : List UInt8) (rules : Int) (i : Nat) : Nat :=
  if i = 0 ∧ nb bs i ≠ 167 then 5 else if i = 1 ∧ nb bs i ≠ 1 then 6 else if i = 2 ∧ nb bs i ≠ 0 then 7
  else if i = 3 ∧ nb bs i ≠ 2 ∧ nb bs i ≠ 3 ∧ (nb bs i < 7 ∨ 71 < nb bs i) then 7
  else if i = 4 ∧ fitsB (nb bs i) (nb bs 3) = false then 8 else if i = 5 ∧ rules ≤ nb bs i then 9
  else if i = 10 ∧ (nb bs i : Int) ≠ nb bs 3 - 7 then 10 else 0

theorem ret_int {b : Int} {n : Nat} (h : b = n) : Ending.returned (.int .i64 b) = Ending.returned (.int .i64 n) := by rw [h]
theorem ret_bool {b c : Bool} (h : b = c) : Ending.returned (.bool b) = Ending.returned (.bool c) := by rw [h]

set_option maxRecDepth 4000 in
theorem fits_any (w : World) (op n : Nat) : Calls Try.prog 40 #[.int .u8 op, .int .u8 n] w fun e w' => e = .returned (.bool (fitsB op n)) ∧ w = w' := by
  go_enter Try.func40, Try.ntmps40
  go_wp2
  all_goals go_ret
  all_goals refine ⟨ret_bool ?_, rfl⟩
  all_goals (try simp only [beq_iff_eq, beq_eq_false_iff_ne, ne_eq] at *)
  all_goals unfold fitsB
  all_goals repeat' split
  all_goals (first | omega | rfl | (rw [Bool.eq_iff_iff]; simp only [decide_eq_true_eq, beq_iff_eq]; omega))

set_option maxRecDepth 4000 in
set_option maxHeartbeats 1600000 in
theorem fault_any {w : World} {b off c : Nat} {bs : List UInt8} (hcell : ∀ i u, (vb bs)[i]? = some u → w.cell? ⟨b, off + i, none⟩ = some u) (i : Nat) (hi : i < bs.length) (rules : Int) :
    Calls Try.prog 39 #[.slice (some ⟨b, off, none⟩) bs.length c, .int .i64 i, .int .u8 (nb bs i), .int .i64 rules] w fun e w' => e = .returned (.int .i64 (faultAt bs rules i)) ∧ w = w' := by
  by_cases h4 : i = 4
  · subst h4
    have c3 : w.cell? ⟨b, off + 3, none⟩ = some (.int .u8 (nb bs 3)) := hcell 3 _ (nb_get (by omega))
    have hn := nb_lt bs 3
    clear hcell
    go_enter Try.func39, Try.ntmps39
    go_wp2_with fail
    refine (fits_any _ _ _).mono ?_
    rintro e w' ⟨rfl, rfl⟩
    cases hf : fitsB (nb bs 4) (nb bs 3)
    · go_wp2
      go_ret
      refine ⟨ret_int ?_, rfl⟩
      simp [faultAt, hf]
    · go_wp2
      go_ret
      refine ⟨ret_int ?_, rfl⟩
      simp [faultAt, hf]
  · by_cases h10 : i = 10
    · subst h10
      have c3 : w.cell? ⟨b, off + 3, none⟩ = some (.int .u8 (nb bs 3)) := hcell 3 _ (nb_get (by omega))
      have hn := nb_lt bs 3
      have hn' := nb_lt bs 10
      clear hcell
      go_enter Try.func39, Try.ntmps39
      go_wp2
      all_goals go_ret
      all_goals refine ⟨ret_int ?_, rfl⟩
      all_goals (try simp only [bne_iff_ne, beq_iff_eq, bne_eq_false_iff_eq, ne_eq, beq_eq_false_iff_ne] at *)
      all_goals unfold faultAt
      all_goals repeat' split
      all_goals omega
    · have b4 : ((i : Int) == 4) = false := by simp; omega
      have b10 : ((i : Int) == 10) = false := by simp; omega
      have hn := nb_lt bs i
      clear hcell
      go_enter Try.func39, Try.ntmps39
      go_wp2
      all_goals go_ret
      all_goals refine ⟨ret_int ?_, rfl⟩
      all_goals (try simp only [bne_iff_ne, beq_iff_eq, bne_eq_false_iff_eq, ne_eq, beq_eq_false_iff_ne] at *)
      all_goals unfold faultAt
      all_goals repeat' split
      all_goals (first | omega | (obtain rfl : i = 0 := (by assumption); omega))

end Go.Proofs.Ytnhnmpgjbopihaa.Frame
