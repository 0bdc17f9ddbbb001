/- summary's laws: SummaryEpochs. -/
import Derived.Test.YtpobjhmfidebbaaSumNil
import Derived.Test.YtpobjhmfidebbaaSumLaw1
namespace Go.Proofs.Ytpobjhmfidebbaa.Sum
open Go Go.RowKit Go.YtpobjhmfidebbaaMem Go.YtpobjhmfidebbaaLex Go.YtpobjhmfidebbaaRange Go.Proofs.Ytpobjhmfidebbaa.Hash Go.Proofs.Ytpobjhmfidebbaa.Keys Go.Proofs.Ytpobjhmfidebbaa.Index
set_option linter.unusedVariables false
set_option linter.unusedSimpArgs false

def xK : List UInt8 := [120]
def yK : List UInt8 := [121]
/-- The two offers. -/
def two (A B : Int) : List Ent × Int := offer 2 (offer 2 ([], 0) xK A) yK B
theorem first (A : Int) (h : 0 ≤ A ∧ A < 4611686018427387904) : offer 2 ([], 0) xK A = if 0 < A then ([⟨xK, A, 0⟩], A) else ([], 0) := by
  unfold offer
  by_cases hA : 0 < A
  · rw [if_neg (by simp [xK]; omega), if_neg (by simp only; omega), if_pos hA]
    simp [offerE, findE, shed, leastOf, bumpAt, more, move, riseTo, xK]
  · rw [if_pos (by omega), if_neg hA]
theorem lone (B : Int) (h : 0 < B ∧ B < 4611686018427387904) : offerE 2 [] yK B = [⟨yK, B, 0⟩] := by simp [offerE, findE, shed, leastOf, bumpAt, more, move, riseTo, yK]
theorem both (A B : Int) : offerE 2 [⟨xK, A, 0⟩] yK B = if A < B then [⟨yK, B, 0⟩, ⟨xK, A, 0⟩] else [⟨xK, A, 0⟩, ⟨yK, B, 0⟩] := by
  by_cases h : A < B <;> simp [offerE, findE, shed, leastOf, bumpAt, more, move, riseTo, xK, yK, h]
theorem two_eq (A B : Int) (hA : 0 ≤ A ∧ A < 4611686018427387904) (hB : 0 ≤ B ∧ B < 4611686018427387904) :
    two A B = if B < 1 then (if 0 < A then ([⟨xK, A, 0⟩], A) else ([], 0)) else if 0 < A then (if 4611686018427387904 - B ≤ A then ([⟨yK, B, 0⟩], B) else (if A < B then [⟨yK, B, 0⟩, ⟨xK, A, 0⟩] else [⟨xK, A, 0⟩, ⟨yK, B, 0⟩], A + B)) else ([⟨yK, B, 0⟩], B) := by
  unfold two
  rw [first A hA]
  by_cases hb : B < 1
  · rw [if_pos hb]
    unfold offer
    rw [if_pos (.inl hb)]
  · rw [if_neg hb]
    unfold offer
    rw [if_neg (by simp [yK]; omega)]
    by_cases ha : 0 < A
    · rw [if_pos ha, if_pos ha]
      simp only
      by_cases hc : 4611686018427387904 - B ≤ A
      · rw [if_pos hc, if_pos hc, lone B (by omega)]
      · rw [if_neg hc, if_neg hc, both]
    · rw [if_neg ha, if_neg ha]
      simp only
      rw [if_neg (by omega), lone B (by omega), Int.zero_add]
end Go.Proofs.Ytpobjhmfidebbaa.Sum
