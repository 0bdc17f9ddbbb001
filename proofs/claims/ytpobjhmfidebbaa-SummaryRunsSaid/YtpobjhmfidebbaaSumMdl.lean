/- The law's own model of a summary: plain laws of its loops. -/
import Derived.Test.YtpobjhmfidebbaaSumMem
namespace Go.Proofs.Ytpobjhmfidebbaa.Sum
open Go Go.RowKit Go.YtpobjhmfidebbaaMem
set_option linter.unusedVariables false
set_option linter.unusedSimpArgs false

theorem riseTo_eq {F : List Ent} {v : Int} {k a : Nat} (ha : a ≤ k) (h1 : ∀ j, a ≤ j → j < k → nAt F j < v) (h2 : a = 0 ∨ ∃ b, a = b + 1 ∧ ¬ nAt F b < v) : riseTo F v k = a := by
  have hle := riseTo_le F v k
  have hge := riseTo_ge F v k
  have hlt := riseTo_lt F v k
  rcases Nat.lt_trichotomy (riseTo F v k) a with h | h | h
  · rcases h2 with h0 | ⟨b, hb, hn⟩
    · omega
    · exact absurd (hlt b (by omega) (by omega)) hn
  · exact h
  · rcases hge with h0 | ⟨b, hb, hn⟩
    · omega
    · exact absurd (h1 b (by omega) (by omega)) hn
/-- One that stands ahead is passed. -/
theorem move_swap {k a : Nat} {F : List Ent} (hk : k < F.length) (ha : a + 1 ≤ k) : ((move k (a + 1) F).set a (F.getD k default)).set (a + 1) (F.getD a default) = move k a F := by
  apply List.ext_getElem?
  intro j
  have hl := move_length hk ha
  have hg : ∀ i, i < F.length → F[i]? = some (F.getD i default) := fun i hi => by rw [List.getD_eq_getElem?_getD, List.getElem?_eq_getElem hi]; rfl
  rw [List.getElem?_set, List.getElem?_set, List.length_set, hl, move_get hk ha, move_get hk (by omega)]
  by_cases h1 : a + 1 = j
  · rw [if_pos h1, if_pos (by omega), if_neg (by omega), if_neg (by omega), if_pos (by omega), ← h1, Nat.add_sub_cancel]
    exact (hg a (by omega)).symm
  · rw [if_neg h1]
    by_cases h2 : a = j
    · rw [if_pos h2, if_pos (by omega), if_neg (by omega), if_pos h2.symm]
      exact (hg k hk).symm
    · rw [if_neg h2]
      by_cases h3 : j < a
      · rw [if_pos (by omega), if_pos h3]
      · rw [if_neg (show ¬ j < a + 1 by omega), if_neg (show ¬ j = a + 1 by omega), if_neg (show ¬ j < a by omega), if_neg (show ¬ j = a by omega)]
theorem move_now {k a : Nat} {F : List Ent} (hk : k < F.length) (ha : a ≤ k) : (move k a F)[a]? = some (F.getD k default) := by
  rw [move_get hk ha, if_neg (by omega), if_pos rfl, List.getD_eq_getElem?_getD, List.getElem?_eq_getElem hk]; rfl
theorem move_before {k a : Nat} {F : List Ent} (hk : k < F.length) (ha : a + 1 ≤ k) : (move k (a + 1) F)[a]? = some (F.getD a default) := by
  rw [move_get hk ha, if_pos (by omega), List.getD_eq_getElem?_getD, List.getElem?_eq_getElem (by omega)]; rfl
/-- Where the last one that has the key stands, among the first ones. -/
def lastAt (E : List Ent) (key : List UInt8) (i : Nat) : Int := match findE E key with | some k => if k < i then (k : Int) else -1 | none => -1
theorem lastAt_zero (E : List Ent) (key : List UInt8) : lastAt E key 0 = -1 := by unfold lastAt; split <;> simp
theorem lastAt_hit {E : List Ent} (hnd : (E.map (·.key)).Nodup) {key : List UInt8} {i : Nat} {e : Ent} (he : E[i]? = some e) (hk : e.key = key) : findE E key = some i ∧ lastAt E key (i + 1) = i := by
  have : findE E key = some i := by
    cases hf : findE E key with
    | none => exact absurd hk (findE_no hf e (List.mem_of_getElem? he))
    | some k =>
      obtain ⟨o, ho, hko⟩ := findE_get hf
      have h1 : (E.map (·.key))[i]? = some e.key := by rw [List.getElem?_map, he]; rfl
      have h2 : (E.map (·.key))[k]? = some o.key := by rw [List.getElem?_map, ho]; rfl
      have : k = i := (List.getElem?_inj (List.getElem?_eq_some_iff.1 h2).1 hnd).1 (by rw [h1, h2, hk, hko])
      rw [this]
  refine ⟨this, ?_⟩
  unfold lastAt; rw [this]; simp
theorem lastAt_miss {E : List Ent} {key : List UInt8} {i : Nat} {e : Ent} (he : E[i]? = some e) (hk : e.key ≠ key) : lastAt E key (i + 1) = lastAt E key i := by
  unfold lastAt
  cases hf : findE E key with
  | none => rfl
  | some k =>
    simp only
    obtain ⟨o, ho, hko⟩ := findE_get hf
    have : k ≠ i := fun e' => by subst e'; rw [ho] at he; simp at he; subst he; exact hk hko
    by_cases h : k < i
    · rw [if_pos h, if_pos (by omega)]
    · rw [if_neg h, if_neg (by omega)]
theorem lastAt_all {E : List Ent} {key : List UInt8} : lastAt E key E.length = match findE E key with | some k => (k : Int) | none => -1 := by
  unfold lastAt
  cases hf : findE E key with
  | none => rfl
  | some k =>
    obtain ⟨o, ho, hko⟩ := findE_get hf
    simp only
    rw [if_pos (List.getElem?_eq_some_iff.1 ho).1]
end Go.Proofs.Ytpobjhmfidebbaa.Sum
