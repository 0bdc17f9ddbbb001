/- conn's laws: what is said of a connection as lists: no function of the program is walked. -/
import Derived.Test.YtnhnmpgjbopihaaConnLaw0
namespace Go.Proofs.Ytnhnmpgjbopihaa.Conn
open Go Go.RowKit Go.YtnhnmpgjbopihaaMem Go.YtnhnmpgjbopihaaLex Go.Proofs.Ytnhnmpgjbopihaa.Frame Go.Proofs.Ytnhnmpgjbopihaa.Out
set_option linter.unusedVariables false
set_option linter.unusedSimpArgs false

def CS.start : CS := ⟨[], 0, [], []⟩
theorem crun_ind {rules : Int} {N : Nat} (P : Nat → CS → Prop) (hs : ∀ k s c s', P k s → cstep rules N s c = some s' → P (k + 1) s') : ∀ (bs : List UInt8) (k : Nat) (s : CS), P k s → P (k + (crun rules N s bs).1) (crun rules N s bs).2
  | [], k, s, h => h
  | c :: cs, k, s, h => by
    unfold crun
    cases hc : cstep rules N s c with
    | none => exact h
    | some s' =>
      have := crun_ind P hs cs (k + 1) s' (hs k s c s' h hc)
      simp only
      rw [show k + ((crun rules N s' cs).1 + 1) = k + 1 + (crun rules N s' cs).1 by omega]
      exact this
theorem crun_le {rules : Int} {N : Nat} : ∀ (bs : List UInt8) (s : CS), (crun rules N s bs).1 ≤ bs.length
  | [], s => Nat.le_refl _
  | c :: cs, s => by
    unfold crun
    cases hc : cstep rules N s c with
    | none => exact Nat.zero_le _
    | some s' => have := crun_le (rules := rules) (N := N) cs s'; simp only [List.length_cons]; omega
/-- Where not all bytes come, the next one is refused. -/
theorem crun_stop {rules : Int} {N : Nat} : ∀ (bs : List UInt8) (s : CS), (crun rules N s bs).1 < bs.length → ∃ c, bs[(crun rules N s bs).1]? = some c ∧ cstep rules N (crun rules N s bs).2 c = none
  | [], s, h => by simp at h
  | c :: cs, s, h => by
    unfold crun at h ⊢
    cases hc : cstep rules N s c with
    | none => exact ⟨c, rfl, hc⟩
    | some s' =>
      rw [hc] at h
      simp only [List.length_cons] at h
      obtain ⟨d, h1, h2⟩ := crun_stop (rules := rules) (N := N) cs s' (by omega)
      exact ⟨d, by simpa using h1, h2⟩
theorem crun_err {rules : Int} {N : Nat} {s : CS} (h : s.err ≠ 0) : ∀ (bs : List UInt8), crun rules N s bs = (0, s)
  | [] => rfl
  | c :: cs => by unfold crun; simp only [cstep, if_pos h]
/-- The cases of a step. -/
theorem cstep_cases {rules : Int} {N : Nat} {s s' : CS} {c : UInt8} (h : cstep rules N s c = some s') :
    s.err = 0 ∧ ((∃ e, e ≠ 0 ∧ (tried s.pend rules 0 c).2.2 = e ∧ s.out.length + 6 ≤ N ∧ s' = ⟨[], e, s.out ++ faultB e, s.reqs⟩) ∨
      (∃ q, tried s.pend rules 0 c = (q, true, 0) ∧ s.out.length + (q.cost % 30 + 1) ≤ N ∧ s' = ⟨[], 0, s.out ++ ansOf q, s.reqs ++ [q]⟩) ∨
      ((tried s.pend rules 0 c).2.1 = false ∧ (tried s.pend rules 0 c).2.2 = 0 ∧ s' = ⟨s.pend ++ [c], 0, s.out, s.reqs⟩)) := by
  unfold cstep at h
  split at h
  · cases h
  · rename_i he
    refine ⟨by simpa using he, ?_⟩
    split at h
    · rename_i h1
      split at h
      · cases h
      · rename_i h2
        injection h with h
        exact .inl ⟨_, h1, rfl, by omega, h.symm⟩
    · rename_i h1
      split at h
      · rename_i h3
        split at h
        · cases h
        · rename_i h2
          injection h with h
          refine .inr (.inl ⟨(tried s.pend rules 0 c).1, ?_, by omega, h.symm⟩)
          have h1' : (tried s.pend rules 0 c).2.2 = 0 := by simpa using h1
          exact Prod.ext rfl (Prod.ext h3 h1')
      · rename_i h3
        injection h with h
        exact .inr (.inr ⟨by simpa using h3, by simpa using h1, h.symm⟩)
/-- A step that is refused, where no fault was: there is no room. -/
theorem cstep_none {rules : Int} {N : Nat} {s : CS} {c : UInt8} (h : cstep rules N s c = none) (he : s.err = 0) : N < s.out.length + 30 := by
  unfold cstep at h
  rw [if_neg (by simpa using he)] at h
  split at h
  · split at h
    · omega
    · cases h
  · split at h
    · split at h
      · have := Nat.mod_lt (tried s.pend rules 0 c).1.cost (show 0 < 30 by decide)
        omega
      · cases h
    · cases h
/-- A whole request has six bytes or more. -/
theorem whole_six {pend : List UInt8} {rules : Int} {c : UInt8} {q : Req} (h : tried pend rules 0 c = (q, true, 0)) : 6 ≤ pend.length + 1 := by
  unfold tried at h
  rw [if_neg (by simp)] at h
  injection h with h1 h2
  injection h2 with h2 h3
  have hl : (pend ++ [c]).length = pend.length + 1 := by simp
  have h2 : 0 < (parse (pend ++ [c]) rules).2.1 := by simpa using h2
  by_cases hp : pfx (pend ++ [c]) rules = 0
  · by_cases hs : (pend ++ [c]).length < 4 + nb (pend ++ [c]) 3 ∨ (pend ++ [c]).length < 4
    · rw [parse_short hp hs] at h2; simp at h2
    · obtain ⟨f1, _⟩ := parse_facts hp (by omega) (by omega)
      omega
  · rw [parse_fault hp] at h2; simp at h2
/-- How much waits, by the bytes that came; one fault, behind all else. -/
def Grows (k : Nat) (s : CS) : Prop := (s.err = 0 → 6 * s.out.length + 29 * s.pend.length ≤ 29 * k) ∧ (s.err ≠ 0 → 1 ≤ k ∧ ∃ X, s.out = X ++ faultB s.err)
theorem grows_step {rules : Int} {N k : Nat} {s s' : CS} {c : UInt8} (h : Grows k s) (hs : cstep rules N s c = some s') : Grows (k + 1) s' := by
  obtain ⟨he, hc⟩ := cstep_cases hs
  have h0 := h.1 he
  rcases hc with ⟨e, hn, _, _, rfl⟩ | ⟨q, ht, _, rfl⟩ | ⟨_, _, rfl⟩
  · exact ⟨fun h => absurd h hn, fun _ => ⟨by omega, s.out, rfl⟩⟩
  · refine ⟨fun _ => ?_, fun h => absurd rfl h⟩
    have h6 := whole_six ht
    have hm := Nat.mod_lt q.cost (show 0 < 30 by decide)
    simp only [List.length_append, ansOf_length, List.length_nil]
    omega
  · refine ⟨fun _ => ?_, fun h => absurd rfl h⟩
    simp only [List.length_append, List.length_singleton]
    omega
theorem grows_run {rules : Int} {N : Nat} (bs : List UInt8) : Grows (crun rules N .start bs).1 (crun rules N .start bs).2 := by
  have := crun_ind (rules := rules) (N := N) Grows (fun k s c s' h hs => grows_step h hs) bs 0 .start ⟨fun _ => by simp [CS.start], fun h => absurd rfl h⟩
  rwa [Nat.zero_add] at this
theorem reqs_run {rules : Int} {N : Nat} (bs : List UInt8) (s : CS) : (crun rules N s bs).2.reqs.length ≤ s.reqs.length + (crun rules N s bs).1 := by
  have := crun_ind (rules := rules) (N := N) (fun k t => t.reqs.length ≤ s.reqs.length + k) (fun k t c t' h hs => by
    obtain ⟨_, hc⟩ := cstep_cases hs
    rcases hc with ⟨e, _, _, _, rfl⟩ | ⟨q, _, _, rfl⟩ | ⟨_, _, rfl⟩
    · show t.reqs.length ≤ _; omega
    · show (t.reqs ++ [q]).length ≤ _
      rw [List.length_append, List.length_singleton]; omega
    · show t.reqs.length ≤ _; omega) bs 0 s (Nat.le_refl _)
  rwa [Nat.zero_add] at this
end Go.Proofs.Ytnhnmpgjbopihaa.Conn
