/- conn's laws: ConnCuts: however a stream is cut, if all that waits is drained between, the same answers go out. No condition. -/
import Derived.Test.YtnhnmpgjbopihaaConnLaw3
namespace Go.Proofs.Ytnhnmpgjbopihaa.Conn
open Go Go.RowKit Go.YtnhnmpgjbopihaaMem Go.YtnhnmpgjbopihaaLex Go.Proofs.Ytnhnmpgjbopihaa.Frame Go.Proofs.Ytnhnmpgjbopihaa.Out
set_option linter.unusedVariables false
set_option linter.unusedSimpArgs false

/-- With what went out already ahead of what waits. -/
def CS.sh (o : List UInt8) (s : CS) : CS := ⟨s.pend, s.err, o ++ s.out, s.reqs⟩
theorem cstep_sh {rules : Int} {s s' : CS} {c : UInt8} (h : cstep rules 64 s c = some s') (o : List UInt8) (hb : o.length + s.out.length + 36 ≤ 100000) :
    cstep rules 100000 (s.sh o) c = some (s'.sh o) ∧ s'.out.length ≤ s.out.length + 36 := by
  unfold cstep at h ⊢
  have hm := Nat.mod_lt (tried s.pend rules 0 c).1.cost (show 0 < 30 by decide)
  have hl : (s.sh o).out.length = o.length + s.out.length := by simp [CS.sh]
  split at h
  · cases h
  · rename_i he
    rw [if_neg (show ¬ (s.sh o).err ≠ 0 from he)]
    split at h
    · rename_i h1
      split at h
      · cases h
      · injection h with h
        subst h
        rw [if_pos (show (tried (s.sh o).pend rules 0 c).2.2 ≠ 0 from h1), if_neg (by omega)]
        refine ⟨?_, by show (s.out ++ faultB _).length ≤ _; rw [List.length_append, faultB_length]; omega⟩
        simp [CS.sh]
    · rename_i h1
      rw [if_neg (show ¬ (tried (s.sh o).pend rules 0 c).2.2 ≠ 0 from h1)]
      split at h
      · rename_i h2
        rw [if_pos (show (tried (s.sh o).pend rules 0 c).2.1 = true from h2)]
        split at h
        · cases h
        · injection h with h
          subst h
          rw [if_neg (show ¬ 100000 < (s.sh o).out.length + ((tried (s.sh o).pend rules 0 c).1.cost % 30 + 1) by rw [hl]; show ¬ _ < _ + ((tried s.pend rules 0 c).1.cost % 30 + 1); omega)]
          refine ⟨?_, by show (s.out ++ ansOf _).length ≤ _; rw [List.length_append, ansOf_length]; omega⟩
          simp [CS.sh]
      · rename_i h2
        rw [if_neg (show ¬ (tried (s.sh o).pend rules 0 c).2.1 = true from h2)]
        injection h with h
        subst h
        exact ⟨by simp [CS.sh], Nat.le_add_right _ _⟩
theorem crun_sh {rules : Int} (o Y : List UInt8) : ∀ (X : List UInt8) (s : CS), o.length + s.out.length + 36 * X.length ≤ 100000 →
    crun rules 100000 (s.sh o) (X ++ Y) = ((crun rules 64 s X).1 + (crun rules 100000 ((crun rules 64 s X).2.sh o) (X.drop (crun rules 64 s X).1 ++ Y)).1, (crun rules 100000 ((crun rules 64 s X).2.sh o) (X.drop (crun rules 64 s X).1 ++ Y)).2) ∧
      (crun rules 64 s X).2.out.length ≤ s.out.length + 36 * (crun rules 64 s X).1
  | [], s, h => by simp [crun]
  | c :: cs, s, h => by
    rw [List.length_cons] at h
    cases hc : cstep rules 64 s c with
    | none =>
      have e : crun rules 64 s (c :: cs) = (0, s) := by unfold crun; rw [hc]
      rw [e]; simp
    | some s' =>
      obtain ⟨h1, h2⟩ := cstep_sh hc o (by omega)
      obtain ⟨i1, i2⟩ := crun_sh (rules := rules) o Y cs s' (by omega)
      have e : crun rules 64 s (c :: cs) = ((crun rules 64 s' cs).1 + 1, (crun rules 64 s' cs).2) := by
        show (match cstep rules 64 s c with | none => (0, s) | some s' => ((crun rules 64 s' cs).1 + 1, (crun rules 64 s' cs).2)) = _
        rw [hc]
      have e2 : crun rules 100000 (s.sh o) (c :: cs ++ Y) = ((crun rules 100000 (s'.sh o) (cs ++ Y)).1 + 1, (crun rules 100000 (s'.sh o) (cs ++ Y)).2) := by
        show (match cstep rules 100000 (s.sh o) c with | none => (0, s.sh o) | some s' => ((crun rules 100000 s' (cs ++ Y)).1 + 1, (crun rules 100000 s' (cs ++ Y)).2)) = _
        rw [h1]
      rw [e, e2, i1]
      simp only [List.drop_succ_cons]
      exact ⟨by rw [Nat.add_right_comm], by omega⟩
/-- All that a stream gives. -/
def allOut (rules : Int) (b : List UInt8) : List UInt8 := (crun rules 100000 .start b).2.out
/-- Behind so many bytes, with o gone out and nothing waiting. -/
def At64 (rules : Int) (b : List UInt8) (at_ : Nat) (o : List UInt8) (s : CS) : Prop := (crun rules 100000 .start b).2 = (crun rules 100000 (s.sh o) (b.drop at_)).2 ∧ s.out = [] ∧ o.length ≤ 36 * at_ ∧ at_ ≤ b.length
theorem at64_start (rules : Int) (b : List UInt8) : At64 rules b 0 [] .start := ⟨rfl, rfl, Nat.zero_le _, Nat.zero_le _⟩
theorem at64_step {rules : Int} {b o : List UInt8} {at_ M : Nat} {s : CS} (h : At64 rules b at_ o s) (hb : b.length ≤ 1000) (h1 : at_ ≤ M) (h2 : M ≤ b.length) :
    At64 rules b (at_ + (crun rules 64 s ((b.drop at_).take (M - at_))).1) (o ++ (crun rules 64 s ((b.drop at_).take (M - at_))).2.out) ⟨(crun rules 64 s ((b.drop at_).take (M - at_))).2.pend, (crun rules 64 s ((b.drop at_).take (M - at_))).2.err, [], (crun rules 64 s ((b.drop at_).take (M - at_))).2.reqs⟩ := by
  obtain ⟨e, h0, ho, hat⟩ := h
  have hsp : b.drop at_ = (b.drop at_).take (M - at_) ++ b.drop M := by
    have : b.drop M = (b.drop at_).drop (M - at_) := by rw [List.drop_drop]; congr 1; omega
    rw [this, List.take_append_drop]
  have hlen : ((b.drop at_).take (M - at_)).length = M - at_ := by simp; omega
  generalize (b.drop at_).take (M - at_) = X at hsp hlen ⊢
  have hle := crun_le (rules := rules) (N := 64) X s
  obtain ⟨i1, i2⟩ := crun_sh (rules := rules) o (b.drop M) X s (by rw [h0, hlen]; simp; omega)
  rw [hsp, i1] at e
  rw [h0, List.length_nil] at i2
  refine ⟨?_, rfl, by rw [List.length_append]; omega, by omega⟩
  rw [e]
  have hd : X.drop (crun rules 64 s X).1 ++ b.drop M = b.drop (at_ + (crun rules 64 s X).1) := by
    rw [← List.drop_drop, hsp, List.drop_append_of_le_length (by omega)]
  rw [hd]
  simp [CS.sh]
theorem at64_end {rules : Int} {b o : List UInt8} {at_ : Nat} {s : CS} (h : At64 rules b at_ o s) (he : b.length ≤ at_ ∨ s.err ≠ 0) : o = allOut rules b := by
  obtain ⟨e, h0, ho, hat⟩ := h
  unfold allOut
  rw [e]
  rcases he with he | he
  · rw [List.drop_of_length_le he]
    simp [crun, CS.sh, h0]
  · rw [crun_err (show (s.sh o).err ≠ 0 from he)]
    simp [CS.sh, h0]
end Go.Proofs.Ytnhnmpgjbopihaa.Conn
