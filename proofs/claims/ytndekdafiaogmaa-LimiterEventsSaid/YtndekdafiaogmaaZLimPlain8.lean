/- limiter's laws: plain facts: which keys get and lose cells. -/
import Derived.Test.YtndekdafiaogmaaZLimD
section
namespace Go.Proofs.Ytndekdafiaogmaa.Lim
open Go Go.RowKit Go.YtndekdafiaogmaaMem Go.YtndekdafiaogmaaLex Go.Proofs.Ytndekdafiaogmaa.Hash Go.Proofs.Ytndekdafiaogmaa.Arith Go.Proofs.Ytndekdafiaogmaa.Index Go.Proofs.Ytndekdafiaogmaa.Cell Go.Proofs.Ytndekdafiaogmaa.Slot
open Go.Proofs.Ytndekdafiaogmaa.Pool (PS putP remP pairs PB PoolAt firstIdle)
open Go.Proofs.Ytndekdafiaogmaa.Ring (Rs RiB RingAt estS addR waitS waitK massS massTo fromTo fromS eldestS slotNo leastV countV Small ring0)
open Go.Proofs.Ytndekdafiaogmaa.Sum (Ent OkE SB SumAt countE leastOf)
set_option linter.unusedVariables false
set_option linter.unusedSimpArgs false

/-- Has a key a place? -/
def In (S : List (Option (List UInt8))) (k : List UInt8) : Prop := ∃ p : Nat, S[p]? = some (some k)
theorem in_place {S : List (Option (List UInt8))} {k : List UInt8} : In S k ↔ ∃ i, placeOf S k = some i := by
  constructor
  · rintro ⟨p, hp⟩
    cases h : placeOf S k with
    | some i => exact ⟨i, rfl⟩
    | none => exact absurd hp (placeOf_no h p)
  · rintro ⟨i, hi⟩
    exact ⟨i, placeOf_get hi⟩
theorem in_none {S : List (Option (List UInt8))} {k : List UInt8} : ¬ In S k ↔ placeOf S k = none := by
  rw [in_place]
  cases h : placeOf S k with
  | some i => simp
  | none => simp
theorem in_set {S : List (Option (List UInt8))} {j : Nat} (hj : j < S.length) (v : Option (List UInt8)) (k : List UInt8) : In (S.set j v) k ↔ v = some k ∨ ∃ p, p ≠ j ∧ S[p]? = some (some k) := by
  unfold In
  constructor
  · rintro ⟨p, hp⟩
    rw [List.getElem?_set] at hp
    by_cases h : j = p
    · subst h
      simp [hj] at hp
      exact .inl hp
    · rw [if_neg h] at hp
      exact .inr ⟨p, fun hh => h hh.symm, hp⟩
  · rintro (rfl | ⟨p, h1, h2⟩)
    · exact ⟨j, by rw [List.getElem?_set]; simp [hj]⟩
    · exact ⟨p, by rw [List.getElem?_set, if_neg (fun hh => h1 hh.symm)]; exact h2⟩
theorem in_pairs {S : List (Option (List UInt8))} {C : List Cell} {x : List UInt8 × Cell} (hx : x ∈ pairs S C) : In S x.1 := by
  unfold pairs at hx
  rw [List.mem_filterMap] at hx
  obtain ⟨⟨o, q⟩, hm, he⟩ := hx
  unfold Pool.pair1 at he
  cases o with
  | none => simp at he
  | some k =>
    simp at he
    subst he
    obtain ⟨p, hp⟩ := List.getElem?_of_mem hm
    rw [List.getElem?_zip_eq_some] at hp
    exact ⟨p, hp.1⟩
theorem cold_from {c : Cf} {E : List Ent} : ∀ (l : List (List UInt8 × Cell)) (b : List UInt8 × Int × Bool), l.foldl (cold1 c E) b = b ∨ ∃ x ∈ l, (l.foldl (cold1 c E) b).1 = x.1
  | [], b => .inl rfl
  | x :: l, b => by
    rw [List.foldl_cons]
    rcases cold_from l (cold1 c E b x) with h | ⟨y, hy, e⟩
    · rw [h]
      unfold cold1
      split
      · exact .inr ⟨x, by simp, rfl⟩
      · exact .inl rfl
    · exact .inr ⟨y, by simp [hy], e⟩
/-- Who loses a cell has one. -/
theorem victim_in {c : Cf} {s : Lm} {now : Int} {key out : List UInt8} (h : victim c s now key = some out) : In s.pool.S out := by
  unfold victim at h
  cases hi : idleK c.r now (pairs s.pool.S s.pool.C) with
  | some k =>
    rw [hi] at h
    simp only [Option.some.injEq] at h
    subst h
    unfold idleK at hi
    rw [Option.map_eq_some_iff] at hi
    obtain ⟨x, hx, rfl⟩ := hi
    exact in_pairs (List.mem_of_find?_eq_some hx)
  | none =>
    rw [hi] at h
    unfold coldS at h
    simp only at h
    split at h
    · rcases cold_from (c := c) (E := s.E) (pairs s.pool.S s.pool.C) ([], (countE s.E key).1 - (countE s.E key).2.1, false) with e | ⟨x, hx, e⟩
      · rw [e] at h; simp at h
      · split at h
        · simp only [Option.some.injEq] at h
          rw [← h, e]; exact in_pairs hx
        · cases h
    · cases h
/-- What events tell of keys' places. -/
inductive Told (S S' : List (Option (List UInt8))) (key : List UInt8) (now : Int) : List Ev → Prop
  | none (h : S' = S) : Told S S' key now []
  | up (h1 : ¬ In S key) (h2 : ∀ k, In S' k ↔ In S k ∨ k = key) (h3 : Keys.used S' = Keys.used S + 1) : Told S S' key now [⟨key, true, now⟩]
  | turn (out : List UInt8) (h0 : In S out) (h1 : ¬ In S key) (h2 : ∀ k, In S' k ↔ (In S k ∧ k ≠ out) ∨ k = key) (h3 : Keys.used S' = Keys.used S) : Told S S' key now [⟨out, false, now⟩, ⟨key, true, now⟩]
theorem check_told {c : Cf} {s : Lm} {now held cost : Int} {key : List UInt8} (hp : PoolOk s.pool) (hk : key.length ≤ 64) : Told s.pool.S (check c s now held key cost).2.2.pool.S key now (check c s now held key cost).2.1 := by
  cases hf : refuse c.r now held cost with
  | some a =>
    have e : check c s now held key cost = (a, [], s.count a.verdict) := by unfold check; rw [hf]
    rw [e]
    refine .none ?_
    rw [(count_facts _ _).1]
  | none =>
    have e : check c s now held key cost = ((answer c (settle c ((s.to now).offered c key cost) now key).1 (settle c ((s.to now).offered c key cost) now key).2.2 now key cost).1, (settle c ((s.to now).offered c key cost) now key).2.1, (answer c (settle c ((s.to now).offered c key cost) now key).1 (settle c ((s.to now).offered c key cost) now key).2.2 now key cost).2.count (answer c (settle c ((s.to now).offered c key cost) now key).1 (settle c ((s.to now).offered c key cost) now key).2.2 now key cost).1.verdict) := by unfold check; rw [hf]
    rw [e]
    simp only
    rw [(count_facts _ _).1, (answer_keeps c _ _ now key cost).2.2.2.1]
    have hp' : PoolOk ((s.to now).offered c key cost).pool := hp
    have hS : ((s.to now).offered c key cost).pool.S = s.pool.S := rfl
    generalize (s.to now).offered c key cost = s1 at *
    rw [← hS]
    clear e hS hp
    cases hpo : placeOf s1.pool.S key with
    | some i => rw [settle_has hpo]; exact .none rfl
    | none =>
      have hnin := in_none.2 hpo
      cases hfl : s1.pool.fl with
      | cons j fl =>
        rw [settle_frees hpo hfl hk]
        have hj := hp'.free j (by rw [hfl]; simp)
        have hjl : j < s1.pool.S.length := (List.getElem?_eq_some_iff.1 hj).1
        refine .up hnin (fun k => ?_) (Keys.used_set_some _ _ _ hj)
        show In (s1.pool.S.set j (some key)) k ↔ _
        rw [in_set hjl]
        constructor
        · rintro (h | ⟨p, h1, h2⟩)
          · simp at h; exact .inr h.symm
          · exact .inl ⟨p, h2⟩
        · rintro (⟨p, h⟩ | h)
          · refine .inr ⟨p, fun hh => ?_, h⟩
            subst hh; rw [hj] at h; simp at h
          · exact .inl (by rw [h])
      | nil =>
        cases hv : victim c s1 now key with
        | none =>
          have : settle c s1 now key = (none, [], s1) := by unfold settle; rw [hpo, if_pos hfl, hv]
          rw [this]; exact .none rfl
        | some out =>
          have hin := victim_in hv
          obtain ⟨i, hi⟩ := in_place.1 hin
          have hgi := placeOf_get hi
          have hil : i < s1.pool.S.length := (List.getElem?_eq_some_iff.1 hgi).1
          have hrem : remP s1.pool out = (s1.pool.C.getD i .zero, true, ⟨s1.pool.S.set i none, i :: s1.pool.fl, s1.pool.C⟩) := by unfold remP; rw [hi]
          have hno : placeOf (s1.pool.S.set i none) key = none := in_none.1 (by
            rw [in_set hil]
            rintro (h | ⟨p, h1, h2⟩)
            · cases h
            · exact hnin ⟨p, h2⟩)
          have hset : settle c s1 now key = ((settleNew c (evict c s1 now out) now key).1, [⟨out, false, now⟩, ⟨key, true, now⟩], (settleNew c (evict c s1 now out) now key).2) := by
            unfold settle; rw [hpo, if_pos hfl, hv]
          rw [hset]
          have hS2 : (settleNew c (evict c s1 now out) now key).2.pool.S = s1.pool.S.set i (some key) := by
            unfold settleNew evict putP
            rw [hrem]
            simp only
            rw [hno]
            simp only
            rw [if_pos hk]
            simp only
            rw [List.set_set]
          simp only
          rw [hS2]
          refine .turn out hin hnin (fun k => ?_) ?_
          · rw [in_set hil]
            constructor
            · rintro (h | ⟨p, h1, h2⟩)
              · simp at h; exact .inr h.symm
              · refine .inl ⟨⟨p, h2⟩, fun hh => ?_⟩
                subst hh
                exact h1 (hp'.uniq p i k h2 hgi)
            · rintro (⟨⟨p, h⟩, hne⟩ | h)
              · refine .inr ⟨p, fun hh => ?_, h⟩
                subst hh; rw [hgi] at h; simp at h; exact hne h.symm
              · exact .inl (by rw [h])
          · have h1 := Keys.used_set_none s1.pool.S i out hgi
            have h2 := Keys.used_set_some (s1.pool.S.set i none) i key (by rw [List.getElem?_set]; simp [hil])
            rw [List.set_set] at h2
            omega
end Go.Proofs.Ytndekdafiaogmaa.Lim
end
