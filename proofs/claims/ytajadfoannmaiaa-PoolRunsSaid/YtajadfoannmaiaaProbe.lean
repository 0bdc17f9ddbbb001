/- linear probing: plain law. -/
import Derived.Test.YtajadfoannmaiaaKeys5
namespace Go.Proofs.Ytajadfoannmaiaa.Probe
set_option linter.unusedVariables false

theorem pigeon : ∀ (n : Nat) (l : List Nat), l.Nodup → (∀ x, x ∈ l → x < n) → l.length ≤ n
  | 0, l, _, h => by
    cases l with
    | nil => exact Nat.le_refl _
    | cons x l => exact absurd (h x (by simp)) (by omega)
  | n + 1, l, hn, h => by
    by_cases hm : n ∈ l
    · have h1 := pigeon n (l.erase n) (hn.erase n) (fun x hx => by
        have h2 := h x (List.mem_of_mem_erase hx)
        have h3 : x ≠ n := fun e => by subst e; exact (List.Nodup.not_mem_erase hn) hx
        omega)
      have h2 := List.length_erase_of_mem hm
      omega
    · have h1 := pigeon n l hn (fun x hx => by
        have h2 := h x hx
        have h3 : x ≠ n := fun e => by subst e; exact hm hx
        omega)
      omega
/-- A table of N cells over places' keys: a cell has 0 or a place and one. -/
structure Ix (hm : List UInt8 → Nat) (S : List (Option (List UInt8))) (T : List Nat) : Prop where
  len : T.length = 2 * S.length + 1
  ofT : ∀ (i p : Nat), T[i]? = some (p + 1) → ∃ k, S[p]? = some (some k)
  toT : ∀ (p : Nat) (k : List UInt8), S[p]? = some (some k) → ∃ d, d < T.length ∧ T[(hm k + d) % T.length]? = some (p + 1) ∧ ∀ e, e < d → T[(hm k + e) % T.length]? ≠ some 0
  one : ∀ (i j p : Nat), T[i]? = some (p + 1) → T[j]? = some (p + 1) → i = j
  uniq : ∀ (p q : Nat) (k : List UInt8), S[p]? = some (some k) → S[q]? = some (some k) → p = q
theorem Ix.zero {hm : List UInt8 → Nat} {S : List (Option (List UInt8))} {T : List Nat} (h : Ix hm S T) : ∃ i, i < T.length ∧ T[i]? = some 0 := by
  apply Classical.byContradiction
  intro hno
  have hpos : ∀ x, x ∈ T → ∃ p, x = p + 1 ∧ p < S.length := fun x hx => by
    obtain ⟨i, hi, rfl⟩ := List.getElem_of_mem hx
    cases e : T[i] with
    | zero => exact absurd ⟨i, hi, by rw [List.getElem?_eq_getElem hi, e]⟩ hno
    | succ p =>
      obtain ⟨k, hk⟩ := h.ofT i p (by rw [List.getElem?_eq_getElem hi, e])
      exact ⟨p, rfl, (List.getElem?_eq_some_iff.1 hk).1⟩
  have hnd : T.Nodup := by
    refine List.pairwise_iff_getElem.2 fun i j hi hj hij e => ?_
    obtain ⟨p, hp, _⟩ := hpos T[i] (List.getElem_mem hi)
    have h1 : T[i]? = some (p + 1) := by rw [List.getElem?_eq_getElem hi, hp]
    have := h.one i j p h1 (by rw [List.getElem?_eq_getElem hj, ← e, hp])
    omega
  have := pigeon (S.length + 1) (0 :: T) (List.nodup_cons.2 ⟨fun h0 => by obtain ⟨p, hp, _⟩ := hpos 0 h0; omega, hnd⟩) (fun x hx => by
    rcases List.mem_cons.1 hx with rfl | hx
    · omega
    · obtain ⟨p, rfl, hp⟩ := hpos x hx; omega)
  have := h.len
  simp at *
  omega
/-- From anywhere a free cell comes within one round. -/
theorem Ix.stop {hm : List UInt8 → Nat} {S : List (Option (List UInt8))} {T : List Nat} (h : Ix hm S T) {a : Nat} (ha : a < T.length) : ∃ d, d < T.length ∧ T[(a + d) % T.length]? = some 0 := by
  obtain ⟨i, hi, h0⟩ := h.zero
  refine ⟨(i + T.length - a) % T.length, Nat.mod_lt _ (by omega), ?_⟩
  rw [Nat.add_mod_mod, show a + (i + T.length - a) = i + T.length by omega, Nat.add_mod_right, Nat.mod_eq_of_lt hi]
  exact h0
/-- A key that is not there goes to the first free cell of its way. -/
theorem Ix.put {hm : List UInt8 → Nat} {S : List (Option (List UInt8))} {T : List Nat} (h : Ix hm S T) {p d : Nat} {key : List UInt8} (hp : S[p]? = some none) (hno : ∀ (q : Nat), S[q]? ≠ some (some key)) (hd : d < T.length)
    (h0 : T[(hm key + d) % T.length]? = some 0) (hway : ∀ (e : Nat), e < d → T[(hm key + e) % T.length]? ≠ some 0) : Ix hm (S.set p (some key)) (T.set ((hm key + d) % T.length) (p + 1)) := by
  have hpl : p < S.length := (List.getElem?_eq_some_iff.1 hp).1
  have hil : (hm key + d) % T.length < T.length := (List.getElem?_eq_some_iff.1 h0).1
  generalize hi : (hm key + d) % T.length = i at *
  have hnp : ∀ (j : Nat), T[j]? ≠ some (p + 1) := fun j hj => by
    obtain ⟨k, hk⟩ := h.ofT j p hj
    rw [hp] at hk; simp at hk
  have get : ∀ (j : Nat), (T.set i (p + 1))[j]? = if j = i then some (p + 1) else T[j]? := fun j => by
    by_cases e : j = i
    · subst e; rw [if_pos rfl, List.getElem?_set_self hil]
    · rw [if_neg e, List.getElem?_set_ne (Ne.symm e)]
  have old : ∀ (q : Nat) (k : List UInt8), (S.set p (some key))[q]? = some (some k) → (q = p ∧ k = key) ∨ (q ≠ p ∧ S[q]? = some (some k)) := fun q k hq => by
    by_cases e : q = p
    · subst e; rw [List.getElem?_set_self hpl] at hq; simp at hq; exact .inl ⟨rfl, hq.symm⟩
    · rw [List.getElem?_set_ne (Ne.symm e)] at hq; exact .inr ⟨e, hq⟩
  refine ⟨by rw [List.length_set, List.length_set]; exact h.len, fun j q hj => ?_, fun q k hq => ?_, fun j l q hj hl => ?_, fun q r k hq hr => ?_⟩
  · rw [get] at hj
    split at hj
    · simp at hj; subst hj; exact ⟨key, List.getElem?_set_self hpl⟩
    · obtain ⟨k, hk⟩ := h.ofT j q hj
      have hne : p ≠ q := fun e => by subst e; exact hnp j hj
      exact ⟨k, by rw [List.getElem?_set_ne hne]; exact hk⟩
  · rw [List.length_set]
    rcases old q k hq with ⟨rfl, rfl⟩ | ⟨_, hq⟩
    · refine ⟨d, hd, by rw [get, hi, if_pos rfl], fun e he => ?_⟩
      rw [get]
      split
      · simp
      · exact hway e he
    · obtain ⟨c, hc, hT, hw⟩ := h.toT q k hq
      refine ⟨c, hc, ?_, fun e he => ?_⟩
      · rw [get, if_neg]
        · exact hT
        · intro e; rw [e, h0] at hT; simp at hT
      · rw [get]
        split
        · simp
        · exact hw e he
  · rw [get] at hj hl
    split at hj <;> split at hl
    · omega
    · simp at hj; subst hj; exact absurd hl (hnp l)
    · simp at hl; subst hl; exact absurd hj (hnp j)
    · exact h.one j l q hj hl
  · rcases old q k hq with ⟨e1, e2⟩ | ⟨_, hq'⟩ <;> rcases old r k hr with ⟨e3, e4⟩ | ⟨_, hr'⟩
    · omega
    · subst e2; exact absurd hr' (hno r)
    · subst e4; exact absurd hq' (hno q)
    · exact h.uniq q r k hq' hr'
end Go.Proofs.Ytajadfoannmaiaa.Probe
