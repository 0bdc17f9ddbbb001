/- linear probing: looking a key up; taking a key out. Plain law. -/
import Derived.Test.YtajadfoannmaiaaProbe
namespace Go.Proofs.Ytajadfoannmaiaa.Probe
set_option linter.unusedVariables false

theorem mod_inj {N a b c : Nat} (hb : b < N) (hc : c < N) (h : (a + b) % N = (a + c) % N) : b = c := by
  have h1 := Nat.div_add_mod (a + b) N
  have h2 := Nat.div_add_mod (a + c) N
  rw [h] at h1
  have h3 : N * ((a + b) / N) + c = N * ((a + c) / N) + b := by omega
  rcases Nat.lt_trichotomy ((a + b) / N) ((a + c) / N) with hl | he | hl
  · obtain ⟨k, hk⟩ : ∃ k, (a + c) / N = (a + b) / N + 1 + k := ⟨(a + c) / N - ((a + b) / N + 1), by omega⟩
    rw [hk, Nat.mul_add, Nat.mul_add] at h3
    have := Nat.zero_le (N * k)
    omega
  · rw [he] at h3; omega
  · obtain ⟨k, hk⟩ : ∃ k, (a + b) / N = (a + c) / N + 1 + k := ⟨(a + b) / N - ((a + c) / N + 1), by omega⟩
    rw [hk, Nat.mul_add, Nat.mul_add] at h3
    have := Nat.zero_le (N * k)
    omega
theorem step_mod {N a d : Nat} : ((a + d) % N + 1) % N = (a + (d + 1)) % N := by
  rw [Nat.mod_add_mod]; congr 1
/-- How far it is from a on to the place a + d. -/
theorem dist_mod {N a d : Nat} (ha : a < N) (hd : d < N) : ((a + d) % N + N - a) % N = d := by
  by_cases h : a + d < N
  · rw [Nat.mod_eq_of_lt h, show a + d + N - a = d + N by omega, Nat.add_mod_right, Nat.mod_eq_of_lt hd]
  · rw [show a + d = (a + d - N) + N by omega, Nat.add_mod_right, Nat.mod_eq_of_lt (show a + d - N < N by omega), show a + d - N + N - a = d by omega, Nat.mod_eq_of_lt hd]
theorem dist_down {N h D d : Nat} (hd : d ≤ D) (hD : D < N) : ((h + D) % N + N - (h + d) % N) % N = D - d := by
  have e : (h + D) % N = ((h + d) % N + (D - d)) % N := by rw [Nat.mod_add_mod]; congr 1; omega
  rw [e, dist_mod (Nat.mod_lt _ (by omega)) (by omega)]

/-- What a look ends at: the key's own cell, or the first free one. -/
inductive Ends (S : List (Option (List UInt8))) (T : List Nat) (key : List UInt8) (i : Nat) : Option Nat → Prop
  | there (p : Nat) : T[i]? = some (p + 1) → S[p]? = some (some key) → Ends S T key i (some p)
  | free : T[i]? = some 0 → (∀ (q : Nat), S[q]? ≠ some (some key)) → Ends S T key i none
theorem Ix.look {hm : List UInt8 → Nat} {S : List (Option (List UInt8))} {T : List Nat} (h : Ix hm S T) (key : List UInt8) :
    ∃ d o, d < T.length ∧ Ends S T key ((hm key + d) % T.length) o ∧ ∀ (e : Nat), e < d → ∃ q k, T[(hm key + e) % T.length]? = some (q + 1) ∧ S[q]? = some (some k) ∧ k ≠ key := by
  have hN : 0 < T.length := by have := h.len; omega
  have way : ∀ (e : Nat), T[(hm key + e) % T.length]? ≠ some 0 → ∃ q k, T[(hm key + e) % T.length]? = some (q + 1) ∧ S[q]? = some (some k) := fun e he => by
    have hlt : (hm key + e) % T.length < T.length := Nat.mod_lt _ hN
    cases hc : T[(hm key + e) % T.length] with
    | zero => exact absurd (by rw [List.getElem?_eq_getElem hlt, hc]) he
    | succ q =>
      have h1 : T[(hm key + e) % T.length]? = some (q + 1) := by rw [List.getElem?_eq_getElem hlt, hc]
      obtain ⟨k, hk⟩ := h.ofT _ _ h1
      exact ⟨q, k, h1, hk⟩
  by_cases hin : ∃ p : Nat, S[p]? = some (some key)
  · obtain ⟨p, hp⟩ := hin
    obtain ⟨d, hd, hT, hw⟩ := h.toT p key hp
    refine ⟨d, some p, hd, .there p hT hp, fun e he => ?_⟩
    obtain ⟨q, k, h1, h2⟩ := way e (hw e he)
    refine ⟨q, k, h1, h2, fun hk => ?_⟩
    subst hk
    have : q = p := h.uniq q p _ h2 hp
    subst this
    have := mod_inj (by omega) hd (h.one _ _ _ h1 hT)
    omega
  · have hno : ∀ (q : Nat), S[q]? ≠ some (some key) := fun q hq => hin ⟨q, hq⟩
    -- the least d with a free cell
    have least : ∀ n, (∃ d, d < n ∧ T[(hm key + d) % T.length]? = some 0) → ∃ d, d < n ∧ T[(hm key + d) % T.length]? = some 0 ∧ ∀ (e : Nat), e < d → T[(hm key + e) % T.length]? ≠ some 0 := by
      intro n
      induction n with
      | zero => rintro ⟨d, hd, _⟩; omega
      | succ n ih =>
        rintro ⟨d, hd, h0⟩
        by_cases hl : ∃ d, d < n ∧ T[(hm key + d) % T.length]? = some 0
        · obtain ⟨c, hc, r⟩ := ih hl
          exact ⟨c, by omega, r⟩
        · have : d = n := by
            apply Classical.byContradiction
            intro hne
            exact hl ⟨d, by omega, h0⟩
          subst this
          exact ⟨d, by omega, h0, fun e he h => hl ⟨e, he, h⟩⟩
    obtain ⟨d', hd', h0'⟩ := h.stop (a := hm key % T.length) (Nat.mod_lt _ hN)
    obtain ⟨d, hd, h0, hw⟩ := least T.length ⟨d', hd', by rw [Nat.mod_add_mod] at h0'; exact h0'⟩
    refine ⟨d, none, hd, .free h0 hno, fun e he => ?_⟩
    obtain ⟨q, k, h1, h2⟩ := way e (hw e he)
    exact ⟨q, k, h1, h2, fun hk => by subst hk; exact hno q h2⟩

/-- A table with a hole at i on its way to be closed: s cells behind it are looked at, the next free one is u behind it. -/
structure Hole (hm : List UInt8 → Nat) (S : List (Option (List UInt8))) (T : List Nat) (i s u : Nat) : Prop where
  len : T.length = 2 * S.length + 1
  ofT : ∀ (i p : Nat), T[i]? = some (p + 1) → ∃ k, S[p]? = some (some k)
  toT : ∀ (p : Nat) (k : List UInt8), S[p]? = some (some k) → ∃ d, d < T.length ∧ T[(hm k + d) % T.length]? = some (p + 1) ∧ ∀ e, e < d → (hm k + e) % T.length = i ∨ T[(hm k + e) % T.length]? ≠ some 0
  one : ∀ (i j p : Nat), T[i]? = some (p + 1) → T[j]? = some (p + 1) → i = j
  uniq : ∀ (p q : Nat) (k : List UInt8), S[p]? = some (some k) → S[q]? = some (some k) → p = q
  hole : T[i]? = some 0
  seen : ∀ t, 0 < t → t < s → ∃ q k d, T[(i + t) % T.length]? = some (q + 1) ∧ S[q]? = some (some k) ∧ d < t ∧ (hm k + d) % T.length = (i + t) % T.length
  free : T[(i + u) % T.length]? = some 0
  pos : 0 < s
  le : s ≤ u
  lt : u < T.length
/-- A key is taken out: its cell is a hole. -/
theorem Ix.out {hm : List UInt8 → Nat} {S : List (Option (List UInt8))} {T : List Nat} (h : Ix hm S T) {i p : Nat} {key : List UInt8} (hT : T[i]? = some (p + 1)) (hp : S[p]? = some (some key)) :
    ∃ u, Hole hm (S.set p none) (T.set i 0) i 1 u := by
  have hil : i < T.length := (List.getElem?_eq_some_iff.1 hT).1
  have hpl : p < S.length := (List.getElem?_eq_some_iff.1 hp).1
  obtain ⟨z, hz, h0⟩ := h.zero
  have hne : z ≠ i := fun e => by subst e; rw [hT] at h0; simp at h0
  have hN : 0 < T.length := by omega
  have get : ∀ (j : Nat), (T.set i 0)[j]? = if j = i then some 0 else T[j]? := fun j => by
    by_cases e : j = i
    · subst e; rw [if_pos rfl, List.getElem?_set_self hil]
    · rw [if_neg e, List.getElem?_set_ne (Ne.symm e)]
  have old : ∀ (q : Nat) (k : List UInt8), (S.set p none)[q]? = some (some k) → q ≠ p ∧ S[q]? = some (some k) := fun q k hq => by
    by_cases e : q = p
    · subst e; rw [List.getElem?_set_self hpl] at hq; simp at hq
    · rw [List.getElem?_set_ne (Ne.symm e)] at hq; exact ⟨e, hq⟩
  have hiu : (i + (z + T.length - i) % T.length) % T.length = z := by
    rw [Nat.add_mod_mod, show i + (z + T.length - i) = z + T.length by omega, Nat.add_mod_right, Nat.mod_eq_of_lt hz]
  have hu : (z + T.length - i) % T.length ≠ 0 := fun e => by
    rw [e, Nat.add_zero, Nat.mod_eq_of_lt hil] at hiu; exact hne hiu.symm
  refine ⟨(z + T.length - i) % T.length, by rw [List.length_set, List.length_set]; exact h.len, fun j q hj => ?_, fun q k hq => ?_, fun j l q hj hl => ?_, fun q r k hq hr => ?_, by rw [get, if_pos rfl], fun t h1 h2 => by omega, ?_, by omega, by omega, by rw [List.length_set]; exact Nat.mod_lt _ hN⟩
  · rw [get] at hj
    split at hj
    · simp at hj
    · rename_i hji
      obtain ⟨k, hk⟩ := h.ofT j q hj
      have hqp : p ≠ q := fun e => by subst e; exact hji (h.one j i p hj hT)
      exact ⟨k, by rw [List.getElem?_set_ne hqp]; exact hk⟩
  · rw [List.length_set]
    obtain ⟨hqp, hq⟩ := old q k hq
    obtain ⟨d, hd, hTd, hw⟩ := h.toT q k hq
    refine ⟨d, hd, ?_, fun e he => ?_⟩
    · rw [get, if_neg]
      · exact hTd
      · intro e; rw [e, hT] at hTd; simp at hTd; exact hqp hTd.symm
    · rw [get]
      by_cases e' : (hm k + e) % T.length = i
      · exact .inl e'
      · rw [if_neg e']; exact .inr (hw e he)
  · rw [get] at hj hl
    split at hj <;> split at hl
    · omega
    · simp at hj
    · simp at hl
    · exact h.one j l q hj hl
  · exact h.uniq q r k (old q k hq).2 (old r k hr).2
  · rw [List.length_set, hiu, get, if_neg hne]; exact h0

section
variable {hm : List UInt8 → Nat} {S : List (Option (List UInt8))} {T : List Nat} {i s u : Nat}
theorem Hole.ilt (h : Hole hm S T i s u) : i < T.length := (List.getElem?_eq_some_iff.1 h.hole).1
/-- The cell that is looked at is not free: there is more way ahead. -/
theorem Hole.more (h : Hole hm S T i s u) {q : Nat} (hT : T[(i + s) % T.length]? = some (q + 1)) : s < u := by
  have := h.le
  rcases Nat.lt_or_eq_of_le this with h1 | h1
  · exact h1
  · subst h1; rw [h.free] at hT; simp at hT
/-- The key there: how far its way goes. -/
theorem Hole.way (h : Hole hm S T i s u) {q : Nat} {k : List UInt8} (hT : T[(i + s) % T.length]? = some (q + 1)) (hk : S[q]? = some (some k)) :
    ∃ d, d < T.length ∧ (hm k + d) % T.length = (i + s) % T.length ∧ ∀ e, e < d → (hm k + e) % T.length = i ∨ T[(hm k + e) % T.length]? ≠ some 0 := by
  obtain ⟨d, hd, hTd, hw⟩ := h.toT q k hk
  exact ⟨d, hd, h.one _ _ _ hTd hT, hw⟩
theorem Hole.skip (h : Hole hm S T i s u) {q d : Nat} {k : List UInt8} (hT : T[(i + s) % T.length]? = some (q + 1)) (hk : S[q]? = some (some k)) (hd : (hm k + d) % T.length = (i + s) % T.length) (hds : d < s) : Hole hm S T i (s + 1) u := by
  have hm' := h.more hT
  refine ⟨h.len, h.ofT, h.toT, h.one, h.uniq, h.hole, fun t h1 h2 => ?_, h.free, by omega, by omega, h.lt⟩
  by_cases e : t = s
  · subst e; exact ⟨q, k, d, hT, hk, hds, hd⟩
  · exact h.seen t h1 (by omega)
theorem Hole.move (h : Hole hm S T i s u) {q d : Nat} {k : List UInt8} (hT : T[(i + s) % T.length]? = some (q + 1)) (hk : S[q]? = some (some k)) (hdl : d < T.length) (hd : (hm k + d) % T.length = (i + s) % T.length) (hds : s ≤ d) :
    Hole hm S ((T.set i (q + 1)).set ((i + s) % T.length) 0) ((i + s) % T.length) 1 (u - s) := by
  have hm' := h.more hT
  have hil := h.ilt
  have hN : 0 < T.length := by omega
  have hul := h.lt
  have hpos := h.pos
  generalize hat : (i + s) % T.length = at_ at *
  have hal : at_ < T.length := (List.getElem?_eq_some_iff.1 hT).1
  have hne : at_ ≠ i := fun e => by subst e; rw [h.hole] at hT; simp at hT
  have get : ∀ (j : Nat), ((T.set i (q + 1)).set at_ 0)[j]? = if j = at_ then some 0 else if j = i then some (q + 1) else T[j]? := fun j => by
    by_cases e : j = at_
    · subst e; rw [if_pos rfl, List.getElem?_set_self (by rw [List.length_set]; exact hal)]
    · rw [if_neg e, List.getElem?_set_ne (Ne.symm e)]
      by_cases e2 : j = i
      · subst e2; rw [if_pos rfl, List.getElem?_set_self hil]
      · rw [if_neg e2, List.getElem?_set_ne (Ne.symm e2)]
  have hlen : ((T.set i (q + 1)).set at_ 0).length = T.length := by rw [List.length_set, List.length_set]
  have hau : (at_ + (u - s)) % T.length = (i + u) % T.length := by
    rw [← hat, Nat.mod_add_mod]; congr 1; omega
  refine ⟨by rw [hlen]; exact h.len, fun j r hj => ?_, fun r k2 hr => ?_, fun j l r hj hl => ?_, h.uniq, by rw [get, if_pos rfl], fun t h1 h2 => by omega, ?_, by omega, by omega, by rw [hlen]; omega⟩
  · rw [get] at hj
    split at hj
    · simp at hj
    · split at hj
      · simp at hj; subst hj; exact ⟨k, hk⟩
      · exact h.ofT j r hj
  · rw [hlen]
    by_cases hrq : r = q
    · subst hrq
      have hkk : k2 = k := by rw [hk] at hr; simp at hr; exact hr.symm
      subst hkk
      have hpi : (hm k2 + (d - s)) % T.length = i := by
        have e1 : ((hm k2 + (d - s)) + s) % T.length = (i + s) % T.length := by rw [hat, ← hd]; congr 1; omega
        have h1 := mod_inj (N := T.length) (a := s) (b := (hm k2 + (d - s)) % T.length) (c := i) (Nat.mod_lt _ hN) hil (by rw [Nat.add_mod_mod, Nat.add_comm s, Nat.add_comm s, e1])
        exact h1
      refine ⟨d - s, by omega, by rw [get, hpi, if_neg (Ne.symm hne), if_pos rfl], fun e he => ?_⟩
      obtain ⟨d0, hd0, hTd0, hw⟩ := h.toT r k2 hr
      have hd0' : (hm k2 + d0) % T.length = at_ := h.one _ _ _ hTd0 hT
      have hdd : d0 = d := mod_inj hd0 hdl (by rw [hd0', hd])
      subst hdd
      have n1 : (hm k2 + e) % T.length ≠ i := fun c => by
        have := mod_inj (N := T.length) (a := hm k2) (b := e) (c := d0 - s) (by omega) (by omega) (by rw [c, hpi])
        omega
      have n2 : (hm k2 + e) % T.length ≠ at_ := fun c => by
        have := mod_inj (N := T.length) (a := hm k2) (b := e) (c := d0) (by omega) (by omega) (by rw [c, hd])
        omega
      rw [get, if_neg n2, if_neg n1]
      exact (hw e (by omega)).elim (fun c => absurd c n1) .inr
    · obtain ⟨d2, hd2, hTd2, hw⟩ := h.toT r k2 hr
      have n1 : (hm k2 + d2) % T.length ≠ at_ := fun c => by rw [c, hT] at hTd2; simp at hTd2; omega
      have n2 : (hm k2 + d2) % T.length ≠ i := fun c => by rw [c, h.hole] at hTd2; simp at hTd2
      refine ⟨d2, hd2, by rw [get, if_neg n1, if_neg n2]; exact hTd2, fun e he => ?_⟩
      rw [get]
      by_cases c1 : (hm k2 + e) % T.length = at_
      · exact .inl c1
      · rw [if_neg c1]
        by_cases c2 : (hm k2 + e) % T.length = i
        · rw [if_pos c2]; exact .inr (by simp)
        · rw [if_neg c2]; exact (hw e he).elim (fun c => absurd c c2) .inr
  · rw [get] at hj hl
    split at hj
    · simp at hj
    · split at hl
      · simp at hl
      · split at hj <;> split at hl
        · omega
        · simp at hj; subst hj
          rename_i a1 a2 a3 a4
          exact absurd (h.one l at_ q hl hT) a2
        · simp at hl; subst hl
          rename_i a1 a2 a3 a4
          exact absurd (h.one j at_ q hj hT) a1
        · exact h.one j l r hj hl
  · rw [hlen, hau, get, if_neg, if_neg]
    · exact h.free
    · intro c
      have := mod_inj (N := T.length) (a := i) (b := u) (c := 0) (by omega) hN (by rw [c, Nat.add_zero, Nat.mod_eq_of_lt hil])
      omega
    · intro c
      have := mod_inj (N := T.length) (a := i) (b := u) (c := s) (by omega) (by omega) (by rw [c, hat])
      omega
/-- A free cell behind: the hole is one as any. -/
theorem Hole.done (h : Hole hm S T i s u) (hT : T[(i + s) % T.length]? = some 0) : Ix hm S T := by
  have hil := h.ilt
  have hN : 0 < T.length := by omega
  have hle := h.le
  have hlt := h.lt
  have hpos := h.pos
  refine ⟨h.len, h.ofT, fun p k hp => ?_, h.one, h.uniq⟩
  obtain ⟨d, hd, hTd, hw⟩ := h.toT p k hp
  refine ⟨d, hd, hTd, fun e he => ?_⟩
  rcases hw e he with hi | hn
  · exfalso
    have hj : (hm k + d) % T.length = (i + (d - e)) % T.length := by rw [← hi, Nat.mod_add_mod]; congr 1; omega
    by_cases hs : d - e < s
    · obtain ⟨q, k', d', h1, h2, h3, h4⟩ := h.seen (d - e) (by omega) hs
      rw [← hj, hTd] at h1
      simp at h1; subst h1
      rw [hp] at h2
      simp at h2; subst h2
      have := mod_inj (by omega) hd (h4.trans hj.symm)
      omega
    · have hat : (hm k + (e + s)) % T.length = (i + s) % T.length := by rw [← hi, Nat.mod_add_mod]; congr 1; omega
      by_cases hed : e + s = d
      · rw [hed] at hat; rw [← hat, hTd] at hT; simp at hT
      · rcases hw (e + s) (by omega) with h1 | h1
        · have := mod_inj (N := T.length) (a := i) (b := s) (c := 0) (by omega) hN (by rw [← hat, h1, Nat.add_zero, Nat.mod_eq_of_lt hil])
          omega
        · rw [hat] at h1; exact h1 hT
  · exact hn
end
#print axioms Hole.done
end Go.Proofs.Ytajadfoannmaiaa.Probe
