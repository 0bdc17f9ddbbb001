/- linear probing: plain law. | linear probing: looking a key up; taking a key out. Plain law. | index.Index: what it holds; home, look. | index.Index: Find, Put. | index.Index: Remove. | index.Index: Size, New. | index.Index: New over an empty store; where it lies. | index.Index: what is free and what is used; the store's own Is and Used. -/
import Derived.Test.YtndekdafiaogmaaZKeys
import Derived.WalkMore
import Derived.Deep.OwnRows
import Derived.Laws.OwnMore
set_option linter.unusedSimpArgs false
set_option linter.unusedVariables false
section
namespace Go.Proofs.Ytndekdafiaogmaa.Probe
theorem pigeon : ∀ (n : Nat) (l : List Nat), l.Nodup → (∀ x, x ∈ l → x < n) → l.length ≤ n
 | 0, l, _, h => by
   cases l with
   | nil => exact Nat.le_refl _
   | cons x l => exact absurd (h x (by simp)) (by omega)
 | n + 1, l, hn, h => by
   by_cases hm : n ∈ l
   ·have h1 := pigeon n (l.erase n) (hn.erase n) (fun x hx => by
     have h2 := h x (List.mem_of_mem_erase hx)
     have h3 : x ≠ n := fun e => by subst e; exact (List.Nodup.not_mem_erase hn) hx
     omega)
    have h2 := List.length_erase_of_mem hm
    omega
   ·have h1 := pigeon n l hn (fun x hx => by
     have h2 := h x hx
     have h3 : x ≠ n := fun e => by subst e; exact hm hx
     omega)
    omega
structure Ix (hm : List UInt8 → Nat) (S : List (Option (List UInt8))) (T : List Nat) : Prop where
 len : T.length = 2 * S.length + 1
 ofT : ∀ (i p : Nat), T[i]? = some (p + 1) → ∃ k, S[p]? = some (some k)
 toT : ∀ (p : Nat) (k : List UInt8), S[p]? = some (some k) → ∃ d, d < T.length ∧ T[(hm k + d) % T.length]? = some (p + 1) ∧ ∀ e, e < d → T[(hm k + e) % T.length]? ≠ some 0
 one : ∀ (i j p : Nat), T[i]? = some (p + 1) → T[j]? = some (p + 1) → i = j
 uniq : ∀ (p q : Nat) (k : List UInt8), S[p]? = some (some k) → S[q]? = some (some k) → p = q
theorem Ix.zero {hm : List UInt8 → Nat} {S : List (Option (List UInt8))} {T : List Nat} (h : Ix hm S T) : ∃ i, i < T.length ∧ T[i]? = some 0 := by
 apply Classical.byContradiction
 intro hno
 have hpos : ∀ x, x ∈ T → ∃ p, x = p + 1 ∧ p < S.length := fun x hx => by
  obtain ⟨i, hi, rfl⟩ := List.getElem_of_mem hx
  cases e : T[i] with
  | zero => exact absurd ⟨i, hi, by rw [List.getElem?_eq_getElem hi, e]⟩ hno
  | succ p =>
    obtain ⟨k, hk⟩ := h.ofT i p (by rw [List.getElem?_eq_getElem hi, e])
    exact ⟨p, rfl, (List.getElem?_eq_some_iff.1 hk).1⟩
 have hnd : T.Nodup := by
  refine List.pairwise_iff_getElem.2 fun i j hi hj hij e => ?_
  obtain ⟨p, hp, _⟩ := hpos T[i] (List.getElem_mem hi)
  have h1 : T[i]? = some (p + 1) := by rw [List.getElem?_eq_getElem hi, hp]
  have := h.one i j p h1 (by rw [List.getElem?_eq_getElem hj, ← e, hp])
  omega
 have := pigeon (S.length + 1) (0 :: T) (List.nodup_cons.2 ⟨fun h0 => by obtain ⟨p, hp, _⟩ := hpos 0 h0; omega, hnd⟩) (fun x hx => by
  rcases List.mem_cons.1 hx with rfl | hx
  ·omega
  ·obtain ⟨p, rfl, hp⟩ := hpos x hx; omega)
 have := h.len
 simp at *
 omega
theorem Ix.stop {hm : List UInt8 → Nat} {S : List (Option (List UInt8))} {T : List Nat} (h : Ix hm S T) {a : Nat} (ha : a < T.length) : ∃ d, d < T.length ∧ T[(a + d) % T.length]? = some 0 := by
 obtain ⟨i, hi, h0⟩ := h.zero
 refine ⟨(i + T.length - a) % T.length, Nat.mod_lt _ (by omega), ?_⟩
 rw [Nat.add_mod_mod, show a + (i + T.length - a) = i + T.length by omega, Nat.add_mod_right, Nat.mod_eq_of_lt hi]
 exact h0
theorem Ix.put {hm : List UInt8 → Nat} {S : List (Option (List UInt8))} {T : List Nat} (h : Ix hm S T) {p d : Nat} {key : List UInt8} (hp : S[p]? = some none) (hno : ∀ (q : Nat), S[q]? ≠ some (some key)) (hd : d < T.length)
  (h0 : T[(hm key + d) % T.length]? = some 0) (hway : ∀ (e : Nat), e < d → T[(hm key + e) % T.length]? ≠ some 0) : Ix hm (S.set p (some key)) (T.set ((hm key + d) % T.length) (p + 1)) := by
 have hpl : p < S.length := (List.getElem?_eq_some_iff.1 hp).1
 have hil : (hm key + d) % T.length < T.length := (List.getElem?_eq_some_iff.1 h0).1
 generalize hi : (hm key + d) % T.length = i at *
 have hnp : ∀ (j : Nat), T[j]? ≠ some (p + 1) := fun j hj => by
  obtain ⟨k, hk⟩ := h.ofT j p hj
  rw [hp] at hk; simp at hk
 have get : ∀ (j : Nat), (T.set i (p + 1))[j]? = if j = i then some (p + 1) else T[j]? := fun j => by
  by_cases e : j = i
  ·subst e; rw [if_pos rfl, List.getElem?_set_self hil]
  ·rw [if_neg e, List.getElem?_set_ne (Ne.symm e)]
 have old : ∀ (q : Nat) (k : List UInt8), (S.set p (some key))[q]? = some (some k) → (q = p ∧ k = key) ∨ (q ≠ p ∧ S[q]? = some (some k)) := fun q k hq => by
  by_cases e : q = p
  ·subst e; rw [List.getElem?_set_self hpl] at hq; simp at hq; exact .inl ⟨rfl, hq.symm⟩
  ·rw [List.getElem?_set_ne (Ne.symm e)] at hq; exact .inr ⟨e, hq⟩
 refine ⟨by rw [List.length_set, List.length_set]; exact h.len, fun j q hj => ?_, fun q k hq => ?_, fun j l q hj hl => ?_, fun q r k hq hr => ?_⟩
 ·rw [get] at hj
  split at hj
  ·simp at hj; subst hj; exact ⟨key, List.getElem?_set_self hpl⟩
  ·obtain ⟨k, hk⟩ := h.ofT j q hj
   have hne : p ≠ q := fun e => by subst e; exact hnp j hj
   exact ⟨k, by rw [List.getElem?_set_ne hne]; exact hk⟩
 ·rw [List.length_set]
  rcases old q k hq with ⟨rfl, rfl⟩ | ⟨_, hq⟩
  ·refine ⟨d, hd, by rw [get, hi, if_pos rfl], fun e he => ?_⟩
   rw [get]
   split
   ·simp
   ·exact hway e he
  ·obtain ⟨c, hc, hT, hw⟩ := h.toT q k hq
   refine ⟨c, hc, ?_, fun e he => ?_⟩
   ·rw [get, if_neg]
    ·exact hT
    ·intro e; rw [e, h0] at hT; simp at hT
   ·rw [get]
    split
    ·simp
    ·exact hw e he
 ·rw [get] at hj hl
  split at hj <;> split at hl
  ·omega
  ·simp at hj; subst hj; exact absurd hl (hnp l)
  ·simp at hl; subst hl; exact absurd hj (hnp j)
  ·exact h.one j l q hj hl
 ·rcases old q k hq with ⟨e1, e2⟩ | ⟨_, hq'⟩ <;> rcases old r k hr with ⟨e3, e4⟩ | ⟨_, hr'⟩
  ·omega
  ·subst e2; exact absurd hr' (hno r)
  ·subst e4; exact absurd hq' (hno q)
  ·exact h.uniq q r k hq' hr'
end Go.Proofs.Ytndekdafiaogmaa.Probe
end
section
namespace Go.Proofs.Ytndekdafiaogmaa.Probe
theorem mod_inj {N a b c : Nat} (hb : b < N) (hc : c < N) (h : (a + b) % N = (a + c) % N) : b = c := by
 have h1 := Nat.div_add_mod (a + b) N
 have h2 := Nat.div_add_mod (a + c) N
 rw [h] at h1
 have h3 : N * ((a + b) / N) + c = N * ((a + c) / N) + b := by omega
 rcases Nat.lt_trichotomy ((a + b) / N) ((a + c) / N) with hl | he | hl
 ·obtain ⟨k, hk⟩ : ∃ k, (a + c) / N = (a + b) / N + 1 + k := ⟨(a + c) / N - ((a + b) / N + 1), by omega⟩
  rw [hk, Nat.mul_add, Nat.mul_add] at h3
  have := Nat.zero_le (N * k)
  omega
 ·rw [he] at h3; omega
 ·obtain ⟨k, hk⟩ : ∃ k, (a + b) / N = (a + c) / N + 1 + k := ⟨(a + b) / N - ((a + c) / N + 1), by omega⟩
  rw [hk, Nat.mul_add, Nat.mul_add] at h3
  have := Nat.zero_le (N * k)
  omega
theorem step_mod {N a d : Nat} : ((a + d) % N + 1) % N = (a + (d + 1)) % N := by
 rw [Nat.mod_add_mod]; congr 1
theorem dist_mod {N a d : Nat} (ha : a < N) (hd : d < N) : ((a + d) % N + N - a) % N = d := by
 by_cases h : a + d < N
 ·rw [Nat.mod_eq_of_lt h, show a + d + N - a = d + N by omega, Nat.add_mod_right, Nat.mod_eq_of_lt hd]
 ·rw [show a + d = (a + d - N) + N by omega, Nat.add_mod_right, Nat.mod_eq_of_lt (show a + d - N < N by omega), show a + d - N + N - a = d by omega, Nat.mod_eq_of_lt hd]
theorem dist_down {N h D d : Nat} (hd : d ≤ D) (hD : D < N) : ((h + D) % N + N - (h + d) % N) % N = D - d := by
 have e : (h + D) % N = ((h + d) % N + (D - d)) % N := by rw [Nat.mod_add_mod]; congr 1; omega
 rw [e, dist_mod (Nat.mod_lt _ (by omega)) (by omega)]
inductive Ends (S : List (Option (List UInt8))) (T : List Nat) (key : List UInt8) (i : Nat) : Option Nat → Prop
 | there (p : Nat) : T[i]? = some (p + 1) → S[p]? = some (some key) → Ends S T key i (some p)
 | free : T[i]? = some 0 → (∀ (q : Nat), S[q]? ≠ some (some key)) → Ends S T key i none
theorem Ix.look {hm : List UInt8 → Nat} {S : List (Option (List UInt8))} {T : List Nat} (h : Ix hm S T) (key : List UInt8) :
  ∃ d o, d < T.length ∧ Ends S T key ((hm key + d) % T.length) o ∧ ∀ (e : Nat), e < d → ∃ q k, T[(hm key + e) % T.length]? = some (q + 1) ∧ S[q]? = some (some k) ∧ k ≠ key := by
 have hN : 0 < T.length := by have := h.len; omega
 have way : ∀ (e : Nat), T[(hm key + e) % T.length]? ≠ some 0 → ∃ q k, T[(hm key + e) % T.length]? = some (q + 1) ∧ S[q]? = some (some k) := fun e he => by
  have hlt : (hm key + e) % T.length < T.length := Nat.mod_lt _ hN
  cases hc : T[(hm key + e) % T.length] with
  | zero => exact absurd (by rw [List.getElem?_eq_getElem hlt, hc]) he
  | succ q =>
    have h1 : T[(hm key + e) % T.length]? = some (q + 1) := by rw [List.getElem?_eq_getElem hlt, hc]
    obtain ⟨k, hk⟩ := h.ofT _ _ h1
    exact ⟨q, k, h1, hk⟩
 by_cases hin : ∃ p : Nat, S[p]? = some (some key)
 ·obtain ⟨p, hp⟩ := hin
  obtain ⟨d, hd, hT, hw⟩ := h.toT p key hp
  refine ⟨d, some p, hd, .there p hT hp, fun e he => ?_⟩
  obtain ⟨q, k, h1, h2⟩ := way e (hw e he)
  refine ⟨q, k, h1, h2, fun hk => ?_⟩
  subst hk
  have : q = p := h.uniq q p _ h2 hp
  subst this
  have := mod_inj (by omega) hd (h.one _ _ _ h1 hT)
  omega
 ·have hno : ∀ (q : Nat), S[q]? ≠ some (some key) := fun q hq => hin ⟨q, hq⟩
  -- the least d with a free cell
  have least : ∀ n, (∃ d, d < n ∧ T[(hm key + d) % T.length]? = some 0) → ∃ d, d < n ∧ T[(hm key + d) % T.length]? = some 0 ∧ ∀ (e : Nat), e < d → T[(hm key + e) % T.length]? ≠ some 0 := by
   intro n
   induction n with
   | zero => rintro ⟨d, hd, _⟩; omega
   | succ n ih =>
     rintro ⟨d, hd, h0⟩
     by_cases hl : ∃ d, d < n ∧ T[(hm key + d) % T.length]? = some 0
     ·obtain ⟨c, hc, r⟩ := ih hl
      exact ⟨c, by omega, r⟩
     ·have : d = n := by
       apply Classical.byContradiction
       intro hne
       exact hl ⟨d, by omega, h0⟩
      subst this
      exact ⟨d, by omega, h0, fun e he h => hl ⟨e, he, h⟩⟩
  obtain ⟨d', hd', h0'⟩ := h.stop (a := hm key % T.length) (Nat.mod_lt _ hN)
  obtain ⟨d, hd, h0, hw⟩ := least T.length ⟨d', hd', by rw [Nat.mod_add_mod] at h0'; exact h0'⟩
  refine ⟨d, none, hd, .free h0 hno, fun e he => ?_⟩
  obtain ⟨q, k, h1, h2⟩ := way e (hw e he)
  exact ⟨q, k, h1, h2, fun hk => by subst hk; exact hno q h2⟩
structure Hole (hm : List UInt8 → Nat) (S : List (Option (List UInt8))) (T : List Nat) (i s u : Nat) : Prop where
 len : T.length = 2 * S.length + 1
 ofT : ∀ (i p : Nat), T[i]? = some (p + 1) → ∃ k, S[p]? = some (some k)
 toT : ∀ (p : Nat) (k : List UInt8), S[p]? = some (some k) → ∃ d, d < T.length ∧ T[(hm k + d) % T.length]? = some (p + 1) ∧ ∀ e, e < d → (hm k + e) % T.length = i ∨ T[(hm k + e) % T.length]? ≠ some 0
 one : ∀ (i j p : Nat), T[i]? = some (p + 1) → T[j]? = some (p + 1) → i = j
 uniq : ∀ (p q : Nat) (k : List UInt8), S[p]? = some (some k) → S[q]? = some (some k) → p = q
 hole : T[i]? = some 0
 seen : ∀ t, 0 < t → t < s → ∃ q k d, T[(i + t) % T.length]? = some (q + 1) ∧ S[q]? = some (some k) ∧ d < t ∧ (hm k + d) % T.length = (i + t) % T.length
 free : T[(i + u) % T.length]? = some 0
 pos : 0 < s
 le : s ≤ u
 lt : u < T.length
theorem Ix.out {hm : List UInt8 → Nat} {S : List (Option (List UInt8))} {T : List Nat} (h : Ix hm S T) {i p : Nat} {key : List UInt8} (hT : T[i]? = some (p + 1)) (hp : S[p]? = some (some key)) :
  ∃ u, Hole hm (S.set p none) (T.set i 0) i 1 u := by
 have hil : i < T.length := (List.getElem?_eq_some_iff.1 hT).1
 have hpl : p < S.length := (List.getElem?_eq_some_iff.1 hp).1
 obtain ⟨z, hz, h0⟩ := h.zero
 have hne : z ≠ i := fun e => by subst e; rw [hT] at h0; simp at h0
 have hN : 0 < T.length := by omega
 have get : ∀ (j : Nat), (T.set i 0)[j]? = if j = i then some 0 else T[j]? := fun j => by
  by_cases e : j = i
  ·subst e; rw [if_pos rfl, List.getElem?_set_self hil]
  ·rw [if_neg e, List.getElem?_set_ne (Ne.symm e)]
 have old : ∀ (q : Nat) (k : List UInt8), (S.set p none)[q]? = some (some k) → q ≠ p ∧ S[q]? = some (some k) := fun q k hq => by
  by_cases e : q = p
  ·subst e; rw [List.getElem?_set_self hpl] at hq; simp at hq
  ·rw [List.getElem?_set_ne (Ne.symm e)] at hq; exact ⟨e, hq⟩
 have hiu : (i + (z + T.length - i) % T.length) % T.length = z := by
  rw [Nat.add_mod_mod, show i + (z + T.length - i) = z + T.length by omega, Nat.add_mod_right, Nat.mod_eq_of_lt hz]
 have hu : (z + T.length - i) % T.length ≠ 0 := fun e => by
  rw [e, Nat.add_zero, Nat.mod_eq_of_lt hil] at hiu; exact hne hiu.symm
 refine ⟨(z + T.length - i) % T.length, by rw [List.length_set, List.length_set]; exact h.len, fun j q hj => ?_, fun q k hq => ?_, fun j l q hj hl => ?_, fun q r k hq hr => ?_, by rw [get, if_pos rfl], fun t h1 h2 => by omega, ?_, by omega, by omega, by rw [List.length_set]; exact Nat.mod_lt _ hN⟩
 ·rw [get] at hj
  split at hj
  ·simp at hj
  ·rename_i hji
   obtain ⟨k, hk⟩ := h.ofT j q hj
   have hqp : p ≠ q := fun e => by subst e; exact hji (h.one j i p hj hT)
   exact ⟨k, by rw [List.getElem?_set_ne hqp]; exact hk⟩
 ·rw [List.length_set]
  obtain ⟨hqp, hq⟩ := old q k hq
  obtain ⟨d, hd, hTd, hw⟩ := h.toT q k hq
  refine ⟨d, hd, ?_, fun e he => ?_⟩
  ·rw [get, if_neg]
   ·exact hTd
   ·intro e; rw [e, hT] at hTd; simp at hTd; exact hqp hTd.symm
  ·rw [get]
   by_cases e' : (hm k + e) % T.length = i
   ·exact .inl e'
   ·rw [if_neg e']; exact .inr (hw e he)
 ·rw [get] at hj hl
  split at hj <;> split at hl
  ·omega
  ·simp at hj
  ·simp at hl
  ·exact h.one j l q hj hl
 ·exact h.uniq q r k (old q k hq).2 (old r k hr).2
 ·rw [List.length_set, hiu, get, if_neg hne]; exact h0
section
variable {hm : List UInt8 → Nat} {S : List (Option (List UInt8))} {T : List Nat} {i s u : Nat}
theorem Hole.ilt (h : Hole hm S T i s u) : i < T.length := (List.getElem?_eq_some_iff.1 h.hole).1
theorem Hole.more (h : Hole hm S T i s u) {q : Nat} (hT : T[(i + s) % T.length]? = some (q + 1)) : s < u := by
 have := h.le
 rcases Nat.lt_or_eq_of_le this with h1 | h1
 ·exact h1
 ·subst h1; rw [h.free] at hT; simp at hT
theorem Hole.way (h : Hole hm S T i s u) {q : Nat} {k : List UInt8} (hT : T[(i + s) % T.length]? = some (q + 1)) (hk : S[q]? = some (some k)) :
  ∃ d, d < T.length ∧ (hm k + d) % T.length = (i + s) % T.length ∧ ∀ e, e < d → (hm k + e) % T.length = i ∨ T[(hm k + e) % T.length]? ≠ some 0 := by
 obtain ⟨d, hd, hTd, hw⟩ := h.toT q k hk
 exact ⟨d, hd, h.one _ _ _ hTd hT, hw⟩
theorem Hole.skip (h : Hole hm S T i s u) {q d : Nat} {k : List UInt8} (hT : T[(i + s) % T.length]? = some (q + 1)) (hk : S[q]? = some (some k)) (hd : (hm k + d) % T.length = (i + s) % T.length) (hds : d < s) : Hole hm S T i (s + 1) u := by
 have hm' := h.more hT
 refine ⟨h.len, h.ofT, h.toT, h.one, h.uniq, h.hole, fun t h1 h2 => ?_, h.free, by omega, by omega, h.lt⟩
 by_cases e : t = s
 ·subst e; exact ⟨q, k, d, hT, hk, hds, hd⟩
 ·exact h.seen t h1 (by omega)
theorem Hole.move (h : Hole hm S T i s u) {q d : Nat} {k : List UInt8} (hT : T[(i + s) % T.length]? = some (q + 1)) (hk : S[q]? = some (some k)) (hdl : d < T.length) (hd : (hm k + d) % T.length = (i + s) % T.length) (hds : s ≤ d) :
  Hole hm S ((T.set i (q + 1)).set ((i + s) % T.length) 0) ((i + s) % T.length) 1 (u - s) := by
 have hm' := h.more hT
 have hil := h.ilt
 have hN : 0 < T.length := by omega
 have hul := h.lt
 have hpos := h.pos
 generalize hat : (i + s) % T.length = at_ at *
 have hal : at_ < T.length := (List.getElem?_eq_some_iff.1 hT).1
 have hne : at_ ≠ i := fun e => by subst e; rw [h.hole] at hT; simp at hT
 have get : ∀ (j : Nat), ((T.set i (q + 1)).set at_ 0)[j]? = if j = at_ then some 0 else if j = i then some (q + 1) else T[j]? := fun j => by
  by_cases e : j = at_
  ·subst e; rw [if_pos rfl, List.getElem?_set_self (by rw [List.length_set]; exact hal)]
  ·rw [if_neg e, List.getElem?_set_ne (Ne.symm e)]
   by_cases e2 : j = i
   ·subst e2; rw [if_pos rfl, List.getElem?_set_self hil]
   ·rw [if_neg e2, List.getElem?_set_ne (Ne.symm e2)]
 have hlen : ((T.set i (q + 1)).set at_ 0).length = T.length := by rw [List.length_set, List.length_set]
 have hau : (at_ + (u - s)) % T.length = (i + u) % T.length := by
  rw [← hat, Nat.mod_add_mod]; congr 1; omega
 refine ⟨by rw [hlen]; exact h.len, fun j r hj => ?_, fun r k2 hr => ?_, fun j l r hj hl => ?_, h.uniq, by rw [get, if_pos rfl], fun t h1 h2 => by omega, ?_, by omega, by omega, by rw [hlen]; omega⟩
 ·rw [get] at hj
  split at hj
  ·simp at hj
  ·split at hj
   ·simp at hj; subst hj; exact ⟨k, hk⟩
   ·exact h.ofT j r hj
 ·rw [hlen]
  by_cases hrq : r = q
  ·subst hrq
   have hkk : k2 = k := by rw [hk] at hr; simp at hr; exact hr.symm
   subst hkk
   have hpi : (hm k2 + (d - s)) % T.length = i := by
    have e1 : ((hm k2 + (d - s)) + s) % T.length = (i + s) % T.length := by rw [hat, ← hd]; congr 1; omega
    have h1 := mod_inj (N := T.length) (a := s) (b := (hm k2 + (d - s)) % T.length) (c := i) (Nat.mod_lt _ hN) hil (by rw [Nat.add_mod_mod, Nat.add_comm s, Nat.add_comm s, e1])
    exact h1
   refine ⟨d - s, by omega, by rw [get, hpi, if_neg (Ne.symm hne), if_pos rfl], fun e he => ?_⟩
   obtain ⟨d0, hd0, hTd0, hw⟩ := h.toT r k2 hr
   have hd0' : (hm k2 + d0) % T.length = at_ := h.one _ _ _ hTd0 hT
   have hdd : d0 = d := mod_inj hd0 hdl (by rw [hd0', hd])
   subst hdd
   have n1 : (hm k2 + e) % T.length ≠ i := fun c => by
    have := mod_inj (N := T.length) (a := hm k2) (b := e) (c := d0 - s) (by omega) (by omega) (by rw [c, hpi])
    omega
   have n2 : (hm k2 + e) % T.length ≠ at_ := fun c => by
    have := mod_inj (N := T.length) (a := hm k2) (b := e) (c := d0) (by omega) (by omega) (by rw [c, hd])
    omega
   rw [get, if_neg n2, if_neg n1]
   exact (hw e (by omega)).elim (fun c => absurd c n1) .inr
  ·obtain ⟨d2, hd2, hTd2, hw⟩ := h.toT r k2 hr
   have n1 : (hm k2 + d2) % T.length ≠ at_ := fun c => by rw [c, hT] at hTd2; simp at hTd2; omega
   have n2 : (hm k2 + d2) % T.length ≠ i := fun c => by rw [c, h.hole] at hTd2; simp at hTd2
   refine ⟨d2, hd2, by rw [get, if_neg n1, if_neg n2]; exact hTd2, fun e he => ?_⟩
   rw [get]
   by_cases c1 : (hm k2 + e) % T.length = at_
   ·exact .inl c1
   ·rw [if_neg c1]
    by_cases c2 : (hm k2 + e) % T.length = i
    ·rw [if_pos c2]; exact .inr (by simp)
    ·rw [if_neg c2]; exact (hw e he).elim (fun c => absurd c c2) .inr
 ·rw [get] at hj hl
  split at hj
  ·simp at hj
  ·split at hl
   ·simp at hl
   ·split at hj <;> split at hl
    ·omega
    ·simp at hj; subst hj
     rename_i a1 a2 a3 a4
     exact absurd (h.one l at_ q hl hT) a2
    ·simp at hl; subst hl
     rename_i a1 a2 a3 a4
     exact absurd (h.one j at_ q hj hT) a1
    ·exact h.one j l r hj hl
 ·rw [hlen, hau, get, if_neg, if_neg]
  ·exact h.free
  ·intro c
   have := mod_inj (N := T.length) (a := i) (b := u) (c := 0) (by omega) hN (by rw [c, Nat.add_zero, Nat.mod_eq_of_lt hil])
   omega
  ·intro c
   have := mod_inj (N := T.length) (a := i) (b := u) (c := s) (by omega) (by omega) (by rw [c, hat])
   omega
theorem Hole.done (h : Hole hm S T i s u) (hT : T[(i + s) % T.length]? = some 0) : Ix hm S T := by
 have hil := h.ilt
 have hN : 0 < T.length := by omega
 have hle := h.le
 have hlt := h.lt
 have hpos := h.pos
 refine ⟨h.len, h.ofT, fun p k hp => ?_, h.one, h.uniq⟩
 obtain ⟨d, hd, hTd, hw⟩ := h.toT p k hp
 refine ⟨d, hd, hTd, fun e he => ?_⟩
 rcases hw e he with hi | hn
 ·exfalso
  have hj : (hm k + d) % T.length = (i + (d - e)) % T.length := by rw [← hi, Nat.mod_add_mod]; congr 1; omega
  by_cases hs : d - e < s
  ·obtain ⟨q, k', d', h1, h2, h3, h4⟩ := h.seen (d - e) (by omega) hs
   rw [← hj, hTd] at h1
   simp at h1; subst h1
   rw [hp] at h2
   simp at h2; subst h2
   have := mod_inj (by omega) hd (h4.trans hj.symm)
   omega
  ·have hat : (hm k + (e + s)) % T.length = (i + s) % T.length := by rw [← hi, Nat.mod_add_mod]; congr 1; omega
   by_cases hed : e + s = d
   ·rw [hed] at hat; rw [← hat, hTd] at hT; simp at hT
   ·rcases hw (e + s) (by omega) with h1 | h1
    ·have := mod_inj (N := T.length) (a := i) (b := s) (c := 0) (by omega) hN (by rw [← hat, h1, Nat.add_zero, Nat.mod_eq_of_lt hil])
     omega
    ·rw [hat] at h1; exact h1 hT
 ·exact hn
end
end Go.Proofs.Ytndekdafiaogmaa.Probe
end
section
namespace Go.Proofs.Ytndekdafiaogmaa.Index
open Go Go.RowKit Go.YtndekdafiaogmaaMem Go.YtndekdafiaogmaaLex Go.Proofs.Ytndekdafiaogmaa.Hash Go.Proofs.Ytndekdafiaogmaa.Keys Go.Proofs.Ytndekdafiaogmaa.Probe
def homeOf (r : Row) (N : Nat) (key : List UInt8) : Nat := place (r.of key) N
def tbl (T : List Nat) : List Value := T.map fun (p : Nat) => .int .i32 (p : Int)
theorem tbl_get {T : List Nat} {i p : Nat} (h : T[i]? = some p) : (tbl T)[i]? = some (.int .i32 (p : Int)) := by simp [tbl, h]
theorem tbl_set (T : List Nat) (i p : Nat) : tbl (T.set i p) = (tbl T).set i (.int .i32 (p : Int)) := by unfold tbl; rw [List.map_set]
structure Idx (w : World) (x g b1 b2 b3 t : Nat) (r : Row) (S : List (Option (List UInt8))) (fl : List Nat) (bs : List UInt8) (nx : List Int) (T : List Nat) : Prop where
 sto : Sto w g b1 b2 b3 S fl bs nx
 blk : Blk w x 146 [.pointer (some ⟨g, 0, none⟩), .int .u64 (r.x : Int), .int .u64 (r.a : Int), .int .u64 (r.b : Int), .slice (some ⟨t, 0, none⟩) T.length T.length]
 tab : Blk w t 21 (tbl T)
 ok : r.ok
 ix : Ix (homeOf r T.length) S T
 ne : x ≠ t ∧ x ∉ [g, b1, b2, b3] ∧ t ∉ [g, b1, b2, b3]
theorem Idx.mod {S0 : List Nat} {w w' : World} {x g b1 b2 b3 t : Nat} {r : Row} {S : List (Option (List UInt8))} {fl : List Nat} {bs : List UInt8} {nx : List Int} {T : List Nat} (h : Idx w x g b1 b2 b3 t r S fl bs nx T) (hm : Mod S0 w w') (h0 : ∀ b, b ∈ [x, g, b1, b2, b3, t] → b ∉ S0) : Idx w' x g b1 b2 b3 t r S fl bs nx T :=
 ⟨h.sto.mod hm ⟨h0 g (by simp), h0 b1 (by simp), h0 b2 (by simp), h0 b3 (by simp)⟩, hm.blk h.blk (h0 x (by simp)), hm.blk h.tab (h0 t (by simp)), h.ok, h.ix, h.ne⟩
section
variable {w : World} {x g b1 b2 b3 t : Nat} {r : Row} {S : List (Option (List UInt8))} {fl : List Nat} {bs : List UInt8} {nx : List Int} {T : List Nat}
theorem Idx.few (h : Idx w x g b1 b2 b3 t r S fl bs nx T) : T.length < 4096 ∧ 0 < T.length := by
 have h1 := h.sto.few
 have h2 := h.ix.len
 omega
set_option maxRecDepth 4000 in
theorem home_blk {N : Nat} (hB : Blk w x 146 [.pointer (some ⟨g, 0, none⟩), .int .u64 (r.x : Int), .int .u64 (r.a : Int), .int .u64 (r.b : Int), .slice (some ⟨t, 0, none⟩) N N]) (hok : r.ok) (hf1 : N < 4096) (hf2 : 0 < N) (key : List UInt8) (hl : key.length ≤ 1000000) :
  Calls Try.prog 99 #[.pointer (some ⟨x, 0, none⟩), .string ⟨key.toArray⟩] w fun e w' => e = .returned (.int .i64 (homeOf r N key : Nat)) ∧ Mod [] w w' := by
 have K := Lib.hid (fun W : World => bucket_any r key N hok hl hf2 hf1 W)
 have c1 := hB.cell (i := 1) rfl
 have c2 := hB.cell (i := 2) rfl
 have c3 := hB.cell (i := 3) rfl
 have c4 := hB.cell (i := 4) rfl
 show Calls _ _ _ _ fun e w' => e = .returned (.int .i64 (place (r.of key) N : Nat)) ∧ _
 generalize place (r.of key) N = q at *
 obtain ⟨rx, ra, rb⟩ := r
 simp only at c1 c2 c3 K
 clear hB
 go_enter Try.func99, Try.ntmps99
 go_wp2_with fail
 refine wp_region_lex (by kernel_rfl) (by kernel_rfl) ?_
 go_wp2_with fail
 refine (K.out _).mono ?_
 rintro e w1 ⟨rfl, hM1⟩
 go_wp2_with fail
 refine ⟨by kernel_rfl, ?_⟩
 go_wp2_with fail
 go_ret
 exact ⟨rfl, (Mod.refl [] w).drew.trans hM1⟩
theorem home_any (h : Idx w x g b1 b2 b3 t r S fl bs nx T) (key : List UInt8) (hl : key.length ≤ 1000000) :
  Calls Try.prog 99 #[.pointer (some ⟨x, 0, none⟩), .string ⟨key.toArray⟩] w fun e w' => e = .returned (.int .i64 (homeOf r T.length key : Nat)) ∧ Mod [] w w' :=
 home_blk h.blk h.ok h.few.1 h.few.2 key hl
end
def optInt (o : Option Nat) : Int := match o with | none => -1 | some p => p
def LookPost (r : Row) (S : List (Option (List UInt8))) (T : List Nat) (key : List UInt8) (w : World) (e : Ending) (w' : World) : Prop :=
 ∃ d o, d < T.length ∧ Probe.Ends S T key ((homeOf r T.length key + d) % T.length) o ∧ (∀ (e : Nat), e < d → T[(homeOf r T.length key + e) % T.length]? ≠ some 0) ∧
  e = .returned (.tuple #[.int .i64 ((homeOf r T.length key + d) % T.length : Nat), .int .i64 (optInt o)]) ∧ Mod [] w w'
section
variable {w : World} {x g b1 b2 b3 t : Nat} {r : Row} {S : List (Option (List UInt8))} {fl : List Nat} {bs : List UInt8} {nx : List Int} {T : List Nat}
theorem keyOf_some {S : List (Option (List UInt8))} {q : Nat} {k : List UInt8} (h : S[q]? = some (some k)) : Keys.keyOf S (q : Int) = some k := by
 unfold Keys.keyOf; rw [if_pos (by omega), Int.toNat_natCast, h]; rfl
set_option maxRecDepth 4000 in
set_option maxHeartbeats 1600000 in
theorem look_any (h : Idx w x g b1 b2 b3 t r S fl bs nx T) (key : List UInt8) (hl : key.length ≤ 1000000) :
  Calls Try.prog 89 #[.pointer (some ⟨x, 0, none⟩), .string ⟨key.toArray⟩] w (LookPost r S T key w) := by
 obtain ⟨hf1, hf2⟩ := h.few
 obtain ⟨d0, o, hd0, hend, hway⟩ := h.ix.look key
 have HM := Lib.hid (home_any h key hl)
 have KI := Lib.hid (fun (W : World) (hM : Mod [] w W) (q : Int) => is_any (h.sto.mod hM (by simp)) q key)
 have HB := Lib.hid h.blk
 have HT := Lib.hid h.tab
 have hlen := h.ix.len
 have hfew := h.sto.few
 have hh0 : homeOf r T.length key < T.length := place_lt (r.of_lt key) hf2
 unfold LookPost
 generalize hh : homeOf r T.length key = hm at *
 have HE := Lib.hid hend
 have HW := Lib.hid hway
 clear h hend hway hh
 obtain ⟨N, hN⟩ : ∃ N, T.length = N := ⟨_, rfl⟩
 rw [hN] at hf1 hf2 hd0 hh0 HB hlen ⊢
 have HE2 : Hid (Probe.Ends S T key ((hm + d0) % N) o) := by rw [← hN]; exact HE
 have HW2 : Hid (∀ (e : Nat), e < d0 → ∃ q k, T[(hm + e) % N]? = some (q + 1) ∧ S[q]? = some (some k) ∧ k ≠ key) := by rw [← hN]; exact HW
 have hNd := Lib.hid hN
 have hSN : S.length < N := by omega
 clear HE HW hN hlen
 obtain ⟨tg, htg⟩ : ∃ tg, (hm + d0) % N = tg := ⟨_, rfl⟩
 have HTG := Lib.hid htg
 clear htg
 go_enter Try.func89, Try.ntmps89
 go_wp2_with fail
 refine HM.out.mono ?_
 rintro e1 w1 ⟨rfl, hM1⟩
 have M1 := Lib.hid hM1
 clear hM1
 go_wp2_with fail
 go_loopw [6] (fun i wr => ∃ (d : Nat), d ≤ d0 ∧ i = .int .i64 (((hm + d) % N : Nat) : Int) ∧ Mod [] w wr) (fun i _ => (tg + N - (intOf i).toNat) % N)
 case atStart => exact ⟨0, Nat.zero_le _, by rw [Nat.add_zero, Nat.mod_eq_of_lt hh0], M1.out⟩
 case round =>
  obtain ⟨d, hd, rfl, hM⟩ := hrel
  have MR := Lib.hid hM
  have c0 := (hM.blk HB.out (by simp)).cell (i := 0) rfl
  have c4 := (hM.blk HB.out (by simp)).cell (i := 4) rfl
  have TB := hM.blk HT.out (by simp)
  have hil : (hm + d) % N < N := Nat.mod_lt _ (by omega)
  obtain ⟨i, hi⟩ : ∃ i, (hm + d) % N = i := ⟨_, rfl⟩
  have hdd : (tg + N - i) % N = d0 - d := by rw [← HTG.out, ← hi]; exact dist_down hd hd0
  have hnx : ((i : Int) + 1).tmod N = (((hm + (d + 1)) % N : Nat) : Int) := by
   rw [Int.tmod_eq_emod_of_nonneg (by omega), ← step_mod, hi]; simp
  obtain ⟨i2, hi2⟩ : ∃ i2, (hm + (d + 1)) % N = i2 := ⟨_, rfl⟩
  rw [hi2] at hnx
  have HI2 := Lib.hid hi2
  rw [hi] at hil ⊢
  have HI := Lib.hid hi
  have HDD := Lib.hid hdd
  clear hM hi hdd hi2
  by_cases hlt : d < d0
  ·obtain ⟨q, k, h1, h2, h3⟩ := HW2.out d hlt
   rw [HI.out] at h1
   have hq : q < S.length := (List.getElem?_eq_some_iff.1 h2).1
   have ci : wr.cell? ⟨t, i, none⟩ = some (.int .i32 ((q : Int) + 1)) := by have := TB.cell (tbl_get h1); rw [this]; simp
   have KK := Lib.hid (fun (W : World) (hM : Mod [] w W) => KI.out W hM q)
   have hk : decide (Keys.keyOf S (q : Int) = some key) = false := by rw [keyOf_some h2]; simp; exact h3
   rw [hk] at KK
   have hdn : (tg + N - i2) % N = d0 - (d + 1) := by rw [← HTG.out, ← HI2.out]; exact dist_down (by omega) hd0
   have HDN := Lib.hid hdn
   clear h1 h2 h3 hk TB KI HW2 HE2 hdn
   go_wp2_with fail
   refine (KK.out _ MR.out).mono ?_
   rintro e2 w2 ⟨rfl, hM2⟩
   have M2 := Lib.hid (MR.out.trans hM2)
   have c4' := (M2.out.blk HB.out (by simp)).cell (i := 4) rfl
   clear hM2
   go_wp2_with fail
   go_roundw
   case rel => exact ⟨d + 1, by omega, by rw [HI2.out], M2.out⟩
   case measure =>
    have a1 := HDD.out
    have a2 := HDN.out
    simp only [intOf, Int.toNat_natCast]
    rw [a1, a2]
    omega
  ·obtain rfl : d = d0 := by omega
   have hE := HE2.out
   rw [HTG.out] at hE
   obtain rfl : i = tg := by rw [← HI.out, HTG.out]
   cases hE with
   | there p h1 h2 =>
     have hq : p < S.length := (List.getElem?_eq_some_iff.1 h2).1
     have ci : wr.cell? ⟨t, i, none⟩ = some (.int .i32 ((p : Int) + 1)) := by have := TB.cell (tbl_get h1); rw [this]; simp
     have KK := Lib.hid (fun (W : World) (hM : Mod [] w W) => KI.out W hM p)
     have hk : decide (Keys.keyOf S (p : Int) = some key) = true := by rw [keyOf_some h2]; simp
     rw [hk] at KK
     have E2 := Lib.hid (Probe.Ends.there (key := key) p h1 h2)
     have HW3 := Lib.hid (show ∀ (e : Nat), e < d → T[(hm + e) % T.length]? ≠ some 0 from fun e he => by obtain ⟨q, k, a, _⟩ := HW2.out e he; rw [hNd.out, a]; simp)
     clear h1 h2 hk TB KI HW2 HE2
     go_wp2_with fail
     refine (KK.out _ MR.out).mono ?_
     rintro e2 w2 ⟨rfl, hM2⟩
     go_wp2_with fail
     go_ret2
     refine ⟨d, some p, by omega, ?_, ?_, ?_, MR.out.trans hM2⟩
     ·rw [HI.out]; exact E2.out
     ·have := HW3.out; rw [hNd.out] at this; exact this
     ·rw [HI.out]; rfl
   | free h1 h2 =>
     have ci : wr.cell? ⟨t, i, none⟩ = some (.int .i32 0) := by have := TB.cell (tbl_get h1); rw [this]; simp
     have E2 := Lib.hid (Probe.Ends.free (key := key) h1 h2)
     have HW3 := Lib.hid (show ∀ (e : Nat), e < d → T[(hm + e) % T.length]? ≠ some 0 from fun e he => by obtain ⟨q, k, a, _⟩ := HW2.out e he; rw [hNd.out, a]; simp)
     clear h1 h2 TB KI HW2 HE2
     go_wp2_with fail
     go_ret2
     refine ⟨d, none, by omega, ?_, ?_, ?_, MR.out⟩
     ·rw [HI.out]; exact E2.out
     ·have := HW3.out; rw [hNd.out] at this; exact this
     ·rw [HI.out]; rfl
end
end Go.Proofs.Ytndekdafiaogmaa.Index
end
section
namespace Go.Proofs.Ytndekdafiaogmaa.Index
open Go Go.RowKit Go.YtndekdafiaogmaaMem Go.YtndekdafiaogmaaLex Go.Proofs.Ytndekdafiaogmaa.Hash Go.Proofs.Ytndekdafiaogmaa.Keys Go.Proofs.Ytndekdafiaogmaa.Probe
def placeOf (S : List (Option (List UInt8))) (key : List UInt8) : Option Nat := S.findIdx? fun k => decide (k = some key)
theorem placeOf_none {S : List (Option (List UInt8))} {key : List UInt8} (h : ∀ (q : Nat), S[q]? ≠ some (some key)) : placeOf S key = none := by
 unfold placeOf
 rw [List.findIdx?_eq_none_iff]
 intro k hk
 obtain ⟨q, hq⟩ := List.getElem?_of_mem hk
 have := h q
 rw [hq] at this
 simpa using this
theorem placeOf_get {S : List (Option (List UInt8))} {key : List UInt8} {p : Nat} (h : placeOf S key = some p) : S[p]? = some (some key) := by
 unfold placeOf at h
 rw [List.findIdx?_eq_some_iff_getElem] at h
 obtain ⟨hp, h1, _⟩ := h
 rw [List.getElem?_eq_getElem hp]
 simpa using h1
def Uniq (S : List (Option (List UInt8))) : Prop := ∀ (p q : Nat) (k : List UInt8), S[p]? = some (some k) → S[q]? = some (some k) → p = q
theorem placeOf_there {S : List (Option (List UInt8))} {key : List UInt8} {p : Nat} (hu : Uniq S) (h : S[p]? = some (some key)) : placeOf S key = some p := by
 cases hp : placeOf S key with
 | none =>
   unfold placeOf at hp
   rw [List.findIdx?_eq_none_iff] at hp
   have := hp _ (List.mem_of_getElem? h)
   simp at this
 | some q => rw [hu q p key (placeOf_get hp) h]
theorem placeOf_no {S : List (Option (List UInt8))} {key : List UInt8} (h : placeOf S key = none) (q : Nat) : S[q]? ≠ some (some key) := fun hq => by
 unfold placeOf at h
 rw [List.findIdx?_eq_none_iff] at h
 have := h _ (List.mem_of_getElem? hq)
 simp at this
def putS (S : List (Option (List UInt8))) (fl : List Nat) (key : List UInt8) : Int × List (Option (List UInt8)) × List Nat :=
 match placeOf S key, fl with
 | none, j :: fl' => if key.length ≤ 64 then ((j : Int), S.set j (some key), fl') else (-1, S, fl)
 | _, _ => (-1, S, fl)
def remS (S : List (Option (List UInt8))) (fl : List Nat) (key : List UInt8) : Int × List (Option (List UInt8)) × List Nat :=
 match placeOf S key with
 | some p => ((p : Int), S.set p none, p :: fl)
 | none => (-1, S, fl)
def IdxAt (w : World) (x g : Nat) (L : List Nat) (r : Row) (S : List (Option (List UInt8))) (fl : List Nat) : Prop :=
 ∃ b1 b2 b3 t bs nx T, L = [x, g, b1, b2, b3, t] ∧ Idx w x g b1 b2 b3 t r S fl bs nx T
theorem IdxAt.mod {S0 : List Nat} {w w' : World} {x g : Nat} {L : List Nat} {r : Row} {S : List (Option (List UInt8))} {fl : List Nat} (h : IdxAt w x g L r S fl) (hm : Mod S0 w w') (h0 : ∀ b, b ∈ L → b ∉ S0) : IdxAt w' x g L r S fl := by
 obtain ⟨b1, b2, b3, t, bs, nx, T, rfl, h⟩ := h
 exact ⟨b1, b2, b3, t, bs, nx, T, rfl, h.mod hm h0⟩
theorem IdxAt.uniq {w : World} {x g : Nat} {L : List Nat} {r : Row} {S : List (Option (List UInt8))} {fl : List Nat} (h : IdxAt w x g L r S fl) : Uniq S := by
 obtain ⟨b1, b2, b3, t, bs, nx, T, rfl, h⟩ := h
 exact h.ix.uniq
section
variable {w : World} {x g : Nat} {L : List Nat} {r : Row} {S : List (Option (List UInt8))} {fl : List Nat}
theorem ends_place {S : List (Option (List UInt8))} {T : List Nat} {key : List UInt8} {i : Nat} {o : Option Nat} (hu : Uniq S) (h : Probe.Ends S T key i o) : o = placeOf S key := by
 cases h with
 | there p h1 h2 => rw [placeOf_there hu h2]
 | free h1 h2 => rw [placeOf_none h2]
theorem find_any (h : IdxAt w x g L r S fl) (key : List UInt8) (hl : key.length ≤ 1000000) :
  Calls Try.prog 65 #[.pointer (some ⟨x, 0, none⟩), .string ⟨key.toArray⟩] w fun e w' => e = .returned (.int .i64 (optInt (placeOf S key))) ∧ Mod [] w w' := by
 have hu := h.uniq
 obtain ⟨b1, b2, b3, t, bs, nx, T, rfl, h⟩ := h
 have K := Lib.hid (look_any h key hl)
 have HU := Lib.hid hu
 obtain ⟨z, hz⟩ : ∃ z, optInt (placeOf S key) = z := ⟨_, rfl⟩
 rw [hz]
 have HZ := Lib.hid hz
 clear h hu hz
 go_enter Try.func65, Try.ntmps65
 go_wp2_with fail
 refine K.out.mono ?_
 rintro e1 w1 ⟨d, o, hd, hE, hw, rfl, hM⟩
 obtain rfl := ends_place HU.out hE
 have MR := Lib.hid hM
 rw [HZ.out]
 clear hd hE hw hM
 generalize (homeOf r T.length key + d) % T.length = i at *
 go_wp2_with fail
 go_ret
 exact ⟨rfl, MR.out⟩
def PutsPost (x g : Nat) (L : List Nat) (r : Row) (res : Int × List (Option (List UInt8)) × List Nat) (w : World) (e : Ending) (w' : World) : Prop :=
 e = .returned (.int .i64 res.1) ∧ IdxAt w' x g L r res.2.1 res.2.2 ∧ Mod L w w'
set_option maxRecDepth 4000 in
set_option maxHeartbeats 1600000 in
theorem put_any (h : IdxAt w x g L r S fl) (key : List UInt8) (hl : key.length ≤ 1000000) :
  Calls Try.prog 68 #[.pointer (some ⟨x, 0, none⟩), .string ⟨key.toArray⟩] w (PutsPost x g L r (putS S fl key) w) := by
 have hu := h.uniq
 have HA := Lib.hid h
 obtain ⟨b1, b2, b3, t, bs, nx, T, rfl, h⟩ := h
 have K := Lib.hid (look_any h key hl)
 have HU := Lib.hid hu
 have HI := Lib.hid h
 have c0 := h.blk.cell (i := 0) rfl
 have c4 := h.blk.cell (i := 4) rfl
 obtain ⟨hf1, hf2⟩ := h.few
 have HB := Lib.hid h.blk
 have HT := Lib.hid h.tab
 have hfew := h.sto.few
 cases hp : placeOf S key with
 | some p =>
   have hr : putS S fl key = (-1, S, fl) := by unfold putS; rw [hp]
   rw [hr]
   clear h hu HI hfew
   go_enter Try.func68, Try.ntmps68
   go_wp2_with fail
   refine K.out.mono ?_
   rintro e1 w1 ⟨d, o, hd, hE, hw, rfl, hM⟩
   obtain rfl := ends_place HU.out hE
   have MR := Lib.hid hM
   have hz : optInt (placeOf S key) = (p : Int) := by rw [hp]; rfl
   rw [hz]
   clear hd hE hw hM hp hr hz
   generalize (homeOf r T.length key + d) % T.length = i at *
   go_wp2_with fail
   go_ret
   exact ⟨rfl, HA.out.mod MR.out (by simp), MR.out.mono (by simp)⟩
 | none =>
   have HP := Lib.hid hp
   by_cases hyes : ∃ j fl', fl = j :: fl' ∧ key.length ≤ 64
   ·obtain ⟨j, fl', rfl, hk⟩ := hyes
    have hr : putS S (j :: fl') key = ((j : Int), S.set j (some key), fl') := by unfold putS; rw [hp]; simp [hk]
    rw [hr]
    have SP := Lib.hid (fun (W : World) (hM : Mod [] w W) => put_yes (h.sto.mod hM (by simp)) key hk)
    have hjn : S[j]? = some none := (h.sto.free 0 j rfl).1
    have hj : j < S.length := (List.getElem?_eq_some_iff.1 hjn).1
    have HJ := Lib.hid hjn
    have hTl : T.length < 2147483648 := by omega
    clear h hu hp hr hjn
    go_enter Try.func68, Try.ntmps68
    go_wp2_with fail
    refine K.out.mono ?_
    rintro e1 w1 ⟨d, o, hd, hE, hw, rfl, hM⟩
    have ho := ends_place HU.out hE
    rw [HP.out] at ho
    subst ho
    have MR := Lib.hid hM
    have h0 : T[(homeOf r T.length key + d) % T.length]? = some 0 := by cases hE; assumption
    have hno : ∀ (q : Nat), S[q]? ≠ some (some key) := by cases hE; assumption
    have HIX := Lib.hid (HI.out.ix.put (key := key) HJ.out hno hd h0 hw)
    obtain ⟨i, hi⟩ : ∃ i, (homeOf r T.length key + d) % T.length = i := ⟨_, rfl⟩
    rw [hi] at h0 HIX ⊢
    have hiT : i < T.length := (List.getElem?_eq_some_iff.1 h0).1
    have e0 := (hM.cell (a := ⟨x, 0, none⟩) HB.out.lt (by simp)).trans c0
    have ho1 : optInt none = -1 := rfl
    rw [ho1]
    have H0 := Lib.hid h0
    clear hd hE hw hM h0 hno hi ho1
    go_wp2_with fail
    refine (SP.out _ MR.out).mono ?_
    rintro e2 w2 ⟨rfl, hS2, hM2⟩
    obtain ⟨n1, n2, n3⟩ := HI.out.ne
    have HN := Lib.hid (And.intro n1 (And.intro n2 n3))
    have hne := HI.out.ne
    simp only [List.mem_cons, List.not_mem_nil, or_false, not_or] at hne
    obtain ⟨n1, ⟨n2, n3, n4, n5⟩, n6, n7, n8, n9⟩ := hne
    have M2 := Lib.hid ((MR.out.mono (S' := [g, b1, b2]) (by simp)).trans hM2)
    have B2 := Lib.hid (M2.out.blk HB.out (by simp [n2, n3, n4]))
    have T2 := Lib.hid (M2.out.blk HT.out (by simp [n6, n7, n8]))
    have k4 := B2.out.cell (i := 4) rfl
    have ci := T2.out.cell (tbl_get H0.out)
    have fi := T2.out.free i
    have HS := Lib.hid hS2
    clear hS2 hM2
    go_wp2_with fail
    go_ret
    refine ⟨rfl, ⟨b1, b2, b3, t, lay bs j key, nx, T.set i (j + 1), rfl, HS.out.mod ((Mod.refl [t] _).setCell (p := ⟨t, i, none⟩) (.inl (by simp)) _) (by simp; omega), ?_, ?_, HI.out.ok, ?_, HI.out.ne⟩, ?_⟩
    ·rw [List.length_set]; exact B2.out.other (a := ⟨t, i, none⟩) n1 _
    ·rw [tbl_set]; exact T2.out.set i _
    ·rw [List.length_set]; exact HIX.out
    ·exact (M2.out.mono (by simp)).setCell (p := ⟨t, i, none⟩) (.inl (by simp)) _
   ·have hr : putS S fl key = (-1, S, fl) := by
     unfold putS; rw [hp]
     cases fl with
     | nil => rfl
     | cons j fl' => simp only; rw [if_neg]; intro hk; exact hyes ⟨j, fl', rfl, hk⟩
    rw [hr]
    have SP : Hid (∀ (W : World), Mod [] w W → Calls Try.prog 92 #[.pointer (some ⟨g, 0, none⟩), .string ⟨key.toArray⟩] W fun e w' => e = .returned (.int .i64 (-1)) ∧ W = w') := by
     refine Lib.hid fun W hM => ?_
     cases fl with
     | nil => exact put_full (h.sto.mod hM (by simp)) key
     | cons j fl' => exact put_long (h.sto.mod hM (by simp)) key (by apply Classical.byContradiction; intro hk; exact hyes ⟨j, fl', rfl, by omega⟩)
    clear h hu hp hr hyes
    go_enter Try.func68, Try.ntmps68
    go_wp2_with fail
    refine K.out.mono ?_
    rintro e1 w1 ⟨d, o, hd, hE, hw, rfl, hM⟩
    have ho := ends_place HU.out hE
    rw [HP.out] at ho
    subst ho
    have MR := Lib.hid hM
    obtain ⟨i, hi⟩ : ∃ i, (homeOf r T.length key + d) % T.length = i := ⟨_, rfl⟩
    rw [hi]
    have e0 := (hM.cell (a := ⟨x, 0, none⟩) HB.out.lt (by simp)).trans c0
    have ho1 : optInt none = -1 := rfl
    rw [ho1]
    clear hd hE hw hM hi ho1
    go_wp2_with fail
    refine (SP.out _ MR.out).mono ?_
    rintro e2 w2 ⟨rfl, rfl⟩
    go_wp2_with fail
    go_ret
    exact ⟨rfl, HA.out.mod MR.out (by simp), MR.out.mono (by simp)⟩
end
end Go.Proofs.Ytndekdafiaogmaa.Index
end
section
namespace Go.Proofs.Ytndekdafiaogmaa.Index
open Go Go.RowKit Go.YtndekdafiaogmaaMem Go.YtndekdafiaogmaaLex Go.Proofs.Ytndekdafiaogmaa.Hash Go.Proofs.Ytndekdafiaogmaa.Keys Go.Proofs.Ytndekdafiaogmaa.Probe
section
variable {w : World} {x g : Nat} {L : List Nat} {r : Row} {S : List (Option (List UInt8))} {fl : List Nat}
set_option maxRecDepth 4000 in
set_option maxHeartbeats 3200000 in
theorem remove_any (h : IdxAt w x g L r S fl) (key : List UInt8) (hl : key.length ≤ 1000000) :
  Calls Try.prog 91 #[.pointer (some ⟨x, 0, none⟩), .string ⟨key.toArray⟩] w (PutsPost x g L r (remS S fl key) w) := by
 have hu := h.uniq
 have HA := Lib.hid h
 obtain ⟨b1, b2, b3, t, bs, nx, T, rfl, h⟩ := h
 have K := Lib.hid (look_any h key hl)
 have HU := Lib.hid hu
 have HI := Lib.hid h
 have c0 := h.blk.cell (i := 0) rfl
 have c4 := h.blk.cell (i := 4) rfl
 obtain ⟨hf1, hf2⟩ := h.few
 have HB := Lib.hid h.blk
 have HT := Lib.hid h.tab
 have hfew := h.sto.few
 have hTS := h.ix.len
 cases hp : placeOf S key with
 | none =>
   have hr : remS S fl key = (-1, S, fl) := by unfold remS; rw [hp]
   rw [hr]
   have HP := Lib.hid hp
   clear h hu HI hfew hr hp hTS
   go_enter Try.func91, Try.ntmps91
   go_wp2_with fail
   go_step3
   go_wp2_with fail
   refine K.out.mono ?_
   rintro e1 w1 ⟨d, o, hd, hE, hw, rfl, hM⟩
   obtain rfl := ends_place HU.out hE
   have MR := Lib.hid hM
   have hz : optInt (placeOf S key) = -1 := by rw [HP.out]; rfl
   rw [hz]
   clear hd hE hw hM hz
   generalize (homeOf r T.length key + d) % T.length = i at *
   go_wp2_with fail
   go_ret
   exact ⟨rfl, HA.out.mod MR.out (by simp), MR.out.mono (by simp)⟩
 | some p =>
   have hr : remS S fl key = ((p : Int), S.set p none, p :: fl) := by unfold remS; rw [hp]
   rw [hr]
   have HP := Lib.hid hp
   have hps := placeOf_get hp
   have hpl : p < S.length := (List.getElem?_eq_some_iff.1 hps).1
   have HPS := Lib.hid hps
   have FR := Lib.hid (fun (W : World) (hM : Mod [] w W) => free_any (h.sto.mod hM (by simp)) p key hps)
   have hne := h.ne
   simp only [List.mem_cons, List.not_mem_nil, or_false, not_or] at hne
   obtain ⟨n1, ⟨n2, n3, n4, n5⟩, n6, n7, n8, n9⟩ := hne
   obtain ⟨N, hN⟩ : ∃ N, T.length = N := ⟨_, rfl⟩
   have HNN := Lib.hid hN
   have hok := h.ok
   rw [hN] at hf1 hf2 c4
   have HB' := HB.out
   rw [hN] at HB'
   have HB2 := Lib.hid HB'
   have hSN : S.length < N := by omega
   have HTS := Lib.hid hTS
   clear h hu hp hr hps hN hTS HB' HB
   go_enter Try.func91, Try.ntmps91
   go_wp2_with fail
   go_step3
   go_wp2_with fail
   refine K.out.mono ?_
   rintro e1 w1 ⟨d, o, hd, hE, hw, rfl, hM⟩
   have ho := ends_place HU.out hE
   rw [HP.out] at ho
   subst ho
   have MR := Lib.hid hM
   have h0 : T[(homeOf r T.length key + d) % T.length]? = some (p + 1) := by cases hE; assumption
   rw [HNN.out] at h0 ⊢
   obtain ⟨i0, hi⟩ : ∃ i, (homeOf r N key + d) % N = i := ⟨_, rfl⟩
   rw [hi] at h0 ⊢
   have hiT : i0 < N := by rw [← HNN.out]; exact (List.getElem?_eq_some_iff.1 h0).1
   have e0 := (hM.cell (a := ⟨x, 0, none⟩) HB2.out.lt (by simp)).trans c0
   have e4 := (hM.cell (a := ⟨x, 4, none⟩) HB2.out.lt (by simp)).trans c4
   have ho1 : optInt (some p) = (p : Int) := rfl
   rw [ho1]
   obtain ⟨u0, hH⟩ := HI.out.ix.out h0 HPS.out
   rw [HNN.out] at hH
   have HH := Lib.hid hH
   have H0 := Lib.hid h0
   clear hd hE hw hM h0 hi ho1 hH c0 c4
   go_wp2_with fail
   refine (FR.out _ MR.out).mono ?_
   rintro e2 w2 ⟨rfl, hS2, hM2⟩
   have M2 := Lib.hid ((MR.out.mono (S' := [g, b2, b3]) (by simp)).trans hM2)
   have B2 := Lib.hid (M2.out.blk HB2.out (by simp [n2, n4, n5]))
   have T2 := Lib.hid (M2.out.blk HT.out (by simp [n6, n8, n9]))
   have k4 := B2.out.cell (i := 4) rfl
   have ci := T2.out.cell (tbl_get H0.out)
   have fi := T2.out.free i0
   have HS := Lib.hid hS2
   clear hS2 hM2 e0 e4
   go_wp2_with fail
   obtain ⟨z, hz⟩ : ∃ z, (i0 + u0) % N = z := ⟨_, rfl⟩
   obtain ⟨a1, ha1⟩ : ∃ a1, (i0 + 1) % N = a1 := ⟨_, rfl⟩
   have hst : ((i0 : Int) + 1).tmod N = (a1 : Int) := by
    rw [Int.tmod_eq_emod_of_nonneg (by omega), ← ha1]; simp
   have HZ := Lib.hid hz
   have HA1 := Lib.hid ha1
   obtain ⟨w3, hw3⟩ : ∃ w3, w2.setCell ⟨t, i0, none⟩ (.int .i32 0) = w3 := ⟨_, rfl⟩
   rw [hw3]
   have T3 : Hid (Blk w3 t 21 (tbl (T.set i0 0))) := Lib.hid (by rw [← hw3, tbl_set]; exact T2.out.set i0 _)
   have M3 : Hid (Mod [t] w2 w3) := Lib.hid (by rw [← hw3]; exact (Mod.refl [t] _).setCell (p := ⟨t, i0, none⟩) (.inl (by simp)) _)
   have B3 := Lib.hid (M3.out.blk B2.out (by simp [n1]))
   have S3 := Lib.hid (HS.out.mod M3.out (by simp; omega))
   clear hz ha1 hw3 k4 ci fi
   go_step3
   go_wp2_with fail
   go_loopw [5, 8] (fun iv av wr => ∃ (i s u a : Nat) (T' : List Nat), T'.length = N ∧ Hole (homeOf r N) (S.set p none) T' i s u ∧ (i + u) % N = z ∧ (i + s) % N = a ∧ iv = .int .i64 (i : Int) ∧ av = .int .i64 (a : Int) ∧ Blk wr t 21 (tbl T') ∧ Mod [t] w3 wr) (fun _ av _ => (z + N - (intOf av).toNat) % N)
   case atStart => exact ⟨i0, 1, u0, a1, T.set i0 0, by rw [List.length_set]; exact HNN.out, HH.out, HZ.out, HA1.out, rfl, rfl, T3.out, Mod.refl _ _⟩
   case round =>
    obtain ⟨i, s, u, a, T', hT', hH, hz, ha, rfl, rfl, hB, hM⟩ := hrel
    have hN0 : 0 < N := by omega
    have hil : i < N := by rw [← hT']; exact hH.ilt
    have hal : a < N := by rw [← ha]; exact Nat.mod_lt _ hN0
    have hs0 := hH.pos
    have hsu := hH.le
    have hun : u < N := by rw [← hT']; exact hH.lt
    have hdd : (z + N - a) % N = u - s := by rw [← hz, ← ha]; exact dist_down hsu hun
    obtain ⟨a2, ha2⟩ : ∃ a2, (a + 1) % N = a2 := ⟨_, rfl⟩
    have hnx : ((a : Int) + 1).tmod N = (a2 : Int) := by
     rw [Int.tmod_eq_emod_of_nonneg (by omega), ← ha2]; simp
    have ha3 : (i + (s + 1)) % N = a2 := by rw [← ha2, ← ha, step_mod]
    have HDD := Lib.hid hdd
    have HA2 := Lib.hid ha2
    have HA3 := Lib.hid ha3
    have HHr := Lib.hid hH
    have HBr := Lib.hid hB
    have MR := Lib.hid hM
    have HZr := Lib.hid hz
    have HAr := Lib.hid ha
    have HTr := Lib.hid hT'
    have k0 := (hM.blk B3.out (by simp [n1])).cell (i := 0) rfl
    have k4 := (hM.blk B3.out (by simp [n1])).cell (i := 4) rfl
    obtain ⟨c, hc⟩ : ∃ c, T'[a]? = some c := ⟨_, List.getElem?_eq_getElem (by omega)⟩
    have ca := hB.cell (tbl_get hc)
    have ca' := hB.free a
    have ci' := hB.free i
    have HC := Lib.hid hc
    clear hH hB hM hz ha hT' hdd ha2 ha3 hc HNN HTS HI HT HPS HP K HU HA HH H0 T2 B2 T3 HA1 HZ
    cases c with
    | zero =>
      have ca2 : wr.cell? ⟨t, a, none⟩ = some (.int .i32 0) := ca
      clear ca
      go_wp2_with fail
      try rw [Exit.noGoto_ret]
      go_ret
      refine ⟨rfl, ⟨b1, b2, b3, t, bs, _, T', rfl, S3.out.mod MR.out (by simp; omega), ?_, HBr.out, hok, ?_, by simp; omega⟩, ?_⟩
      ·rw [HTr.out]; exact MR.out.blk B3.out (by simp [n1])
      ·have h1 := HHr.out
       rw [HTr.out]
       refine h1.done ?_
       rw [HTr.out, HAr.out]; exact HC.out
      ·exact (M2.out.mono (by simp)).trans ((M3.out.trans MR.out).mono (by simp))
    | succ q =>
      have ca2 : wr.cell? ⟨t, a, none⟩ = some (.int .i32 ((q : Int) + 1)) := by rw [ca]; simp
      obtain ⟨k, hk⟩ := HHr.out.ofT a q HC.out
      have hq : q < S.length := by have := (List.getElem?_eq_some_iff.1 hk).1; rwa [List.length_set] at this
      have hCa : T'[(i + s) % T'.length]? = some (q + 1) := by rw [HTr.out, HAr.out]; exact HC.out
      obtain ⟨d, hd, hda, hdw⟩ := HHr.out.way hCa hk
      rw [HTr.out, HAr.out] at hda
      rw [HTr.out] at hd
      obtain ⟨hm, hhm⟩ : ∃ hm, homeOf r N k = hm := ⟨_, rfl⟩
      have hm0 : hm < N := by rw [← hhm]; exact place_lt (r.of_lt k) hN0
      have hkl := (S3.out.key q k hk).1
      have KK : Hid (∀ (W : World), Mod [] wr W → Calls Try.prog 90 #[.pointer (some ⟨g, 0, none⟩), .int .i64 q] W fun e w' => e = .returned (.tuple #[.string ⟨k.toArray⟩, .bool true]) ∧ Mod [] W w') := Lib.hid fun W hM => by
       have := key_any (S3.out.mod (MR.out.trans (hM.mono (by simp))) (by simp; omega)) (q : Int)
       rw [keyOf_some hk] at this
       exact this
      have KH : Hid (∀ (W : World), Mod [] wr W → Calls Try.prog 99 #[.pointer (some ⟨x, 0, none⟩), .string ⟨k.toArray⟩] W fun e w' => e = .returned (.int .i64 (hm : Nat)) ∧ Mod [] W w') := Lib.hid fun W hM => by
       have := home_blk ((MR.out.trans (hM.mono (by simp))).blk B3.out (by simp [n1])) hok hf1 hN0 k (by omega)
       rw [hhm] at this
       exact this
      rw [hhm] at hda
      have e1 : ((a : Int) - hm + N).tmod N = (d : Int) := by
       rw [Int.tmod_eq_emod_of_nonneg (by omega)]
       have := dist_mod (N := N) hm0 hd
       rw [hda] at this
       rw [show (a : Int) - hm + N = ((a + N - hm : Nat) : Int) by omega, ← this]; simp
      have e2 : ((a : Int) - i + N).tmod N = (s : Int) := by
       rw [Int.tmod_eq_emod_of_nonneg (by omega)]
       have := dist_mod (N := N) hil (show s < N by omega)
       rw [HAr.out] at this
       rw [show (a : Int) - i + N = ((a + N - i : Nat) : Int) by omega, ← this]; simp
      have hmo := HHr.out.more hCa
      have HK := Lib.hid hk
      have HCA := Lib.hid hCa
      have HDA := Lib.hid (hhm ▸ hda : (homeOf r N k + d) % N = a)
      clear ca hdw hhm hda hk hCa S3
      by_cases hds : d < s
      ·have hdi : decide ((d : Int) < s) = true := by simp; omega
       go_wp2_with fail
       refine wp_region_lex (by kernel_rfl) (by kernel_rfl) ?_
       go_wp2_with fail
       refine (KK.out _ (Mod.drew (Mod.refl _ _))).mono ?_
       rintro e4 w4 ⟨rfl, hM4⟩
       have M4 := Lib.hid ((Mod.drew (Mod.refl [] wr)).trans hM4)
       clear hM4
       go_wp2_with fail
       refine ⟨by kernel_rfl, ?_⟩
       go_wp2_with fail
       refine (KH.out _ M4.out).mono ?_
       rintro e5 w5 ⟨rfl, hM5⟩
       have M5 := Lib.hid (M4.out.trans hM5)
       clear hM5
       go_wp2_with fail
       refine wp_region_lex (by kernel_rfl) (by kernel_rfl) ?_
       go_wp2_with fail
       refine ⟨by kernel_rfl, ?_⟩
       go_wp2_with fail
       have HH2 := Lib.hid (HHr.out.skip HCA.out HK.out (by rw [HTr.out, HAr.out]; exact HDA.out) hds)
       go_roundw
       case rel => exact ⟨i, s + 1, u, a2, T', HTr.out, HH2.out, HZr.out, HA3.out, rfl, rfl, M5.out.drew.blk HBr.out (by simp), (MR.out.trans (M5.out.mono (by simp))).drew⟩
       case measure =>
        have b1 := HDD.out
        have b2 : (z + N - a2) % N = u - (s + 1) := by rw [← HZr.out, ← HA3.out]; exact dist_down (by omega) hun
        simp only [intOf, Int.toNat_natCast]
        rw [b1, b2]; omega
      ·have hdi : decide ((d : Int) < s) = false := by simp; omega
       have hCI : T'[i]? = some 0 := HHr.out.hole
       have HH2 := Lib.hid (HHr.out.move HCA.out HK.out (by rw [HTr.out]; exact hd) (by rw [HTr.out, HAr.out]; exact HDA.out) (by omega))
       have hau : (a + (u - s)) % N = z := by rw [← HZr.out, ← HAr.out, Nat.mod_add_mod]; congr 1; omega
       have HAU := Lib.hid hau
       have hne : i ≠ a := fun e => by have := HC.out; rw [← e, hCI] at this; simp at this
       have hia : ((⟨t, i, none⟩ : Addr) == ⟨t, a, none⟩) = false := by simp [hne]
       have hne2 : ¬ a = i := fun e => hne e.symm
       have HCI := Lib.hid hCI
       clear hau hCI
       go_wp2_with fail
       refine wp_region_lex (by kernel_rfl) (by kernel_rfl) ?_
       go_wp2_with fail
       refine (KK.out _ (Mod.drew (Mod.refl _ _))).mono ?_
       rintro e4 w4 ⟨rfl, hM4⟩
       have M4 := Lib.hid ((Mod.drew (Mod.refl [] wr)).trans hM4)
       clear hM4
       go_wp2_with fail
       refine ⟨by kernel_rfl, ?_⟩
       go_wp2_with fail
       refine (KH.out _ M4.out).mono ?_
       rintro e5 w5 ⟨rfl, hM5⟩
       have M5 := Lib.hid (M4.out.trans hM5)
       have m4 := (((MR.out.trans (M5.out.mono (by simp))).blk B3.out (by simp [n1]))).cell (i := 4) rfl
       have BT := Lib.hid (M5.out.blk HBr.out (by simp))
       have ma := BT.out.cell (i := a) (v := .int .i32 ((q : Int) + 1)) (by rw [tbl_get HC.out]; simp)
       have mi := BT.out.cell (i := i) (v := .int .i32 0) (by rw [tbl_get HCI.out]; simp)
       have fa := BT.out.free a
       have fi := BT.out.free i
       clear hM5
       go_wp2_with fail
       refine wp_region_lex (by kernel_rfl) (by kernel_rfl) ?_
       go_wp2_with fail
       refine ⟨by kernel_rfl, ?_⟩
       go_wp2_with fail
       refine wp_region_lex (by kernel_rfl) (by kernel_rfl) ?_
       go_wp2_with fail
       refine ⟨by kernel_rfl, ?_⟩
       go_wp2_with fail
       have hMM : ∀ W, Mod [] wr W → Mod [t] w3 W := fun W hW => MR.out.trans (hW.mono (by simp))
       obtain ⟨a3, ha3⟩ : ∃ a3, (a + 1) % N = a3 := ⟨_, rfl⟩
       obtain rfl : a3 = a2 := by rw [← ha3, HA2.out]
       go_roundw
       case rel =>
        refine ⟨a, 1, u - s, a3, (T'.set i (q + 1)).set a 0, by rw [List.length_set, List.length_set]; exact HTr.out, ?_, HAU.out, HA2.out, rfl, rfl, ?_, ?_⟩
        ·have := HH2.out; rw [HTr.out, HAr.out] at this; exact this
        ·rw [tbl_set, tbl_set]
         exact ((BT.out.drew.set i _).set a _).drew
        ·exact (((hMM _ M5.out.drew).setCell (p := ⟨t, i, none⟩) (.inl (by simp)) _).setCell (p := ⟨t, a, none⟩) (.inl (by simp)) _).drew
       case measure =>
        have b1 := HDD.out
        have b2 : (z + N - a3) % N = u - s - 1 := by rw [← HAU.out, ← HA2.out]; exact dist_down (by omega) (by omega)
        simp only [intOf, Int.toNat_natCast]
        rw [b1, b2]; omega
end
end Go.Proofs.Ytndekdafiaogmaa.Index
end
section
namespace Go.Proofs.Ytndekdafiaogmaa.Index
open Go Go.RowKit Go.YtndekdafiaogmaaMem Go.YtndekdafiaogmaaLex Go.Proofs.Ytndekdafiaogmaa.Hash Go.Proofs.Ytndekdafiaogmaa.Keys Go.Proofs.Ytndekdafiaogmaa.Probe
theorem size_any (n : Nat) (hn : n ≤ 1000000) (w : World) : Calls Try.prog 87 #[.int .i64 n] w fun e w' => e = .returned (.int .i64 ((2 * n + 1 : Nat) : Int)) ∧ w = w' := by
 have e1 : ((2 * n + 1 : Nat) : Int) = 2 * (n : Int) + 1 := by omega
 rw [e1]
 go_enter Try.func87, Try.ntmps87
 go_wp2_with fail
 go_ret
 exact ⟨rfl, rfl⟩
theorem ix_empty (hm : List UInt8 → Nat) {S : List (Option (List UInt8))} (hS : ∀ (p : Nat) (k : List UInt8), S[p]? ≠ some (some k)) : Ix hm S (List.replicate (2 * S.length + 1) 0) := by
 have hz : ∀ (i p : Nat), (List.replicate (2 * S.length + 1) 0)[i]? ≠ some (p + 1) := fun i p h => by
  rw [List.getElem?_replicate] at h
  split at h <;> simp at h
 exact ⟨List.length_replicate, fun i p h => absurd h (hz i p), fun p k h => absurd h (hS p k), fun i j p h => absurd h (hz i p), fun p q k h => absurd h (hS p k)⟩
def MadePost (g : Nat) (B : List Nat) (r : Row) (S : List (Option (List UInt8))) (fl : List Nat) (w : World) (e : Ending) (w' : World) : Prop :=
 ∃ x L, e = .returned (.pointer (some ⟨x, 0, none⟩)) ∧ IdxAt w' x g L r S fl ∧ (∀ b, b ∈ L → b ∈ B ∨ w.heap.size ≤ b) ∧ w.heap.size ≤ x ∧ Mod [] w w'
theorem sto_lt {w : World} {g b1 b2 b3 : Nat} {S : List (Option (List UInt8))} {fl : List Nat} {bs : List UInt8} {nx : List Int} (h : Sto w g b1 b2 b3 S fl bs nx) : ∀ b, b ∈ [g, b1, b2, b3] → b < w.heap.size := by
 intro b hb
 simp at hb
 rcases hb with rfl | rfl | rfl | rfl
 ·exact h.blk.lt
 ·exact h.bytes.lt
 ·exact h.sizes.lt
 ·exact h.nexts.lt
set_option maxRecDepth 4000 in
set_option maxHeartbeats 1600000 in
theorem new_any {w : World} {g b1 b2 b3 : Nat} {S : List (Option (List UInt8))} {fl : List Nat} {bs : List UInt8} {nx : List Int} (h : Sto w g b1 b2 b3 S fl bs nx) (hS : ∀ (p : Nat) (k : List UInt8), S[p]? ≠ some (some k)) (r : Row) (hr : r.ok) :
  Calls Try.prog 62 #[.pointer (some ⟨g, 0, none⟩), .agg #[.int .u64 (r.x : Int), .int .u64 (r.a : Int), .int .u64 (r.b : Int)]] w (MadePost g [g, b1, b2, b3] r S fl w) := by
 have hlt := sto_lt h
 have hfew := h.few
 have HL := Lib.hid (fun (W : World) (hM : Mod [] w W) => len_any (h.mod hM (by simp)))
 have HS := Lib.hid h
 have HE := Lib.hid (ix_empty (homeOf r (2 * S.length + 1)) hS)
 obtain ⟨n, hn⟩ : ∃ n, S.length = n := ⟨_, rfl⟩
 rw [hn] at hfew HL HE
 have HZ := Lib.hid (fun (W : World) => size_any n (by omega) W)
 obtain ⟨N, hN⟩ : ∃ N, 2 * n + 1 = N := ⟨_, rfl⟩
 rw [hN] at HE HZ
 have HNN := Lib.hid hN
 have HLN := Lib.hid hn
 have hN2 : N ≤ 4001 := by omega
 have m1 := run_make_row' (P := Try.prog) 126 21 (.int .i32 0) 4 Try.underlying126 i32_info rfl .i64 .i64 N (by omega) (by omega)
 obtain ⟨L1, h1⟩ : ∃ L1, tbl (List.replicate N 0) = L1 := ⟨_, rfl⟩
 have q1 : madeCells #[.int .i32 0] N = L1.toArray := by
  rw [← Array.toArray_toList (xs := madeCells _ _), toList_madeCells_one, ← h1]; unfold tbl; rw [List.map_replicate]; rfl
 rw [q1] at m1
 have H1 := Lib.hid h1
 have HLT := Lib.hid hlt
 clear h hS hn hN h1 q1 hlt
 obtain ⟨rx, ra, rb⟩ := r
 have HR := Lib.hid hr
 have HB := Lib.hid (Blk.new w [.int .u64 (rx : Int), .int .u64 (ra : Int), .int .u64 (rb : Int)] 75)
 have k0 := HB.out.cell (i := 0) rfl
 have k1 := HB.out.cell (i := 1) rfl
 have k2 := HB.out.cell (i := 2) rfl
 have M0 := Lib.hid ((Mod.refl [] w).alloc (.cells [.int .u64 (rx : Int), .int .u64 (ra : Int), .int .u64 (rb : Int)].toArray 75))
 clear hr
 simp only at *
 go_enter Try.func62, Try.ntmps62
 go_wp2_with fail
 refine Go.YtndekdafiaogmaaLex.wp_region_held [4, 1] [1] [] (by kernel_rfl) (by kernel_rfl) ?_
 simp only [wpCut, List.take_succ_cons, List.take_zero, List.drop_succ_cons, List.drop_zero, List.cons_append, List.nil_append]
 go_wp2_with fail
 refine (HL.out _ M0.out.drew).mono ?_
 rintro e1 w1 ⟨rfl, rfl⟩
 go_wp2_with fail
 refine ⟨Mod.refl _ _, ?_⟩
 go_wp2_with fail
 refine (HZ.out _).mono ?_
 rintro e1 w1 ⟨rfl, rfl⟩
 go_wp2_with fail
 refine ⟨Mod.refl _ _, ?_⟩
 have isc : IsC (w.alloc (.cells #[.int .u64 (rx : Int), .int .u64 (ra : Int), .int .u64 (rb : Int)] 75)).drew w.heap.size := isC_of_cell (w := w.alloc _) k0
 have IS := Lib.hid isc
 clear isc
 go_wp2_with fail
 refine ⟨by kernel_rfl, ⟨⟨by simp, IS.out⟩, trivial⟩, ?_⟩
 go_wp2_with fail
 go_ret
 have hl := HLT.out
 obtain ⟨W1, hW1⟩ : ∃ W1, w.alloc (.cells #[.int .u64 (rx : Int), .int .u64 (ra : Int), .int .u64 (rb : Int)] 75) = W1 := ⟨_, rfl⟩
 have hs1 : W1.heap.size = w.heap.size + 1 := by rw [← hW1]; simp
 have M1 : Mod [] w W1 := by rw [← hW1]; exact (Mod.refl [] w).alloc _
 rw [hW1]
 have B1 := (Blk.new W1 L1 21)
 rw [hs1] at B1
 obtain ⟨W2, hW2⟩ : ∃ W2, W1.alloc (.cells L1.toArray 21) = W2 := ⟨_, rfl⟩
 have hs2 : W2.heap.size = w.heap.size + 1 + 1 := by rw [← hW2]; simp [hs1]
 have M2 : Mod [] w W2 := by rw [← hW2]; exact M1.alloc _
 rw [hW2] at B1 ⊢
 have B2 := (Blk.new W2 [.pointer (some ⟨g, 0, none⟩), .int .u64 (rx : Int), .int .u64 (ra : Int), .int .u64 (rb : Int), .slice (some ⟨w.heap.size + 1, 0, none⟩) N N] 146)
 rw [hs2] at B2
 have M3 := (M2.alloc (.cells #[.pointer (some ⟨g, 0, none⟩), .int .u64 (rx : Int), .int .u64 (ra : Int), .int .u64 (rb : Int), .slice (some ⟨w.heap.size + 1, 0, none⟩) N N] 146)).drew
 refine ⟨w.heap.size + 1 + 1, [w.heap.size + 1 + 1, g, b1, b2, b3, w.heap.size + 1], rfl, ⟨b1, b2, b3, w.heap.size + 1, bs, nx, List.replicate N 0, rfl, HS.out.mod M3 (by simp), ?_, ?_, HR.out, ?_, ?_⟩, ?_, by omega, M3⟩
 ·rw [List.length_replicate]; exact B2.drew
 ·rw [H1.out]; exact (B1.alloc _).drew
 ·rw [List.length_replicate]
  exact HE.out
 ·refine ⟨by omega, fun hm => ?_, fun hm => ?_⟩
  ·have := hl _ hm; omega
  ·have := hl _ hm; omega
 ·intro b hb
  simp at hb
  rcases hb with rfl | rfl | rfl | rfl | rfl | rfl
  ·exact .inr (by omega)
  ·exact .inl (by simp)
  ·exact .inl (by simp)
  ·exact .inl (by simp)
  ·exact .inl (by simp)
  ·exact .inr (by omega)
end Go.Proofs.Ytndekdafiaogmaa.Index
end
section
namespace Go.Proofs.Ytndekdafiaogmaa.Index
open Go Go.RowKit Go.YtndekdafiaogmaaMem Go.YtndekdafiaogmaaLex Go.Proofs.Ytndekdafiaogmaa.Hash Go.Proofs.Ytndekdafiaogmaa.Keys Go.Proofs.Ytndekdafiaogmaa.Probe
def emp (n : Nat) : List (Option (List UInt8)) := List.replicate n none
theorem emp_no (n p : Nat) (k : List UInt8) : (emp n)[p]? ≠ some (some k) := by
 intro h
 unfold emp at h
 rw [List.getElem?_replicate] at h
 split at h <;> simp at h
theorem IdxAt.lt {w : World} {x g : Nat} {L : List Nat} {r : Row} {S : List (Option (List UInt8))} {fl : List Nat} (h : IdxAt w x g L r S fl) : ∀ b, b ∈ L → b < w.heap.size := by
 obtain ⟨b1, b2, b3, t, bs, nx, T, rfl, h⟩ := h
 intro b hb
 have hl := sto_lt h.sto
 simp at hb
 rcases hb with rfl | rfl | rfl | rfl | rfl | rfl
 ·exact h.blk.lt
 ·exact hl _ (by simp)
 ·exact hl _ (by simp)
 ·exact hl _ (by simp)
 ·exact hl _ (by simp)
 ·exact h.tab.lt
theorem new_at {w : World} {g b1 b2 b3 n : Nat} {bs : List UInt8} {nx : List Int} (h : Sto w g b1 b2 b3 (List.replicate n none) (List.range n) bs nx) (r : Row) (hr : r.ok) :
  Calls Try.prog 62 #[.pointer (some ⟨g, 0, none⟩), .agg #[.int .u64 (r.x : Int), .int .u64 (r.a : Int), .int .u64 (r.b : Int)]] w (MadePost g [g, b1, b2, b3] r (emp n) (List.range n) w) :=
 new_any h (emp_no n) r hr
end Go.Proofs.Ytndekdafiaogmaa.Index
end
section
namespace Go.Proofs.Ytndekdafiaogmaa.Index
open Go Go.RowKit Go.YtndekdafiaogmaaMem Go.YtndekdafiaogmaaLex Go.Proofs.Ytndekdafiaogmaa.Hash Go.Proofs.Ytndekdafiaogmaa.Keys Go.Proofs.Ytndekdafiaogmaa.Probe
def Whole (n : Nat) (S : List (Option (List UInt8))) (fl : List Nat) : Prop := S.length = n ∧ fl.length + used S = n
theorem IdxAt.free0 {w : World} {x g : Nat} {L : List Nat} {r : Row} {S : List (Option (List UInt8))} {j : Nat} {fl : List Nat} (h : IdxAt w x g L r S (j :: fl)) : S[j]? = some none := by
 obtain ⟨b1, b2, b3, t, bs, nx, T, rfl, h⟩ := h
 exact (h.sto.free 0 j rfl).1
theorem IdxAt.short {w : World} {x g : Nat} {L : List Nat} {r : Row} {S : List (Option (List UInt8))} {fl : List Nat} (h : IdxAt w x g L r S fl) {p : Nat} {k : List UInt8} (hp : S[p]? = some (some k)) : k.length ≤ 64 := by
 obtain ⟨b1, b2, b3, t, bs, nx, T, rfl, h⟩ := h
 exact (h.sto.key p k hp).1
theorem IdxAt.few {w : World} {x g : Nat} {L : List Nat} {r : Row} {S : List (Option (List UInt8))} {fl : List Nat} (h : IdxAt w x g L r S fl) : S.length ≤ 2000 := by
 obtain ⟨b1, b2, b3, t, bs, nx, T, rfl, h⟩ := h
 exact h.sto.few
theorem whole_emp (n : Nat) : Whole n (emp n) (List.range n) := by
 refine ⟨by simp [emp], ?_⟩
 have : used (emp n) = 0 := by unfold used emp; rw [List.countP_eq_zero]; intro x hx; rw [List.eq_of_mem_replicate hx]; simp
 rw [this, List.length_range, Nat.add_zero]
theorem whole_set {n : Nat} {S : List (Option (List UInt8))} {j : Nat} {fl : List Nat} {key : List UInt8} (h : Whole n S (j :: fl)) (hj : S[j]? = some none) : Whole n (S.set j (some key)) fl ∧ used (S.set j (some key)) = used S + 1 := by
 have h1 := used_set_some S j key hj
 obtain ⟨h2, h3⟩ := h
 simp only [List.length_cons] at h3
 exact ⟨⟨by rw [List.length_set]; exact h2, by omega⟩, h1⟩
theorem whole_del {n : Nat} {S : List (Option (List UInt8))} {p : Nat} {fl : List Nat} {key : List UInt8} (h : Whole n S fl) (hp : S[p]? = some (some key)) : Whole n (S.set p none) (p :: fl) ∧ used (S.set p none) = used S - 1 ∧ 1 ≤ used S := by
 have h1 := used_set_none S p key hp
 obtain ⟨h2, h3⟩ := h
 exact ⟨⟨by rw [List.length_set]; exact h2, by simp only [List.length_cons]; omega⟩, by omega, by omega⟩
section
variable {w : World} {x g : Nat} {L : List Nat} {r : Row} {S : List (Option (List UInt8))} {fl : List Nat}
theorem used_at (h : IdxAt w x g L r S fl) : Calls Try.prog 82 #[.pointer (some ⟨g, 0, none⟩)] w fun e w' => e = .returned (.int .i64 (used S : Nat)) ∧ w = w' := by
 obtain ⟨b1, b2, b3, t, bs, nx, T, rfl, h⟩ := h
 exact used_any h.sto
end
theorem putS_there {S : List (Option (List UInt8))} {fl : List Nat} {key : List UInt8} {p : Nat} (h : placeOf S key = some p) : putS S fl key = (-1, S, fl) := by unfold putS; rw [h]
theorem putS_no {S : List (Option (List UInt8))} {fl : List Nat} {key : List UInt8} (h : placeOf S key = none) (h2 : fl.length = 0 ∨ 64 < key.length) : putS S fl key = (-1, S, fl) := by
 unfold putS; rw [h]
 cases fl with
 | nil => rfl
 | cons f0 fl' =>
   simp only [List.length_cons] at h2
   simp only
   rw [if_neg (by omega)]
theorem putS_yes {S : List (Option (List UInt8))} {f0 : Nat} {fl' : List Nat} {key : List UInt8} (h : placeOf S key = none) (h2 : key.length ≤ 64) : putS S (f0 :: fl') key = ((f0 : Int), S.set f0 (some key), fl') := by
 unfold putS; rw [h]; simp only; rw [if_pos h2]
end Go.Proofs.Ytndekdafiaogmaa.Index
end
