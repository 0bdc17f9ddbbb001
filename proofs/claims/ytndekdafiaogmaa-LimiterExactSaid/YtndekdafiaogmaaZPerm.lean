/- A region's operations in another order of their text: what serves all orders of the one serves all orders of the other. For any program. -/
import Derived.Test.YtndekdafiaogmaaZLow
set_option linter.unusedSimpArgs false
set_option linter.unusedVariables false
section
namespace Go.YtndekdafiaogmaaLex
open Go Go.YtndekdafiaogmaaMem
def posOf (L : List Nat) (i : Nat) : Nat := L.idxOf i
def reGuard (L : List Nat) : Option (Nat × Bool) → Option (Nat × Bool)
 | none => none
 | some (k, b) => some (posOf L k, b)
def reOper (L : List Nat) (o : Oper) : Oper := { dst := o.dst, op := o.op, type := o.type, pos := o.pos, after := o.after.map fun e => ⟨posOf L e.on, e.ground⟩, guard := reGuard L o.guard }
def perm (L : List Nat) (l : List Oper) : List Nat → List Oper
 | [] => []
 | k :: S => match l[k]? with
   | some o => reOper L o :: perm L l S
   | none => perm L l S
def permB (l : List Oper) (L : List Nat) : Bool :=
 (L.length == l.length) && L.all (fun k => decide (k < l.length)) && ((List.range l.length).all fun i => L[posOf L i]? == some i) && ((List.range l.length).all fun j => match L[j]? with | some i => posOf L i == j | none => false) &&
 (l.all fun o => o.after.toList.all (fun e => decide (e.on < l.length)) && (match o.guard with | none => true | some (k, _) => decide (k < l.length)))
theorem perm_get (L : List Nat) (l : List Oper) : ∀ (S : List Nat), (∀ k ∈ S, k < l.length) → ∀ j : Nat, (perm L l S)[j]? = (S[j]?).bind fun k => (l[k]?).map (reOper L)
 | [], h, j => by simp [perm]
 | k :: S, h, j => by
   have hk := h k (by simp)
   have ih := perm_get L l S (fun k hk => h k (by simp [hk]))
   have e : l[k]? = some (l[k]) := List.getElem?_eq_getElem hk
   have e2 : perm L l (k :: S) = reOper L l[k] :: perm L l S := by rw [perm, e]
   rw [e2]
   cases j with
   | zero => simp [e]
   | succ j => simpa using ih j
section
variable {P : Program} {Q : Exit → Act → World → Prop} {l : List Oper} {L : List Nat}
structure Perm (l : List Oper) (L : List Nat) : Prop where
 len : L.length = l.length
 lt : ∀ k ∈ L, k < l.length
 there : ∀ i, i < l.length → L[posOf L i]? = some i
 back : ∀ j, j < l.length → ∃ i, L[j]? = some i ∧ posOf L i = j
 edge : ∀ o ∈ l, ∀ e ∈ o.after, e.on < l.length
 guard : ∀ o ∈ l, ∀ k b, o.guard = some (k, b) → k < l.length
theorem perm_of (h : permB l L = true) : Perm l L := by
 unfold permB at h
 simp only [Bool.and_eq_true, beq_iff_eq, List.all_eq_true, decide_eq_true_eq, List.mem_range] at h
 obtain ⟨⟨⟨⟨h1, h2⟩, h3⟩, h4⟩, h5⟩ := h
 refine ⟨h1, h2, h3, fun j hj => ?_, fun o ho e he => (h5 o ho).1 e (Array.mem_toList_iff.2 he), fun o ho k b hg => ?_⟩
 ·have := h4 j hj
  cases hL : L[j]? with
  | none => rw [hL] at this; simp at this
  | some i => rw [hL] at this; exact ⟨i, rfl, by simpa using this⟩
 ·have := (h5 o ho).2
  rw [hg] at this
  simpa using this
theorem Perm.get (h : Perm l L) {i : Nat} {o : Oper} (ho : l[i]? = some o) : (perm L l L)[posOf L i]? = some (reOper L o) := by
 have hi := (List.getElem?_eq_some_iff.1 ho).1
 rw [perm_get L l L h.lt, h.there i hi]
 simp [ho]
theorem Perm.of_get (h : Perm l L) {j : Nat} {o' : Oper} (ho : (perm L l L)[j]? = some o') : ∃ i o, posOf L i = j ∧ l[i]? = some o ∧ o' = reOper L o := by
 rw [perm_get L l L h.lt] at ho
 cases hL : L[j]? with
 | none => rw [hL] at ho; simp at ho
 | some i =>
   rw [hL] at ho
   have hj : j < l.length := by rw [← h.len]; exact (List.getElem?_eq_some_iff.1 hL).1
   obtain ⟨i', h1, h2⟩ := h.back j hj
   rw [hL] at h1
   cases h1
   simp only [Option.bind_some] at ho
   cases hl : l[i]? with
   | none => rw [hl] at ho; simp at ho
   | some o => rw [hl] at ho; exact ⟨i, o, h2, hl, by simpa using ho.symm⟩
theorem yielded_perm (h : Perm l L) (tmps : Array Value) {k : Nat} (hk : k < l.length) : yielded (perm L l L).toArray tmps (posOf L k) = yielded l.toArray tmps k := by
 unfold yielded
 have e : l[k]? = some l[k] := List.getElem?_eq_getElem hk
 simp only [List.getElem?_toArray, h.get e, e, Option.bind_some]
 rfl
theorem wpOp_perm (h : Perm l L) {i : Nat} (hi : i < l.length) {K : Act → World → Prop} {a : Act} {w : World} (hh : wpOp P (perm L l L).toArray Q (posOf L i) K a w) : wpOp P l.toArray Q i K a w := by
 have e : l[i]? = some l[i] := List.getElem?_eq_getElem hi
 unfold wpOp at *
 simp only [List.getElem?_toArray, h.get e, e] at hh ⊢
 have hw : Region.wanted (reOper L l[i]) (yielded (perm L l L).toArray a.tmps) = Region.wanted l[i] (yielded l.toArray a.tmps) := by
  unfold Region.wanted
  show (match reGuard L l[i].guard with | none => true | some (j, want) => yielded (perm L l L).toArray a.tmps j == some want) = _
  cases hg : l[i].guard with
  | none => rfl
  | some q =>
    obtain ⟨k, b⟩ := q
    have hk := h.guard l[i] (List.getElem_mem hi) k b hg
    show (yielded (perm L l L).toArray a.tmps (posOf L k) == some b) = _
    rw [yielded_perm h a.tmps hk]
 rw [hw] at hh
 exact hh
theorem any_perm (L : List Nat) (hB : permB l L = true) : ∀ (fuel : Nat) (listed listed' : Array Bool) (a : Act) (w : World), listed.size = l.length → listed'.size = l.length → (∀ i, i < l.length → listed'[posOf L i]? = listed[i]?) →
  wpAny P .any (perm L l L).toArray Q fuel listed' a w → wpAny P .any l.toArray Q fuel listed a w := by
 have hP := perm_of hB
 have hgd : ∀ (listed listed' : Array Bool), (∀ i, i < l.length → listed'[posOf L i]? = listed[i]?) → ∀ i d, i < l.length → listed'.getD (posOf L i) d = listed.getD i d := fun listed listed' h i d hi => by
  rw [Array.getD_eq_getD_getElem?, Array.getD_eq_getD_getElem?, h i hi]
 have hlt : ∀ i, i < l.length → posOf L i < l.length := fun i hi => by
  have := (List.getElem?_eq_some_iff.1 (hP.there i hi)).1
  rw [hP.len] at this; exact this
 have fwd : ∀ (listed listed' : Array Bool), listed.size = l.length → (∀ i, i < l.length → listed'[posOf L i]? = listed[i]?) → ∀ i, i ∈ Region.ready .any l.toArray listed → i < l.length ∧ posOf L i ∈ Region.ready .any (perm L l L).toArray listed' := by
  intro listed listed' hs h i hi
  obtain ⟨hun, o, ho, hall⟩ := mem_ready.1 hi
  have ho' : l[i]? = some o := by simpa using ho
  have hil := (List.getElem?_eq_some_iff.1 ho').1
  refine ⟨hil, mem_ready.2 ⟨by rw [hgd listed listed' h i true hil]; exact hun, reOper L o, by simpa using hP.get ho', fun e he hb => ?_⟩⟩
  obtain ⟨e0, he0, rfl⟩ := Array.mem_map.1 (show e ∈ o.after.map fun e => (⟨posOf L e.on, e.ground⟩ : Edge) from he)
  rw [hgd listed listed' h e0.on false (hP.edge o (List.mem_of_getElem? ho') e0 he0)]
  exact hall e0 he0 hb
 have none_ : ∀ (listed listed' : Array Bool), listed.size = l.length → (∀ i, i < l.length → listed'[posOf L i]? = listed[i]?) → Region.ready .any l.toArray listed = [] → Region.ready .any (perm L l L).toArray listed' = [] := by
  intro listed listed' hs h hn
  refine List.eq_nil_iff_forall_not_mem.2 fun j hj => ?_
  obtain ⟨hun, o', ho', hall⟩ := mem_ready.1 hj
  obtain ⟨i, o, rfl, ho, rfl⟩ := hP.of_get (by simpa using ho')
  have hil := (List.getElem?_eq_some_iff.1 ho).1
  have : i ∈ Region.ready .any l.toArray listed := mem_ready.2 ⟨by rw [← hgd listed listed' h i true hil]; exact hun, o, by simpa using ho, fun e he hb => by
   rw [← hgd listed listed' h e.on false (hP.edge o (List.mem_of_getElem? ho) e he)]
   exact hall ⟨posOf L e.on, e.ground⟩ (Array.mem_map.2 ⟨e, he, rfl⟩) hb⟩
  rw [hn] at this; cases this
 intro fuel
 induction fuel with
 | zero =>
   intro listed listed' a w h1 h2 h hw
   refine ⟨?_, hw.2⟩
   refine List.eq_nil_iff_forall_not_mem.2 fun i hi => ?_
   have := (fwd listed listed' h1 h i hi).2
   rw [hw.1] at this; cases this
 | succ fuel ih =>
   intro listed listed' a w h1 h2 h hw
   refine ⟨fun hn => hw.1 (none_ listed listed' h1 h hn), fun i hi => ?_⟩
   obtain ⟨hil, hr⟩ := fwd listed listed' h1 h i hi
   refine wpOp_perm hP hil (wpOp_mono (fun a w hk => ih _ _ a w (by simpa using h1) (by simpa using h2) (fun k hk2 => ?_) hk) (hw.2 _ hr))
   rw [Array.getElem?_setIfInBounds, Array.getElem?_setIfInBounds]
   by_cases hik : i = k
   ·subst hik
    have := hlt i hil
    simp [h1, h2, hil, this]
   ·have hne : ¬ posOf L i = posOf L k := fun he => by
     have a1 := hP.there i hil
     have a2 := hP.there k hk2
     rw [he] at a1
     rw [a1] at a2
     exact hik (Option.some.inj a2)
    rw [if_neg hik, if_neg hne]
    exact h k hk2
theorem held_perm {E : List (Nat × Nat)} {a : Act} {w : World} (L ns hs F : List Nat) (hB : permB (edges E l) L = true) (hO : okH P (perm L (edges E l) L) ns hs = true)
  (h : wpCut P (perm L (edges E l) L).toArray (Mod F w.drew) (PostH P (perm L (edges E l) L) F w.drew hs Q) ns (perm L (edges E l) L) a w.drew) :
  wpAny P .any (edges E l).toArray Q (edges E l).length (Array.replicate (edges E l).length false) a w.drew := by
 have hP := perm_of hB
 have hl : (perm L (edges E l) L).length = (edges E l).length := by
  rcases Nat.lt_trichotomy (perm L (edges E l) L).length (edges E l).length with hh | hh | hh
  ·exfalso
   obtain ⟨i, h1, h2⟩ := hP.back _ hh
   have hi := hP.lt i (List.mem_of_getElem? h1)
   have := hP.get (List.getElem?_eq_getElem hi)
   rw [h2, List.getElem?_eq_none (Nat.le_refl _)] at this; cases this
  ·exact hh
  ·exfalso
   obtain ⟨i, o, h1, h2, _⟩ := hP.of_get (List.getElem?_eq_getElem hh)
   have hi := (List.getElem?_eq_some_iff.1 h2).1
   have := (List.getElem?_eq_some_iff.1 (hP.there i hi)).1
   rw [hP.len, h1] at this; omega
 have := held_any ns hs F hO h
 simp only [List.size_toArray] at this
 rw [hl] at this
 refine any_perm L hB _ _ _ a _ (by simp) (by simp) (fun i hi => ?_) this
 have h1 : posOf L i < (edges E l).length := by
  have := (List.getElem?_eq_some_iff.1 (hP.there i hi)).1
  rw [hP.len] at this; exact this
 simp [hi, h1]
end
end Go.YtndekdafiaogmaaLex
end
