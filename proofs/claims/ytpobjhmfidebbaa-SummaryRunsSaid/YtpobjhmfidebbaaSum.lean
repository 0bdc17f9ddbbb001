/- summary.Summary: what it holds; the document's entries; plain laws. -/
import Derived.Test.YtpobjhmfidebbaaIndex6
namespace Go.Proofs.Ytpobjhmfidebbaa.Sum
open Go Go.RowKit Go.YtpobjhmfidebbaaMem Go.YtpobjhmfidebbaaLex Go.Proofs.Ytpobjhmfidebbaa.Hash Go.Proofs.Ytpobjhmfidebbaa.Keys Go.Proofs.Ytpobjhmfidebbaa.Index
set_option linter.unusedVariables false
set_option linter.unusedSimpArgs false

/-- A key, its count, and how much of it may be others'. -/
structure Ent where
  key : List UInt8
  n : Int
  err : Int
deriving Inhabited, DecidableEq
def Ent.val (e : Ent) : Value := .agg #[.string ⟨e.key.toArray⟩, .int .i64 e.n, .int .i64 e.err]
/-- A summary's blocks. -/
structure SB where
  p : Nat
  x : Nat
  g : Nat
  L : List Nat
  nb : Nat
  eb : Nat
  ob : Nat
  wb : Nat
  r : Row
def SB.own (B : SB) : List Nat := [B.p, B.nb, B.eb, B.ob, B.wb]
def SB.all (B : SB) : List Nat := B.p :: B.nb :: B.eb :: B.ob :: B.wb :: B.L
abbrev i64s (l : List Int) : List Value := l.map (Value.int .i64)
abbrev i32s (l : List Int) : List Value := l.map (Value.int .i32)
/-- The memory. -/
structure SumC (w : World) (B : SB) (S : List (Option (List UInt8))) (fl : List Nat) (N Er O W : List Int) (total : Int) : Prop where
  blk : Blk w B.p 68 [.pointer (some ⟨B.g, 0, none⟩), .pointer (some ⟨B.x, 0, none⟩), .slice (some ⟨B.nb, 0, none⟩) S.length S.length, .slice (some ⟨B.eb, 0, none⟩) S.length S.length, .slice (some ⟨B.ob, 0, none⟩) S.length S.length, .slice (some ⟨B.wb, 0, none⟩) S.length S.length, .int .i64 total]
  idx : IdxAt w B.x B.g B.L B.r S fl
  cn : Blk w B.nb 2 (i64s N)
  ce : Blk w B.eb 2 (i64s Er)
  co : Blk w B.ob 21 (i32s O)
  cw : Blk w B.wb 21 (i32s W)
  ln : N.length = S.length
  le : Er.length = S.length
  lo : O.length = S.length
  lw : W.length = S.length
  whole : Whole S.length S fl
  nd : B.own.Nodup
  ni : ∀ b, b ∈ B.own → b ∉ B.L
/-- The entries, and the places they lie at. -/
structure Rep (S : List (Option (List UInt8))) (N Er O W : List Int) (ps : List Nat) (E : List Ent) : Prop where
  len : ps.length = E.length
  nd : ps.Nodup
  all : ∀ p key, S[p]? = some (some key) → p ∈ ps
  at_ : ∀ (k p : Nat) (e : Ent), ps[k]? = some p → E[k]? = some e → S[p]? = some (some e.key) ∧ N[p]? = some e.n ∧ Er[p]? = some e.err ∧ O[k]? = some (p : Int) ∧ W[p]? = some (k : Int)
/-- A summary of n keys: its entries, in their order, and all that was offered. -/
def SumAt (w : World) (B : SB) (n : Nat) (E : List Ent) (total : Int) : Prop := ∃ S fl N Er O W ps, S.length = n ∧ SumC w B S fl N Er O W total ∧ Rep S N Er O W ps E

section
variable {w w' : World} {B : SB} {S : List (Option (List UInt8))} {fl : List Nat} {N Er O W : List Int} {total : Int}
theorem SumC.lt (h : SumC w B S fl N Er O W total) : ∀ b, b ∈ B.all → b < w.heap.size := by
  intro b hb
  simp only [SB.all, List.mem_cons] at hb
  rcases hb with rfl | rfl | rfl | rfl | rfl | hb
  · exact h.blk.lt
  · exact h.cn.lt
  · exact h.ce.lt
  · exact h.co.lt
  · exact h.cw.lt
  · exact h.idx.lt b hb
theorem SumC.mod {S0 : List Nat} (h : SumC w B S fl N Er O W total) (hm : Mod S0 w w') (h0 : ∀ b, b ∈ B.all → b ∉ S0) : SumC w' B S fl N Er O W total :=
  ⟨hm.blk h.blk (h0 _ (by simp [SB.all])), h.idx.mod hm (fun b hb => h0 b (by simp [SB.all, hb])), hm.blk h.cn (h0 _ (by simp [SB.all])), hm.blk h.ce (h0 _ (by simp [SB.all])), hm.blk h.co (h0 _ (by simp [SB.all])), hm.blk h.cw (h0 _ (by simp [SB.all])), h.ln, h.le, h.lo, h.lw, h.whole, h.nd, h.ni⟩
theorem SumC.ne (h : SumC w B S fl N Er O W total) : (B.p ≠ B.nb ∧ B.p ≠ B.eb ∧ B.p ≠ B.ob ∧ B.p ≠ B.wb) ∧ (B.nb ≠ B.eb ∧ B.nb ≠ B.ob ∧ B.nb ≠ B.wb) ∧ (B.eb ≠ B.ob ∧ B.eb ≠ B.wb) ∧ B.ob ≠ B.wb := by
  have := h.nd
  simp only [SB.own, List.nodup_cons, List.mem_cons, List.not_mem_nil, not_or, or_false] at this
  exact ⟨this.1, this.2.1, this.2.2.1, this.2.2.2.1⟩
theorem own_all (B : SB) : ∀ b, b ∈ B.L → b ∈ B.all := fun b hb => by simp [SB.all, hb]
theorem SumC.few (h : SumC w B S fl N Er O W total) : S.length ≤ 2000 := h.idx.few
end
theorem SumAt.mod {S0 : List Nat} {w w' : World} {B : SB} {n : Nat} {E : List Ent} {total : Int} (h : SumAt w B n E total) (hm : Mod S0 w w') (h0 : ∀ b, b ∈ B.all → b ∉ S0) : SumAt w' B n E total := by
  obtain ⟨S, fl, N, Er, O, W, ps, h1, h2, h3⟩ := h
  exact ⟨S, fl, N, Er, O, W, ps, h1, h2.mod hm h0, h3⟩
theorem SumAt.lt {w : World} {B : SB} {n : Nat} {E : List Ent} {total : Int} (h : SumAt w B n E total) : ∀ b, b ∈ B.all → b < w.heap.size := by
  obtain ⟨S, fl, N, Er, O, W, ps, h1, h2, h3⟩ := h
  exact h2.lt

/-! Plain laws. -/
section
variable {S : List (Option (List UInt8))} {N Er O W : List Int} {ps : List Nat} {E : List Ent}
theorem Rep.get (h : Rep S N Er O W ps E) {k : Nat} (hk : k < E.length) : ∃ p e, ps[k]? = some p ∧ E[k]? = some e ∧ S[p]? = some (some e.key) ∧ N[p]? = some e.n ∧ Er[p]? = some e.err ∧ O[k]? = some (p : Int) ∧ W[p]? = some (k : Int) := by
  have h1 : ps[k]? = some (ps[k]'(by rw [h.len]; exact hk)) := List.getElem?_eq_getElem _
  have h2 : E[k]? = some E[k] := List.getElem?_eq_getElem _
  exact ⟨_, _, h1, h2, h.at_ k _ _ h1 h2⟩
theorem Rep.used (h : Rep S N Er O W ps E) : used S = E.length := by
  have h1 : (List.range S.length).countP (fun p => (S[p]?.join).isSome) = Keys.used S := by
    unfold Keys.used
    have : S = (List.range S.length).map fun p => S[p]?.join := by
      apply List.ext_getElem?
      intro i
      rw [List.getElem?_map]
      by_cases hi : i < S.length
      · rw [List.getElem?_range hi, Option.map_some, List.getElem?_eq_getElem hi]; rfl
      · rw [List.getElem?_eq_none (by omega), List.getElem?_eq_none (by simp; omega)]; rfl
    conv => rhs; rw [this, List.countP_map]
    rfl
  rw [← h1, List.countP_eq_length_filter, ← h.len]
  refine List.Perm.length_eq ((List.perm_ext_iff_of_nodup (List.nodup_range.filter _) h.nd).2 fun p => ?_)
  rw [List.mem_filter, List.mem_range]
  constructor
  · rintro ⟨hp, hs⟩
    rw [List.getElem?_eq_getElem hp] at hs
    cases ho : S[p] with
    | none => rw [ho] at hs; simp at hs
    | some key => exact h.all p key (by rw [List.getElem?_eq_getElem hp, ho])
  · intro hp
    obtain ⟨k, hk⟩ := List.getElem?_of_mem hp
    have hkl : k < E.length := by rw [← h.len]; exact (List.getElem?_eq_some_iff.1 hk).1
    obtain ⟨q, e, hq, _, hS, _⟩ := h.get hkl
    rw [hk] at hq
    obtain rfl : p = q := by simpa using hq
    exact ⟨(List.getElem?_eq_some_iff.1 hS).1, by rw [hS]; rfl⟩
/-- Where a key stands. -/
def findE (E : List Ent) (key : List UInt8) : Option Nat := E.findIdx? fun e => decide (e.key = key)
theorem findE_get {key : List UInt8} {k : Nat} (h : findE E key = some k) : ∃ e, E[k]? = some e ∧ e.key = key := by
  unfold findE at h
  rw [List.findIdx?_eq_some_iff_getElem] at h
  obtain ⟨hp, h1, _⟩ := h
  exact ⟨_, List.getElem?_eq_getElem hp, by simpa using h1⟩
theorem findE_no {key : List UInt8} (h : findE E key = none) : ∀ e ∈ E, e.key ≠ key := by
  unfold findE at h
  rw [List.findIdx?_eq_none_iff] at h
  intro e he
  have := h e he
  simpa using this
theorem Rep.find_none (h : Rep S N Er O W ps E) {key : List UInt8} (hf : findE E key = none) : placeOf S key = none := by
  refine placeOf_none fun q hq => ?_
  obtain ⟨k, hk⟩ := List.getElem?_of_mem (h.all q key hq)
  have hkl : k < E.length := by rw [← h.len]; exact (List.getElem?_eq_some_iff.1 hk).1
  obtain ⟨p, e, hp, he, hS, _⟩ := h.get hkl
  rw [hk] at hp
  obtain rfl : q = p := by simpa using hp
  rw [hq] at hS
  simp at hS
  exact findE_no hf e (List.mem_of_getElem? he) hS.symm
theorem Rep.find_some (h : Rep S N Er O W ps E) (hu : Uniq S) {key : List UInt8} {k : Nat} (hf : findE E key = some k) : ∃ p e, ps[k]? = some p ∧ E[k]? = some e ∧ e.key = key ∧ placeOf S key = some p := by
  obtain ⟨e, he, hk⟩ := findE_get hf
  have hkl : k < E.length := (List.getElem?_eq_some_iff.1 he).1
  obtain ⟨p, e', hp, he', hS, _⟩ := h.get hkl
  rw [he] at he'
  obtain rfl : e = e' := by simpa using he'
  exact ⟨p, e, hp, he, hk, placeOf_there hu (by rw [← hk]; exact hS)⟩
end
/-- The k-th goes ahead, to the at-th place. -/
def move {α : Type} (k at_ : Nat) (l : List α) : List α := l.take at_ ++ ((l.drop k).take 1 ++ ((l.take k).drop at_ ++ l.drop (k + 1)))
theorem move_get {α : Type} {k at_ : Nat} {l : List α} (hk : k < l.length) (ha : at_ ≤ k) (j : Nat) :
    (move k at_ l)[j]? = if j < at_ then l[j]? else if j = at_ then l[k]? else if j ≤ k then l[j - 1]? else l[j]? := by
  unfold move
  have e1 : (l.take at_).length = at_ := by rw [List.length_take]; omega
  have e2 : ((l.drop k).take 1).length = 1 := by rw [List.length_take, List.length_drop]; omega
  have e3 : ((l.take k).drop at_).length = k - at_ := by rw [List.length_drop, List.length_take]; omega
  by_cases h1 : j < at_
  · rw [if_pos h1, List.getElem?_append_left (by omega), List.getElem?_take_of_lt h1]
  · rw [if_neg h1, List.getElem?_append_right (by omega), e1]
    by_cases h2 : j = at_
    · rw [if_pos h2, List.getElem?_append_left (by omega), List.getElem?_take_of_lt (by omega), List.getElem?_drop]
      congr 1; omega
    · rw [if_neg h2, List.getElem?_append_right (by omega), e2]
      by_cases h3 : j ≤ k
      · rw [if_pos h3, List.getElem?_append_left (by omega), List.getElem?_drop, List.getElem?_take_of_lt (by omega)]
        congr 1; omega
      · rw [if_neg h3, List.getElem?_append_right (by omega), e3, List.getElem?_drop]
        congr 1; omega
theorem move_length {α : Type} {k at_ : Nat} {l : List α} (hk : k < l.length) (ha : at_ ≤ k) : (move k at_ l).length = l.length := by
  unfold move
  simp only [List.length_append, List.length_take, List.length_drop]
  omega
theorem move_perm {α : Type} {k at_ : Nat} {l : List α} (hk : k < l.length) (ha : at_ ≤ k) : (move k at_ l).Perm l := by
  unfold move
  have h1 : l = l.take at_ ++ ((l.take k).drop at_ ++ ((l.drop k).take 1 ++ l.drop (k + 1))) := by
    have a1 : (l.drop k).take 1 ++ l.drop (k + 1) = l.drop k := by
      rw [List.drop_eq_getElem_cons hk, List.take_succ_cons, List.take_zero]; rfl
    rw [a1]
    have a2 : l.take at_ ++ (l.take k).drop at_ = l.take k := by
      have := List.take_append_drop at_ (l.take k)
      rwa [List.take_take, Nat.min_eq_left ha] at this
    rw [← List.append_assoc, a2, List.take_append_drop]
  conv => rhs; rw [h1]
  refine List.Perm.append_left _ ?_
  rw [← List.append_assoc, ← List.append_assoc]
  exact List.Perm.append_right _ List.perm_append_comm
/-- Ahead of those with less. -/
def riseTo (E : List Ent) (v : Int) : Nat → Nat
  | 0 => 0
  | a + 1 => if (E.getD a default).n < v then riseTo E v a else a + 1
theorem riseTo_le (E : List Ent) (v : Int) : ∀ a, riseTo E v a ≤ a
  | 0 => Nat.le_refl _
  | a + 1 => by
    unfold riseTo
    split
    · have := riseTo_le E v a; omega
    · exact Nat.le_refl _
theorem riseTo_lt (E : List Ent) (v : Int) : ∀ a j, riseTo E v a ≤ j → j < a → (E.getD j default).n < v
  | 0, j, _, h => by omega
  | a + 1, j, h1, h2 => by
    unfold riseTo at h1
    split at h1
    · rename_i h
      by_cases hj : j = a
      · subst hj; exact h
      · exact riseTo_lt E v a j h1 (by omega)
    · omega
theorem riseTo_ge (E : List Ent) (v : Int) : ∀ a, riseTo E v a = 0 ∨ ∃ b, riseTo E v a = b + 1 ∧ ¬ (E.getD b default).n < v
  | 0 => .inl rfl
  | a + 1 => by
    unfold riseTo
    split
    · exact riseTo_ge E v a
    · rename_i h
      exact .inr ⟨a, rfl, h⟩
/-- The k-th gets so much more. -/
def more (E : List Ent) (k : Nat) (w : Int) : List Ent := E.set k { E.getD k default with n := (E.getD k default).n + w }
def bumpAt (E : List Ent) (k : Nat) (w : Int) : List Ent := move k (riseTo (more E k w) ((E.getD k default).n + w) k) (more E k w)
/-- What the last one leaves, and those that stay. -/
def leastOf (n : Nat) (E : List Ent) : Int := if E.length = n then (E.getD (n - 1) default).n else 0
def shed (n : Nat) (E : List Ent) : List Ent := if E.length = n then E.take (n - 1) else E
def offerE (n : Nat) (E : List Ent) (key : List UInt8) (w : Int) : List Ent :=
  match findE E key with
  | some k => bumpAt E k w
  | none => bumpAt (shed n E ++ [⟨key, leastOf n E, leastOf n E⟩]) (shed n E).length w
/-- So much is offered to a key. -/
def offer (n : Nat) (s : List Ent × Int) (key : List UInt8) (w : Int) : List Ent × Int :=
  if w < 1 ∨ 4611686018427387904 ≤ w ∨ 64 < key.length then s
  else if 4611686018427387904 - w ≤ s.2 then (offerE n [] key w, w) else (offerE n s.1 key w, s.2 + w)
end Go.Proofs.Ytpobjhmfidebbaa.Sum
