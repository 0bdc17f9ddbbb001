/- summary.Summary: Offer, in parts. -/
import Derived.Test.YtpobjhmfidebbaaSum4
namespace Go.Proofs.Ytpobjhmfidebbaa.Sum
open Go Go.RowKit Go.YtpobjhmfidebbaaMem Go.YtpobjhmfidebbaaLex Go.Proofs.Ytpobjhmfidebbaa.Hash Go.Proofs.Ytpobjhmfidebbaa.Keys Go.Proofs.Ytpobjhmfidebbaa.Index
set_option linter.unusedVariables false
set_option linter.unusedSimpArgs false

section
variable {w : World} {B : SB} {S : List (Option (List UInt8))} {fl : List Nat} {N Er O W : List Int} {total : Int} {ps : List Nat} {E : List Ent}
theorem more_length (E : List Ent) (k : Nat) (z : Int) : (more E k z).length = E.length := by unfold more; rw [List.length_set]
theorem Rep.more {k p : Nat} {e : Ent} (h : Rep S N Er O W ps E) (hp : ps[k]? = some p) (he : E[k]? = some e) (z : Int) : Rep S (N.set p (e.n + z)) Er O W ps (Sum.more E k z) := by
  obtain ⟨hS, hN, _⟩ := h.at_ k p e hp he
  have hpN : p < N.length := (List.getElem?_eq_some_iff.1 hN).1
  have hk : k < E.length := (List.getElem?_eq_some_iff.1 he).1
  have hg : E.getD k default = e := by rw [List.getD_eq_getElem?_getD, he]; rfl
  refine ⟨by rw [more_length]; exact h.len, h.nd, h.all, fun j q e' hq he' => ?_⟩
  unfold Sum.more at he'
  rw [hg] at he'
  by_cases hkj : k = j
  · subst hkj
    rw [hp] at hq
    obtain rfl : p = q := by simpa using hq
    rw [List.getElem?_set_self hk] at he'
    obtain rfl := Option.some.inj he'
    obtain ⟨q1, q2, q3, q4, q5⟩ := h.at_ k p e hp he
    exact ⟨q1, by rw [List.getElem?_set_self hpN], q3, q4, q5⟩
  · rw [List.getElem?_set_ne hkj] at he'
    obtain ⟨q1, q2, q3, q4, q5⟩ := h.at_ j q e' hq he'
    exact ⟨q1, by rw [List.getElem?_set_ne (nodup_ne h.nd hp hq hkj)]; exact q2, q3, q4, q5⟩
theorem Rep.put {j m : Nat} {key : List UInt8} (h : Rep S N Er O W ps E) (hj : S[j]? = some none) (l1 : N.length = m) (l2 : Er.length = m) (l3 : O.length = m) (l4 : W.length = m) (hm : S.length = m) (hlt : E.length < m) (z : Int) :
    Rep (S.set j (some key)) (N.set j z) (Er.set j z) (O.set E.length (j : Int)) (W.set j (E.length : Int)) (ps ++ [j]) (E ++ [⟨key, z, z⟩]) := by
  have hjm : j < m := by rw [← hm]; exact (List.getElem?_eq_some_iff.1 hj).1
  have hne : ∀ k q, ps[k]? = some q → j ≠ q := fun k q hq => by
    rintro rfl
    have hk : k < E.length := by rw [← h.len]; exact (List.getElem?_eq_some_iff.1 hq).1
    have := (h.at_ k j _ hq (List.getElem?_eq_getElem hk)).1
    rw [hj] at this; cases this
  refine ⟨by simp [h.len], ?_, fun p k hp => ?_, fun k p e hp he => ?_⟩
  · rw [List.nodup_append]
    refine ⟨h.nd, by simp, fun a ha b hb => ?_⟩
    obtain ⟨k, hk⟩ := List.getElem?_of_mem ha
    simp at hb; subst hb
    exact (hne k a hk).symm
  · by_cases hjp : j = p
    · subst hjp; simp
    · rw [List.getElem?_set_ne hjp] at hp
      exact List.mem_append_left _ (h.all p k hp)
  · by_cases hk : k < E.length
    · rw [List.getElem?_append_left (by rw [h.len]; exact hk)] at hp
      rw [List.getElem?_append_left hk] at he
      obtain ⟨q1, q2, q3, q4, q5⟩ := h.at_ k p e hp he
      have hn := hne k p hp
      rw [List.getElem?_set_ne hn, List.getElem?_set_ne hn, List.getElem?_set_ne hn, List.getElem?_set_ne hn, List.getElem?_set_ne (by omega)]
      exact ⟨q1, q2, q3, q4, q5⟩
    · have hkl := (List.getElem?_eq_some_iff.1 he).1
      simp at hkl
      obtain rfl : k = E.length := by omega
      rw [← h.len, List.getElem?_append_right (Nat.le_refl _), Nat.sub_self] at hp
      rw [List.getElem?_append_right (Nat.le_refl _), Nat.sub_self] at he
      obtain rfl : j = p := by simpa using hp
      obtain rfl := (Option.some.inj he : (⟨key, z, z⟩ : Ent) = e)
      exact ⟨List.getElem?_set_self (by omega), List.getElem?_set_self (by omega), List.getElem?_set_self (by omega), List.getElem?_set_self (by omega), List.getElem?_set_self (by omega)⟩
/-- Counts are written anew. -/
theorem SumC.cnt {w' : World} {N' : List Int} (h : SumC w B S fl N Er O W total) (hm : Mod [B.nb] w w') (hN : Blk w' B.nb 2 (i64s N')) (l : N'.length = S.length) : SumC w' B S fl N' Er O W total := by
  obtain ⟨⟨n1, n2, n3, n4⟩, ⟨n5, n6, n7⟩, ⟨n8, n9⟩, n10⟩ := h.ne
  exact ⟨hm.blk h.blk (by simp; exact n1), h.idx.mod hm (fun b hb hb' => by simp at hb'; subst hb'; exact h.ni _ (by simp [SB.own]) hb), hN, hm.blk h.ce (by simp; exact n5.symm), hm.blk h.co (by simp; exact n6.symm), hm.blk h.cw (by simp; exact n7.symm), l, h.le, h.lo, h.lw, h.whole, h.nd, h.ni⟩
theorem SumC.all4 {w' : World} {S' : List (Option (List UInt8))} {fl' : List Nat} {N' Er' O' W' : List Int} (h : SumC w B S fl N Er O W total) (hm : Mod [B.nb, B.eb, B.ob, B.wb] w w') (hp : Blk w' B.p 68 [.pointer (some ⟨B.g, 0, none⟩), .pointer (some ⟨B.x, 0, none⟩), .slice (some ⟨B.nb, 0, none⟩) S'.length S'.length, .slice (some ⟨B.eb, 0, none⟩) S'.length S'.length, .slice (some ⟨B.ob, 0, none⟩) S'.length S'.length, .slice (some ⟨B.wb, 0, none⟩) S'.length S'.length, .int .i64 total])
    (hi : IdxAt w' B.x B.g B.L B.r S' fl') (h1 : Blk w' B.nb 2 (i64s N')) (h2 : Blk w' B.eb 2 (i64s Er')) (h3 : Blk w' B.ob 21 (i32s O')) (h4 : Blk w' B.wb 21 (i32s W'))
    (l1 : N'.length = S'.length) (l2 : Er'.length = S'.length) (l3 : O'.length = S'.length) (l4 : W'.length = S'.length) (hw : Whole S'.length S' fl') : SumC w' B S' fl' N' Er' O' W' total :=
  ⟨hp, hi, h1, h2, h3, h4, l1, l2, l3, l4, hw, h.nd, h.ni⟩
end
end Go.Proofs.Ytpobjhmfidebbaa.Sum
