/- keys.Store: Free. -/
import Derived.Test.YtajadfoannmaiaaKeys2
namespace Go.Proofs.Ytajadfoannmaiaa.Keys
open Go Go.RowKit Go.YtajadfoannmaiaaMem Go.YtajadfoannmaiaaLex
set_option linter.unusedVariables false
set_option linter.unusedSimpArgs false

theorem used_set_none : ∀ (S : List (Option (List UInt8))) (j : Nat) (k : List UInt8), S[j]? = some (some k) → used (S.set j none) + 1 = used S
  | [], j, k, h => by simp at h
  | x :: S, 0, k, h => by
    simp at h; subst h
    simp [used, List.countP_cons]
  | x :: S, j + 1, k, h => by
    have h' : S[j]? = some (some k) := by simpa using h
    have ih := used_set_none S j k h'
    unfold used at *
    rw [List.set_cons_succ, List.countP_cons, List.countP_cons]; omega
theorem used_set_some : ∀ (S : List (Option (List UInt8))) (j : Nat) (k : List UInt8), S[j]? = some none → used (S.set j (some k)) = used S + 1
  | [], j, k, h => by simp at h
  | x :: S, 0, k, h => by
    simp at h; subst h
    simp [used, List.countP_cons]
  | x :: S, j + 1, k, h => by
    have h' : S[j]? = some none := by simpa using h
    have ih := used_set_some S j k h'
    unfold used at *
    rw [List.set_cons_succ, List.countP_cons, List.countP_cons]; omega
section
variable {w : World} {g b1 b2 b3 : Nat} {S : List (Option (List UInt8))} {fl : List Nat} {bs : List UInt8} {nx : List Int}
theorem Sto.freed (h : Sto w g b1 b2 b3 S fl bs nx) {j : Nat} {k : List UInt8} (hk : S[j]? = some (some k)) {w' : World}
    (Bg : Blk w' g 82 [.slice (some ⟨b1, 0, none⟩) (64 * S.length) (64 * S.length), .slice (some ⟨b2, 0, none⟩) S.length S.length, .slice (some ⟨b3, 0, none⟩) S.length S.length, .int .i32 (j : Int), .int .i64 ((used S : Nat) - 1 : Int)])
    (B1 : Blk w' b1 5 (vb bs)) (B2 : Blk w' b2 83 ((szs S).set j (.int .i8 (-1)))) (B3 : Blk w' b3 21 ((nxs nx).set j (.int .i32 (headOf fl)))) :
    Sto w' g b1 b2 b3 (S.set j none) (j :: fl) bs (nx.set j (headOf fl)) := by
  have hj : j < S.length := (List.getElem?_eq_some_iff.1 hk).1
  have hu := used_set_none S j k hk
  have hnf : j ∉ fl := fun hm => by
    obtain ⟨m, hm⟩ := List.getElem?_of_mem hm
    have := (h.free m j hm).1
    rw [hk] at this; simp at this
  refine ⟨?_, B1, ?_, ?_, by rw [List.length_set]; exact h.len, by rw [List.length_set, List.length_set]; exact h.nlen, by rw [List.length_set]; exact h.few, fun i q hq => ?_, fun m i hi => ?_, List.nodup_cons.2 ⟨hnf, h.nodup⟩, fun i hi => ?_, h.ne⟩
  · rw [List.length_set, show ((used (S.set j none) : Nat) : Int) = (used S : Nat) - 1 by omega]; exact Bg
  · rw [show szs (S.set j none) = (szs S).set j (.int .i8 (-1)) by unfold szs; rw [List.map_set]; rfl]; exact B2
  · rw [show nxs (nx.set j (headOf fl)) = (nxs nx).set j (.int .i32 (headOf fl)) by unfold nxs; rw [List.map_set]]; exact B3
  · by_cases e : j = i
    · subst e; rw [List.getElem?_set_self hj] at hq; simp at hq
    · rw [List.getElem?_set_ne e] at hq; exact h.key i q hq
  · cases m with
    | zero =>
      simp at hi; subst hi
      exact ⟨List.getElem?_set_self hj, by rw [List.getElem?_set_self (by rw [h.nlen]; exact hj)]; rfl⟩
    | succ m =>
      have hi' : fl[m]? = some i := by simpa using hi
      obtain ⟨f1, f2⟩ := h.free m i hi'
      have hne : j ≠ i := fun e => by subst e; exact hnf (List.mem_of_getElem? hi')
      exact ⟨by rw [List.getElem?_set_ne hne]; exact f1, by rw [List.getElem?_set_ne hne]; exact f2⟩
  · by_cases e : j = i
    · subst e; simp
    · rw [List.getElem?_set_ne e] at hi; exact List.mem_cons_of_mem _ (h.all i hi)
def FreePost (w w' : World) (g b1 b2 b3 : Nat) (S : List (Option (List UInt8))) (fl : List Nat) (bs : List UInt8) (nx : List Int) (j : Nat) : Prop :=
  Sto w' g b1 b2 b3 (S.set j none) (j :: fl) bs (nx.set j (headOf fl)) ∧ Mod [g, b2, b3] w w'
set_option maxRecDepth 4000 in
theorem free_any (h : Sto w g b1 b2 b3 S fl bs nx) (j : Nat) (k : List UInt8) (hk : S[j]? = some (some k)) : Calls Try.prog 39 #[.pointer (some ⟨g, 0, none⟩), .int .i64 j] w fun e w' => e = .returned (.tuple #[]) ∧ FreePost w w' g b1 b2 b3 S fl bs nx j := by
  have H := Lib.hid (fun W (hM : Mod [] w W) => has_any (h.mod hM (by simp)) (j : Int))
  have hb : hasK S j = true := by unfold hasK; rw [show decide ((0 : Int) ≤ j) = true by simp, Int.toNat_natCast, hk]; rfl
  rw [hb] at H
  have c0 := h.blk.cell (i := 0) rfl
  have c1 := h.blk.cell (i := 1) rfl
  have c2 := h.blk.cell (i := 2) rfl
  have c3 := h.blk.cell (i := 3) rfl
  have c4 := h.blk.cell (i := 4) rfl
  have f3 := h.blk.free 3
  have f4 := h.blk.free 4
  have hj : j < S.length := (List.getElem?_eq_some_iff.1 hk).1
  have ck := h.sizes.cell (szs_get hk)
  have fk := h.sizes.free j
  have hnl := h.nlen
  have nk := h.nexts.cell (i := j) (v := .int .i32 (nx[j]'(by omega))) (by simp [nxs, List.getElem?_eq_getElem (show j < nx.length by omega)])
  have gk := h.nexts.free j
  have hfew := h.few
  obtain ⟨n1, n2, n3, n4, n5, n6⟩ := h.ne
  have hup : 1 ≤ used S := by have := used_set_none S j k hk; omega
  have hus : used S ≤ 2000 := Nat.le_trans (List.countP_le_length) hfew
  have HS := Lib.hid h
  have HK := Lib.hid hk
  generalize nx[j]'(by omega) = nj at nk
  obtain ⟨hf, hhf⟩ : ∃ hf, headOf fl = hf := ⟨_, rfl⟩
  rw [hhf] at c3
  have HF := Lib.hid hhf
  clear h hk hb hhf hnl
  go_enter Try.func39, Try.ntmps39
  go_wp2_with fail
  refine (H.out _ (Mod.refl [] w)).mono ?_
  rintro e w' ⟨rfl, rfl⟩
  go_wp2_with fail
  refine wp_region_lex (by kernel_rfl) (by kernel_rfl) ?_
  go_wp2_with fail
  refine ⟨by kernel_rfl, ?_⟩
  go_wp2_with fail
  go_end0
  have hS := HS.out
  have hfe := HF.out
  subst hfe
  refine ⟨rfl, hS.freed HK.out ?_ ?_ ?_ ?_, ?_⟩
  · exact ((((hS.blk.other (a := ⟨b2, j, none⟩) n2 _).other (a := ⟨b3, j, none⟩) n3 _).set 3 _).set 4 _).drew
  · exact ((((hS.bytes.other (a := ⟨b2, j, none⟩) n4 _).other (a := ⟨b3, j, none⟩) n5 _).other (a := ⟨g, 3, none⟩) (Ne.symm n1) _).other (a := ⟨g, 4, none⟩) (Ne.symm n1) _).drew
  · exact ((((hS.sizes.set j _).other (a := ⟨b3, j, none⟩) n6 _).other (a := ⟨g, 3, none⟩) (Ne.symm n2) _).other (a := ⟨g, 4, none⟩) (Ne.symm n2) _).drew
  · exact ((((hS.nexts.other (a := ⟨b2, j, none⟩) (Ne.symm n6) _).set j _).other (a := ⟨g, 3, none⟩) (Ne.symm n3) _).other (a := ⟨g, 4, none⟩) (Ne.symm n3) _).drew
  · exact (((((Mod.refl [g, b2, b3] w).setCell (p := ⟨b2, j, none⟩) (.inl (by simp)) _).setCell (p := ⟨b3, j, none⟩) (.inl (by simp)) _).setCell (p := ⟨g, 3, none⟩) (.inl (by simp)) _).setCell (p := ⟨g, 4, none⟩) (.inl (by simp)) _).drew
end
end Go.Proofs.Ytajadfoannmaiaa.Keys
