/- keys.Store: Put. -/
import Derived.Test.YtajadfoannmaiaaKeys3
import Derived.Lib.BufferWrite
import Derived.Laws.Tables
namespace Go.Proofs.Ytajadfoannmaiaa.Keys
open Go Go.RowKit Go.YtajadfoannmaiaaMem Go.YtajadfoannmaiaaLex
set_option linter.unusedVariables false
set_option linter.unusedSimpArgs false

/-- The bytes with a key at place j. -/
def lay (bs : List UInt8) (j : Nat) (key : List UInt8) : List UInt8 := bs.take (64 * j) ++ key ++ bs.drop (64 * j + key.length)
theorem lay_length {bs : List UInt8} {j : Nat} {key : List UInt8} (h : 64 * j + key.length ≤ bs.length) : (lay bs j key).length = bs.length := by
  unfold lay; simp; omega
theorem lay_get {bs : List UInt8} {j : Nat} {key : List UInt8} (h : 64 * j + key.length ≤ bs.length) (m : Nat) : (lay bs j key)[m]? = if 64 * j ≤ m ∧ m < 64 * j + key.length then key[m - 64 * j]? else bs[m]? := by
  unfold lay
  by_cases h1 : m < 64 * j
  · rw [if_neg (by omega), List.append_assoc, List.getElem?_append_left (by rw [List.length_take]; omega), List.getElem?_take_of_lt h1]
  · by_cases h2 : m < 64 * j + key.length
    · rw [if_pos (by omega), List.getElem?_append_left (by simp; omega), List.getElem?_append_right (by rw [List.length_take]; omega), List.length_take, Nat.min_eq_left (by omega)]
    · rw [if_neg (by omega), List.getElem?_append_right (by simp; omega), List.getElem?_drop]
      congr 1
      simp; omega
theorem lay_other {bs : List UInt8} {i j : Nat} {key k : List UInt8} (h : 64 * j + key.length ≤ bs.length) (hk : key.length ≤ 64) (hne : i ≠ j) (h64 : k.length ≤ 64) (hi : (bs.drop (64 * i)).take k.length = k) : ((lay bs j key).drop (64 * i)).take k.length = k := by
  rw [← hi]
  apply List.ext_getElem?
  intro m
  rw [hi]
  by_cases hm : m < k.length
  · have e : ((bs.drop (64 * i)).take k.length)[m]? = k[m]? := by rw [hi]
    rw [List.getElem?_take_of_lt hm, List.getElem?_drop] at e ⊢
    rw [lay_get h, if_neg (by omega)]; exact e
  · rw [List.getElem?_eq_none (by rw [List.length_take]; omega), List.getElem?_eq_none (by omega)]
theorem lay_self {bs : List UInt8} {j : Nat} {key : List UInt8} (h : 64 * j + key.length ≤ bs.length) : ((lay bs j key).drop (64 * j)).take key.length = key := by
  unfold lay
  rw [List.append_assoc, List.drop_append_of_le_length (by rw [List.length_take]; omega), List.drop_eq_nil_of_le (by rw [List.length_take]; omega), List.nil_append, List.take_left]
section
variable {w : World} {g b1 b2 b3 : Nat} {S : List (Option (List UInt8))} {fl : List Nat} {bs : List UInt8} {nx : List Int}
theorem Sto.put {j : Nat} (h : Sto w g b1 b2 b3 S (j :: fl) bs nx) {key : List UInt8} (hk : key.length ≤ 64) {w' : World}
    (Bg : Blk w' g 82 [.slice (some ⟨b1, 0, none⟩) (64 * S.length) (64 * S.length), .slice (some ⟨b2, 0, none⟩) S.length S.length, .slice (some ⟨b3, 0, none⟩) S.length S.length, .int .i32 (headOf fl), .int .i64 ((used S : Nat) + 1 : Int)])
    (B1 : Blk w' b1 5 (vb (lay bs j key))) (B2 : Blk w' b2 83 ((szs S).set j (.int .i8 key.length))) (B3 : Blk w' b3 21 (nxs nx)) :
    Sto w' g b1 b2 b3 (S.set j (some key)) fl (lay bs j key) nx := by
  obtain ⟨hs, hn⟩ := h.free 0 j rfl
  have hj : j < S.length := (List.getElem?_eq_some_iff.1 hs).1
  have hlen := h.len
  have hfit : 64 * j + key.length ≤ bs.length := by omega
  have hu := used_set_some S j key hs
  obtain ⟨hnf, hnd⟩ := List.nodup_cons.1 h.nodup
  refine ⟨?_, B1, ?_, B3, by rw [lay_length hfit, List.length_set]; exact hlen, by rw [List.length_set]; exact h.nlen, by rw [List.length_set]; exact h.few, fun i q hq => ?_, fun m i hi => ?_, hnd, fun i hi => ?_, h.ne⟩
  · rw [List.length_set, show ((used (S.set j (some key)) : Nat) : Int) = (used S : Nat) + 1 by omega]; exact Bg
  · rw [show szs (S.set j (some key)) = (szs S).set j (.int .i8 key.length) by unfold szs; rw [List.map_set]; rfl]; exact B2
  · by_cases e : j = i
    · subst e
      rw [List.getElem?_set_self hj] at hq
      simp at hq; subst hq
      exact ⟨hk, lay_self hfit⟩
    · rw [List.getElem?_set_ne e] at hq
      obtain ⟨k1, k2⟩ := h.key i q hq
      exact ⟨k1, lay_other hfit hk (Ne.symm e) k1 k2⟩
  · obtain ⟨f1, f2⟩ := h.free (m + 1) i (by simpa using hi)
    have hne : j ≠ i := fun e => by subst e; exact hnf (List.mem_of_getElem? hi)
    exact ⟨by rw [List.getElem?_set_ne hne]; exact f1, by simpa using f2⟩
  · by_cases e : j = i
    · subst e; rw [List.getElem?_set_self hj] at hi; simp at hi
    · rw [List.getElem?_set_ne e] at hi
      rcases List.mem_cons.1 (h.all i hi) with q | q
      · exact absurd q.symm e
      · exact q
theorem mod_setRow {S : List Nat} {a w : World} (h : Mod S a w) {g : Nat} (hg : g ∈ S ∨ a.heap.size ≤ g) (cs : Array Value) : Mod S a (w.setRow g cs) :=
  h.trans' (S' := [g]) ⟨rfl, rfl, rfl, by simp, fun k _ hn => setRow_other w g k cs (by simpa using hn)⟩ (by simpa using hg)
theorem vb_lay (bs : List UInt8) (j : Nat) (key : List UInt8) : vb (lay bs j key) = (vb bs).take (64 * j) ++ vb key ++ (vb bs).drop (64 * j + key.length) := by
  unfold lay vb; simp [List.map_take, List.map_drop]
def PutPost (w w' : World) (g b1 b2 b3 : Nat) (S : List (Option (List UInt8))) (fl : List Nat) (bs : List UInt8) (nx : List Int) (j : Nat) (key : List UInt8) : Prop :=
  Sto w' g b1 b2 b3 (S.set j (some key)) fl (lay bs j key) nx ∧ Mod [g, b1, b2] w w'
set_option maxRecDepth 4000 in
set_option maxHeartbeats 1600000 in
theorem put_yes {j : Nat} (h : Sto w g b1 b2 b3 S (j :: fl) bs nx) (key : List UInt8) (hk : key.length ≤ 64) : Calls Try.prog 37 #[.pointer (some ⟨g, 0, none⟩), .string ⟨key.toArray⟩] w fun e w' => e = .returned (.int .i64 j) ∧ PutPost w w' g b1 b2 b3 S fl bs nx j key := by
  have hsz : (ByteArray.mk key.toArray).size = key.length := by simp [ByteArray.size]
  have d64 : decide ((64 : Int) < key.length) = false := by simp; omega
  obtain ⟨hs, hn⟩ := h.free 0 j rfl
  have hj : j < S.length := (List.getElem?_eq_some_iff.1 hs).1
  have hlen := h.len
  have hfew := h.few
  obtain ⟨n1, n2, n3, n4, n5, n6⟩ := h.ne
  have hus : used S ≤ 2000 := Nat.le_trans (List.countP_le_length) hfew
  obtain ⟨hf, hhf⟩ : ∃ hf, headOf fl = hf := ⟨_, rfl⟩
  have c0 := h.blk.cell (i := 0) rfl
  have c1 := h.blk.cell (i := 1) rfl
  have c2 := h.blk.cell (i := 2) rfl
  have c3 : w.cell? ⟨g, 3, none⟩ = some (.int .i32 (j : Int)) := h.blk.cell (i := 3) rfl
  have f3 := h.blk.free 3
  have nk := h.nexts.cell (i := j) (v := .int .i32 hf) (by
    have hn' : nx[j]? = some hf := by rw [hn, ← hhf]; rfl
    unfold nxs; rw [List.getElem?_map, hn']; rfl)
  -- behind the first store, and behind the copy
  have G1 := h.blk.set 3 (.int .i32 hf)
  have B1 := h.bytes.other (a := ⟨g, 3, none⟩) (Ne.symm n1) (.int .i32 hf)
  have B2 := h.sizes.other (a := ⟨g, 3, none⟩) (Ne.symm n2) (.int .i32 hf)
  have B3 := h.nexts.other (a := ⟨g, 3, none⟩) (Ne.symm n3) (.int .i32 hf)
  have M1 := (Mod.refl [g, b1, b2] w).setCell (p := ⟨g, 3, none⟩) (.inl (by simp)) (.int .i32 hf)
  have cp := Lib.run_copy_row_string (P := Try.prog) (w.setCell ⟨g, 3, none⟩ (.int .i32 hf)) 30 9 3 5 b1 (j * 64) (64 * S.length - j * 64) (64 * S.length - j * 64) ⟨key.toArray⟩ (vb bs).toArray 5 Try.underlying30 (by kernel_rfl) B1 (by rw [hsz]; omega) (by rw [hsz]; simp; omega)
  rw [hsz] at cp
  have hrow : ((vb bs).toArray.toList.take (j * 64) ++ Lib.byteCells (ByteArray.mk key.toArray).data.toList ++ (vb bs).toArray.toList.drop (j * 64 + key.length)) = vb (lay bs j key) := by
    rw [vb_lay, show j * 64 = 64 * j by omega]; rfl
  rw [hrow] at cp
  obtain ⟨W2, hW2⟩ : ∃ W2, (w.setCell ⟨g, 3, none⟩ (.int .i32 hf)).setRow b1 (vb (lay bs j key)).toArray = W2 := ⟨_, rfl⟩
  have X1 : Blk W2 b1 5 (vb (lay bs j key)) := by rw [← hW2]; exact setRow_heap _ b1 _ _ _ _ B1
  have MW : Mod [b1] (w.setCell ⟨g, 3, none⟩ (.int .i32 hf)) W2 := by rw [← hW2]; exact mod_setRow (Mod.refl _ _) (.inl (by simp)) _
  have XG := MW.blk G1 (by simpa using n1)
  have X2 := MW.blk B2 (by simpa using Ne.symm n4)
  have X3 := MW.blk B3 (by simpa using Ne.symm n5)
  have M2 := Lib.hid (M1.trans (MW.mono (by simp)))
  rw [hW2] at cp
  have e1 := XG.cell (i := 1) rfl
  have e4 : W2.cell? ⟨g, 4, none⟩ = some (.int .i64 (used S : Nat)) := XG.cell (i := 4) rfl
  have s2 := X2.free j
  have f4 := XG.free 4
  have sk := X2.cell (szs_get hs)
  have Y1 := Lib.hid X1
  have YG := Lib.hid XG
  have Y2 := Lib.hid X2
  have Y3 := Lib.hid X3
  have HS := Lib.hid h
  have HF := Lib.hid hhf
  clear h hs hn hhf hW2 MW X1 XG X2 X3 G1 B1 B2 B3 M1 hrow
  go_enter Try.func37, Try.ntmps37
  go_wp2_with fail
  go_ret
  have hfe := HF.out
  subst hfe
  refine ⟨rfl, HS.out.put hk ?_ ?_ ?_ ?_, ?_⟩
  · exact (YG.out.other (a := ⟨b2, j, none⟩) n2 _).set 4 _
  · exact (Y1.out.other (a := ⟨b2, j, none⟩) n4 _).other (a := ⟨g, 4, none⟩) (Ne.symm n1) _
  · exact (Y2.out.set j _).other (a := ⟨g, 4, none⟩) (Ne.symm n2) _
  · exact (Y3.out.other (a := ⟨b2, j, none⟩) (Ne.symm n6) _).other (a := ⟨g, 4, none⟩) (Ne.symm n3) _
  · exact (M2.out.setCell (p := ⟨b2, j, none⟩) (.inl (by simp)) _).setCell (p := ⟨g, 4, none⟩) (.inl (by simp)) _
set_option maxRecDepth 4000 in
theorem put_full (h : Sto w g b1 b2 b3 S [] bs nx) (key : List UInt8) : Calls Try.prog 37 #[.pointer (some ⟨g, 0, none⟩), .string ⟨key.toArray⟩] w fun e w' => e = .returned (.int .i64 (-1)) ∧ w = w' := by
  have c3 : w.cell? ⟨g, 3, none⟩ = some (.int .i32 (-1)) := h.blk.cell (i := 3) rfl
  clear h
  go_enter Try.func37, Try.ntmps37
  go_wp2_with fail
  go_ret
  exact ⟨rfl, rfl⟩
set_option maxRecDepth 4000 in
theorem put_long {j : Nat} (h : Sto w g b1 b2 b3 S (j :: fl) bs nx) (key : List UInt8) (hk : 64 < key.length) : Calls Try.prog 37 #[.pointer (some ⟨g, 0, none⟩), .string ⟨key.toArray⟩] w fun e w' => e = .returned (.int .i64 (-1)) ∧ w = w' := by
  have hsz : (ByteArray.mk key.toArray).size = key.length := by simp [ByteArray.size]
  have d64 : decide ((64 : Int) < key.length) = true := by simp; omega
  have c3 : w.cell? ⟨g, 3, none⟩ = some (.int .i32 (j : Int)) := h.blk.cell (i := 3) rfl
  clear h
  go_enter Try.func37, Try.ntmps37
  go_wp2_with fail
  go_ret
  exact ⟨rfl, rfl⟩
end
end Go.Proofs.Ytajadfoannmaiaa.Keys
