/- summary.Summary: what it holds; the document's entries; plain laws. | summary.Summary: New. | summary.Summary: Len, Total, Count, Least; of nil, too. | summary.Summary: drop, Clear. | summary.Summary: rise. | summary.Summary: Offer, in parts. | summary.Summary: Offer. | The document's summary as a plain function: what holds through all offers. -/
import Derived.Test.YtndekdafiaogmaaZIndex
import Derived.Test.YtndekdafiaogmaaZLow
set_option linter.unusedSimpArgs false
set_option linter.unusedVariables false
section
namespace Go.Proofs.Ytndekdafiaogmaa.Sum
open Go Go.RowKit Go.YtndekdafiaogmaaMem Go.YtndekdafiaogmaaLex Go.Proofs.Ytndekdafiaogmaa.Hash Go.Proofs.Ytndekdafiaogmaa.Keys Go.Proofs.Ytndekdafiaogmaa.Index
structure Ent where
 key : List UInt8
 n : Int
 err : Int
deriving Inhabited, DecidableEq
def Ent.val (e : Ent) : Value := .agg #[.string ⟨e.key.toArray⟩, .int .i64 e.n, .int .i64 e.err]
structure SB where
 p : Nat
 x : Nat
 g : Nat
 L : List Nat
 nb : Nat
 eb : Nat
 ob : Nat
 wb : Nat
 r : Row
def SB.own (B : SB) : List Nat := [B.p, B.nb, B.eb, B.ob, B.wb]
def SB.all (B : SB) : List Nat := B.p :: B.nb :: B.eb :: B.ob :: B.wb :: B.L
abbrev i64s (l : List Int) : List Value := l.map (Value.int .i64)
abbrev i32s (l : List Int) : List Value := l.map (Value.int .i32)
structure SumC (w : World) (B : SB) (S : List (Option (List UInt8))) (fl : List Nat) (N Er O W : List Int) (total : Int) : Prop where
 blk : Blk w B.p 128 [.pointer (some ⟨B.g, 0, none⟩), .pointer (some ⟨B.x, 0, none⟩), .slice (some ⟨B.nb, 0, none⟩) S.length S.length, .slice (some ⟨B.eb, 0, none⟩) S.length S.length, .slice (some ⟨B.ob, 0, none⟩) S.length S.length, .slice (some ⟨B.wb, 0, none⟩) S.length S.length, .int .i64 total]
 idx : IdxAt w B.x B.g B.L B.r S fl
 cn : Blk w B.nb 2 (i64s N)
 ce : Blk w B.eb 2 (i64s Er)
 co : Blk w B.ob 21 (i32s O)
 cw : Blk w B.wb 21 (i32s W)
 ln : N.length = S.length
 le : Er.length = S.length
 lo : O.length = S.length
 lw : W.length = S.length
 whole : Whole S.length S fl
 nd : B.own.Nodup
 ni : ∀ b, b ∈ B.own → b ∉ B.L
structure Rep (S : List (Option (List UInt8))) (N Er O W : List Int) (ps : List Nat) (E : List Ent) : Prop where
 len : ps.length = E.length
 nd : ps.Nodup
 all : ∀ p key, S[p]? = some (some key) → p ∈ ps
 at_ : ∀ (k p : Nat) (e : Ent), ps[k]? = some p → E[k]? = some e → S[p]? = some (some e.key) ∧ N[p]? = some e.n ∧ Er[p]? = some e.err ∧ O[k]? = some (p : Int) ∧ W[p]? = some (k : Int)
def SumAt (w : World) (B : SB) (n : Nat) (E : List Ent) (total : Int) : Prop := ∃ S fl N Er O W ps, S.length = n ∧ SumC w B S fl N Er O W total ∧ Rep S N Er O W ps E
section
variable {w w' : World} {B : SB} {S : List (Option (List UInt8))} {fl : List Nat} {N Er O W : List Int} {total : Int}
theorem SumC.lt (h : SumC w B S fl N Er O W total) : ∀ b, b ∈ B.all → b < w.heap.size := by
 intro b hb
 simp only [SB.all, List.mem_cons] at hb
 rcases hb with rfl | rfl | rfl | rfl | rfl | hb
 ·exact h.blk.lt
 ·exact h.cn.lt
 ·exact h.ce.lt
 ·exact h.co.lt
 ·exact h.cw.lt
 ·exact h.idx.lt b hb
theorem SumC.mod {S0 : List Nat} (h : SumC w B S fl N Er O W total) (hm : Mod S0 w w') (h0 : ∀ b, b ∈ B.all → b ∉ S0) : SumC w' B S fl N Er O W total :=
 ⟨hm.blk h.blk (h0 _ (by simp [SB.all])), h.idx.mod hm (fun b hb => h0 b (by simp [SB.all, hb])), hm.blk h.cn (h0 _ (by simp [SB.all])), hm.blk h.ce (h0 _ (by simp [SB.all])), hm.blk h.co (h0 _ (by simp [SB.all])), hm.blk h.cw (h0 _ (by simp [SB.all])), h.ln, h.le, h.lo, h.lw, h.whole, h.nd, h.ni⟩
theorem SumC.ne (h : SumC w B S fl N Er O W total) : (B.p ≠ B.nb ∧ B.p ≠ B.eb ∧ B.p ≠ B.ob ∧ B.p ≠ B.wb) ∧ (B.nb ≠ B.eb ∧ B.nb ≠ B.ob ∧ B.nb ≠ B.wb) ∧ (B.eb ≠ B.ob ∧ B.eb ≠ B.wb) ∧ B.ob ≠ B.wb := by
 have := h.nd
 simp only [SB.own, List.nodup_cons, List.mem_cons, List.not_mem_nil, not_or, or_false] at this
 exact ⟨this.1, this.2.1, this.2.2.1, this.2.2.2.1⟩
theorem own_all (B : SB) : ∀ b, b ∈ B.L → b ∈ B.all := fun b hb => by simp [SB.all, hb]
theorem SumC.few (h : SumC w B S fl N Er O W total) : S.length ≤ 2000 := h.idx.few
end
theorem SumAt.mod {S0 : List Nat} {w w' : World} {B : SB} {n : Nat} {E : List Ent} {total : Int} (h : SumAt w B n E total) (hm : Mod S0 w w') (h0 : ∀ b, b ∈ B.all → b ∉ S0) : SumAt w' B n E total := by
 obtain ⟨S, fl, N, Er, O, W, ps, h1, h2, h3⟩ := h
 exact ⟨S, fl, N, Er, O, W, ps, h1, h2.mod hm h0, h3⟩
theorem SumAt.lt {w : World} {B : SB} {n : Nat} {E : List Ent} {total : Int} (h : SumAt w B n E total) : ∀ b, b ∈ B.all → b < w.heap.size := by
 obtain ⟨S, fl, N, Er, O, W, ps, h1, h2, h3⟩ := h
 exact h2.lt
/-! Plain laws. -/
section
variable {S : List (Option (List UInt8))} {N Er O W : List Int} {ps : List Nat} {E : List Ent}
theorem Rep.get (h : Rep S N Er O W ps E) {k : Nat} (hk : k < E.length) : ∃ p e, ps[k]? = some p ∧ E[k]? = some e ∧ S[p]? = some (some e.key) ∧ N[p]? = some e.n ∧ Er[p]? = some e.err ∧ O[k]? = some (p : Int) ∧ W[p]? = some (k : Int) := by
 have h1 : ps[k]? = some (ps[k]'(by rw [h.len]; exact hk)) := List.getElem?_eq_getElem _
 have h2 : E[k]? = some E[k] := List.getElem?_eq_getElem _
 exact ⟨_, _, h1, h2, h.at_ k _ _ h1 h2⟩
theorem Rep.used (h : Rep S N Er O W ps E) : used S = E.length := by
 have h1 : (List.range S.length).countP (fun p => (S[p]?.join).isSome) = Keys.used S := by
  unfold Keys.used
  have : S = (List.range S.length).map fun p => S[p]?.join := by
   apply List.ext_getElem?
   intro i
   rw [List.getElem?_map]
   by_cases hi : i < S.length
   ·rw [List.getElem?_range hi, Option.map_some, List.getElem?_eq_getElem hi]; rfl
   ·rw [List.getElem?_eq_none (by omega), List.getElem?_eq_none (by simp; omega)]; rfl
  conv => rhs; rw [this, List.countP_map]
  rfl
 rw [← h1, List.countP_eq_length_filter, ← h.len]
 refine List.Perm.length_eq ((List.perm_ext_iff_of_nodup (List.nodup_range.filter _) h.nd).2 fun p => ?_)
 rw [List.mem_filter, List.mem_range]
 constructor
 ·rintro ⟨hp, hs⟩
  rw [List.getElem?_eq_getElem hp] at hs
  cases ho : S[p] with
  | none => rw [ho] at hs; simp at hs
  | some key => exact h.all p key (by rw [List.getElem?_eq_getElem hp, ho])
 ·intro hp
  obtain ⟨k, hk⟩ := List.getElem?_of_mem hp
  have hkl : k < E.length := by rw [← h.len]; exact (List.getElem?_eq_some_iff.1 hk).1
  obtain ⟨q, e, hq, _, hS, _⟩ := h.get hkl
  rw [hk] at hq
  obtain rfl : p = q := by simpa using hq
  exact ⟨(List.getElem?_eq_some_iff.1 hS).1, by rw [hS]; rfl⟩
def findE (E : List Ent) (key : List UInt8) : Option Nat := E.findIdx? fun e => decide (e.key = key)
theorem findE_get {key : List UInt8} {k : Nat} (h : findE E key = some k) : ∃ e, E[k]? = some e ∧ e.key = key := by
 unfold findE at h
 rw [List.findIdx?_eq_some_iff_getElem] at h
 obtain ⟨hp, h1, _⟩ := h
 exact ⟨_, List.getElem?_eq_getElem hp, by simpa using h1⟩
theorem findE_no {key : List UInt8} (h : findE E key = none) : ∀ e ∈ E, e.key ≠ key := by
 unfold findE at h
 rw [List.findIdx?_eq_none_iff] at h
 intro e he
 have := h e he
 simpa using this
theorem Rep.find_none (h : Rep S N Er O W ps E) {key : List UInt8} (hf : findE E key = none) : placeOf S key = none := by
 refine placeOf_none fun q hq => ?_
 obtain ⟨k, hk⟩ := List.getElem?_of_mem (h.all q key hq)
 have hkl : k < E.length := by rw [← h.len]; exact (List.getElem?_eq_some_iff.1 hk).1
 obtain ⟨p, e, hp, he, hS, _⟩ := h.get hkl
 rw [hk] at hp
 obtain rfl : q = p := by simpa using hp
 rw [hq] at hS
 simp at hS
 exact findE_no hf e (List.mem_of_getElem? he) hS.symm
theorem Rep.find_some (h : Rep S N Er O W ps E) (hu : Uniq S) {key : List UInt8} {k : Nat} (hf : findE E key = some k) : ∃ p e, ps[k]? = some p ∧ E[k]? = some e ∧ e.key = key ∧ placeOf S key = some p := by
 obtain ⟨e, he, hk⟩ := findE_get hf
 have hkl : k < E.length := (List.getElem?_eq_some_iff.1 he).1
 obtain ⟨p, e', hp, he', hS, _⟩ := h.get hkl
 rw [he] at he'
 obtain rfl : e = e' := by simpa using he'
 exact ⟨p, e, hp, he, hk, placeOf_there hu (by rw [← hk]; exact hS)⟩
end
def move {α : Type} (k at_ : Nat) (l : List α) : List α := l.take at_ ++ ((l.drop k).take 1 ++ ((l.take k).drop at_ ++ l.drop (k + 1)))
theorem move_get {α : Type} {k at_ : Nat} {l : List α} (hk : k < l.length) (ha : at_ ≤ k) (j : Nat) :
  (move k at_ l)[j]? = if j < at_ then l[j]? else if j = at_ then l[k]? else if j ≤ k then l[j - 1]? else l[j]? := by
 unfold move
 have e1 : (l.take at_).length = at_ := by rw [List.length_take]; omega
 have e2 : ((l.drop k).take 1).length = 1 := by rw [List.length_take, List.length_drop]; omega
 have e3 : ((l.take k).drop at_).length = k - at_ := by rw [List.length_drop, List.length_take]; omega
 by_cases h1 : j < at_
 ·rw [if_pos h1, List.getElem?_append_left (by omega), List.getElem?_take_of_lt h1]
 ·rw [if_neg h1, List.getElem?_append_right (by omega), e1]
  by_cases h2 : j = at_
  ·rw [if_pos h2, List.getElem?_append_left (by omega), List.getElem?_take_of_lt (by omega), List.getElem?_drop]
   congr 1; omega
  ·rw [if_neg h2, List.getElem?_append_right (by omega), e2]
   by_cases h3 : j ≤ k
   ·rw [if_pos h3, List.getElem?_append_left (by omega), List.getElem?_drop, List.getElem?_take_of_lt (by omega)]
    congr 1; omega
   ·rw [if_neg h3, List.getElem?_append_right (by omega), e3, List.getElem?_drop]
    congr 1; omega
theorem move_length {α : Type} {k at_ : Nat} {l : List α} (hk : k < l.length) (ha : at_ ≤ k) : (move k at_ l).length = l.length := by
 unfold move
 simp only [List.length_append, List.length_take, List.length_drop]
 omega
theorem move_perm {α : Type} {k at_ : Nat} {l : List α} (hk : k < l.length) (ha : at_ ≤ k) : (move k at_ l).Perm l := by
 unfold move
 have h1 : l = l.take at_ ++ ((l.take k).drop at_ ++ ((l.drop k).take 1 ++ l.drop (k + 1))) := by
  have a1 : (l.drop k).take 1 ++ l.drop (k + 1) = l.drop k := by
   rw [List.drop_eq_getElem_cons hk, List.take_succ_cons, List.take_zero]; rfl
  rw [a1]
  have a2 : l.take at_ ++ (l.take k).drop at_ = l.take k := by
   have := List.take_append_drop at_ (l.take k)
   rwa [List.take_take, Nat.min_eq_left ha] at this
  rw [← List.append_assoc, a2, List.take_append_drop]
 conv => rhs; rw [h1]
 refine List.Perm.append_left _ ?_
 rw [← List.append_assoc, ← List.append_assoc]
 exact List.Perm.append_right _ List.perm_append_comm
def riseTo (E : List Ent) (v : Int) : Nat → Nat
 | 0 => 0
 | a + 1 => if (E.getD a default).n < v then riseTo E v a else a + 1
theorem riseTo_le (E : List Ent) (v : Int) : ∀ a, riseTo E v a ≤ a
 | 0 => Nat.le_refl _
 | a + 1 => by
   unfold riseTo
   split
   ·have := riseTo_le E v a; omega
   ·exact Nat.le_refl _
theorem riseTo_lt (E : List Ent) (v : Int) : ∀ a j, riseTo E v a ≤ j → j < a → (E.getD j default).n < v
 | 0, j, _, h => by omega
 | a + 1, j, h1, h2 => by
   unfold riseTo at h1
   split at h1
   ·rename_i h
    by_cases hj : j = a
    ·subst hj; exact h
    ·exact riseTo_lt E v a j h1 (by omega)
   ·omega
theorem riseTo_ge (E : List Ent) (v : Int) : ∀ a, riseTo E v a = 0 ∨ ∃ b, riseTo E v a = b + 1 ∧ ¬ (E.getD b default).n < v
 | 0 => .inl rfl
 | a + 1 => by
   unfold riseTo
   split
   ·exact riseTo_ge E v a
   ·rename_i h
    exact .inr ⟨a, rfl, h⟩
def more (E : List Ent) (k : Nat) (w : Int) : List Ent := E.set k { E.getD k default with n := (E.getD k default).n + w }
def bumpAt (E : List Ent) (k : Nat) (w : Int) : List Ent := move k (riseTo (more E k w) ((E.getD k default).n + w) k) (more E k w)
def leastOf (n : Nat) (E : List Ent) : Int := if E.length = n then (E.getD (n - 1) default).n else 0
def shed (n : Nat) (E : List Ent) : List Ent := if E.length = n then E.take (n - 1) else E
def offerE (n : Nat) (E : List Ent) (key : List UInt8) (w : Int) : List Ent :=
 match findE E key with
 | some k => bumpAt E k w
 | none => bumpAt (shed n E ++ [⟨key, leastOf n E, leastOf n E⟩]) (shed n E).length w
def offer (n : Nat) (s : List Ent × Int) (key : List UInt8) (w : Int) : List Ent × Int :=
 if w < 1 ∨ 4611686018427387904 ≤ w ∨ 64 < key.length then s
 else if 4611686018427387904 - w ≤ s.2 then (offerE n [] key w, w) else (offerE n s.1 key w, s.2 + w)
end Go.Proofs.Ytndekdafiaogmaa.Sum
end
section
namespace Go.Proofs.Ytndekdafiaogmaa.Sum
open Go Go.RowKit Go.YtndekdafiaogmaaMem Go.YtndekdafiaogmaaLex Go.Proofs.Ytndekdafiaogmaa.Hash Go.Proofs.Ytndekdafiaogmaa.Keys Go.Proofs.Ytndekdafiaogmaa.Index
theorem i64_info : (Try.prog.info? 2).map (fun i => (i.zero, i.size, i.bytes)) = some (some (.int .i64 0), 1, 8) := by kernel_rfl
theorem i32_info : (Try.prog.info? 21).map (fun i => (i.zero, i.size, i.bytes)) = some (some (.int .i32 0), 1, 4) := by kernel_rfl
theorem make_i64 (n : Nat) (hn : n ≤ 2000) (w : World) : (Instr.makeSlice 121 (.int .i64 (n : Int)) (.int .i64 (n : Int))).run Try.prog w = .ok (.slice (some ⟨w.heap.size, 0, none⟩) n n) (w.alloc (.cells (i64s (List.replicate n 0)).toArray 2)) := by
 have h := run_make_row' (P := Try.prog) 121 2 (.int .i64 0) 8 Try.underlying121 i64_info rfl .i64 .i64 n (by omega) (by omega)
 have e : madeCells #[.int .i64 0] n = (i64s (List.replicate n 0)).toArray := by
  rw [← Array.toArray_toList (xs := madeCells _ _), toList_madeCells_one]; unfold i64s; rw [List.map_replicate]
 rw [e] at h
 exact h w
theorem make_i32 (n : Nat) (hn : n ≤ 2000) (w : World) : (Instr.makeSlice 126 (.int .i64 (n : Int)) (.int .i64 (n : Int))).run Try.prog w = .ok (.slice (some ⟨w.heap.size, 0, none⟩) n n) (w.alloc (.cells (i32s (List.replicate n 0)).toArray 21)) := by
 have h := run_make_row' (P := Try.prog) 126 21 (.int .i32 0) 4 Try.underlying126 i32_info rfl .i64 .i64 n (by omega) (by omega)
 have e : madeCells #[.int .i32 0] n = (i32s (List.replicate n 0)).toArray := by
  rw [← Array.toArray_toList (xs := madeCells _ _), toList_madeCells_one]; unfold i32s; rw [List.map_replicate]
 rw [e] at h
 exact h w
def RNew (n : Nat) : Nat → Value → List Nat → World → Prop
 | 1, v, bs, w => ∃ g b1 b2 b3 ks nx, v = .pointer (some ⟨g, 0, none⟩) ∧ Sto w g b1 b2 b3 (List.replicate n none) (List.range n) ks nx ∧ bs = [g, b1, b2, b3]
 | 3, v, bs, w => ∃ b, v = .slice (some ⟨b, 0, none⟩) n n ∧ Blk w b 2 (i64s (List.replicate n 0)) ∧ bs = [b]
 | 5, v, bs, w => ∃ b, v = .slice (some ⟨b, 0, none⟩) n n ∧ Blk w b 2 (i64s (List.replicate n 0)) ∧ bs = [b]
 | 7, v, bs, w => ∃ b, v = .slice (some ⟨b, 0, none⟩) n n ∧ Blk w b 21 (i32s (List.replicate n 0)) ∧ bs = [b]
 | 9, v, bs, w => ∃ b, v = .slice (some ⟨b, 0, none⟩) n n ∧ Blk w b 21 (i32s (List.replicate n 0)) ∧ bs = [b]
 | _, v, bs, w => v = .int .i64 n ∧ bs = []
theorem rnew_mod (n : Nat) : ∀ k v bs w w', RNew n k v bs w → Mod [] w w' → RNew n k v bs w' := by
 intro k v bs w w' h hM
 unfold RNew at *
 split at h
 ·obtain ⟨g, b1, b2, b3, ks, nx, h1, h2, h3⟩ := h; exact ⟨g, b1, b2, b3, ks, nx, h1, h2.mod hM (by simp), h3⟩
 ·obtain ⟨b, h1, h2, h3⟩ := h; exact ⟨b, h1, hM.blk h2 (by simp), h3⟩
 ·obtain ⟨b, h1, h2, h3⟩ := h; exact ⟨b, h1, hM.blk h2 (by simp), h3⟩
 ·obtain ⟨b, h1, h2, h3⟩ := h; exact ⟨b, h1, hM.blk h2 (by simp), h3⟩
 ·obtain ⟨b, h1, h2, h3⟩ := h; exact ⟨b, h1, hM.blk h2 (by simp), h3⟩
 ·exact h
def NewPost (n : Nat) (w : World) (e : Ending) (w' : World) : Prop :=
 ∃ B : SB, e = .returned (.pointer (some ⟨B.p, 0, none⟩)) ∧ SumAt w' B n [] 0 ∧ (∀ b, b ∈ B.all → w.heap.size ≤ b) ∧ Mod [] w w'
set_option maxRecDepth 4000 in
set_option maxHeartbeats 3200000 in
theorem new_any (n : Nat) (h1 : 1 ≤ n) (hn : n ≤ 64) (r : Row) (hr : r.ok) (w : World) :
  Calls Try.prog 33 #[.int .i64 n, .agg #[.int .u64 (r.x : Int), .int .u64 (r.a : Int), .int .u64 (r.b : Int)]] w (NewPost n w) := by
 have d1 : decide ((n : Int) < 1) = false := by simp; omega
 have d2 : decide ((64 : Int) < n) = false := by simp; omega
 have KN := Lib.hid (fun W : World => Keys.new_any n (by omega) W)
 have m1 := Lib.hid (make_i64 n (by omega))
 have m2 := Lib.hid (make_i32 n (by omega))
 have RB := Lib.hid (Blk.new w [.int .u64 (r.x : Int), .int .u64 (r.a : Int), .int .u64 (r.b : Int)] 75)
 have NI := Lib.hid (fun (W : World) (g b1 b2 b3 : Nat) (bs : List UInt8) (nx : List Int) (hS : Sto W g b1 b2 b3 (List.replicate n none) (List.range n) bs nx) => new_at hS r hr)
 obtain ⟨rx, ra, rb⟩ := r
 simp only at *
 clear hr
 go_enter Try.func33, Try.ntmps33
 go_wp2_with fail
 obtain ⟨w0, hw0⟩ : ∃ w0, w.alloc (.cells #[.int .u64 (rx : Int), .int .u64 (ra : Int), .int .u64 (rb : Int)] 75) = w0 := ⟨_, rfl⟩
 have hs0 : w0.heap.size = w.heap.size + 1 := by rw [← hw0]; simp
 have M0 : Hid (Mod [] w w0) := Lib.hid (by rw [← hw0]; exact (Mod.refl [] w).alloc _)
 have R0 : Hid (Blk w0 w.heap.size 75 [.int .u64 (rx : Int), .int .u64 (ra : Int), .int .u64 (rb : Int)]) := Lib.hid (by rw [← hw0]; exact RB.out)
 rw [hw0]
 clear RB hw0
 refine wp_region_makers' 10 34 (RNew n) (by kernel_rfl) (by kernel_rfl) (by simp) (rnew_mod n) ?step ?done
 case step =>
  intro k o a W hk ho hM h1 h2 K hK
  have t0 := (h1 0 (by kernel_rfl)).trans (show _ = some (Value.int .i64 n) by simp)
  match k, hk with
  | 0, _ =>
    obtain rfl := Option.some.inj ho
    exact value_step (v := .int .i64 n) (by simp [execOp, t0, go_sem]) (hK _ [] W ⟨rfl, rfl⟩ (Mod.refl _ _) (by simp))
  | 2, _ =>
    obtain rfl := Option.some.inj ho
    exact value_step (v := .int .i64 n) (by simp [execOp, t0, go_sem]) (hK _ [] W ⟨rfl, rfl⟩ (Mod.refl _ _) (by simp))
  | 4, _ =>
    obtain rfl := Option.some.inj ho
    exact value_step (v := .int .i64 n) (by simp [execOp, t0, go_sem]) (hK _ [] W ⟨rfl, rfl⟩ (Mod.refl _ _) (by simp))
  | 6, _ =>
    obtain rfl := Option.some.inj ho
    exact value_step (v := .int .i64 n) (by simp [execOp, t0, go_sem]) (hK _ [] W ⟨rfl, rfl⟩ (Mod.refl _ _) (by simp))
  | 8, _ =>
    obtain rfl := Option.some.inj ho
    exact value_step (v := .int .i64 n) (by simp [execOp, t0, go_sem]) (hK _ [] W ⟨rfl, rfl⟩ (Mod.refl _ _) (by simp))
  | 1, _ =>
    obtain rfl := Option.some.inj ho
    obtain ⟨v, bs, e1, rfl, _⟩ := h2 0 12 (by kernel_rfl)
    have t1 := e1
    refine call_step (f := 61) (args := #[.int .i64 n]) (by simp [execOp, t1, go_sem]) (KN.out W) (fun e w' hr => ?_)
    obtain ⟨g, b1, b2, b3, ks, nx, rfl, hS, q0, q1, q2, q3, hM⟩ := hr
    have hlt := sto_lt hS
    exact ⟨_, rfl, hK _ [g, b1, b2, b3] w' ⟨g, b1, b2, b3, ks, nx, rfl, hS, rfl⟩ hM (fun b hb => by have := hlt b hb; simp at hb; omega)⟩
  | 3, _ =>
    obtain rfl := Option.some.inj ho
    obtain ⟨v, bs, e1, rfl, _⟩ := h2 2 14 (by kernel_rfl)
    have t1 := e1
    exact value_step (by simp [execOp, t1, go_sem, m1.out W]) (hK _ [W.heap.size] _ ⟨_, rfl, Blk.new W _ _, rfl⟩ ((Mod.refl [] W).alloc _) (by simp))
  | 5, _ =>
    obtain rfl := Option.some.inj ho
    obtain ⟨v, bs, e1, rfl, _⟩ := h2 4 16 (by kernel_rfl)
    have t1 := e1
    exact value_step (by simp [execOp, t1, go_sem, m1.out W]) (hK _ [W.heap.size] _ ⟨_, rfl, Blk.new W _ _, rfl⟩ ((Mod.refl [] W).alloc _) (by simp))
  | 7, _ =>
    obtain rfl := Option.some.inj ho
    obtain ⟨v, bs, e1, rfl, _⟩ := h2 6 18 (by kernel_rfl)
    have t1 := e1
    exact value_step (by simp [execOp, t1, go_sem, m2.out W]) (hK _ [W.heap.size] _ ⟨_, rfl, Blk.new W _ _, rfl⟩ ((Mod.refl [] W).alloc _) (by simp))
  | 9, _ =>
    obtain rfl := Option.some.inj ho
    obtain ⟨v, bs, e1, rfl, _⟩ := h2 8 20 (by kernel_rfl)
    have t1 := e1
    exact value_step (by simp [execOp, t1, go_sem, m2.out W]) (hK _ [W.heap.size] _ ⟨_, rfl, Blk.new W _ _, rfl⟩ ((Mod.refl [] W).alloc _) (by simp))
 case done =>
  intro V Bs W hM hRV hAp
  obtain ⟨⟨e0, _⟩, _⟩ := hRV 0 (by omega)
  obtain ⟨⟨g, b1, b2, b3, ks, nx, e1, hS, s1⟩, f1⟩ := hRV 1 (by omega)
  obtain ⟨⟨e2, _⟩, _⟩ := hRV 2 (by omega)
  obtain ⟨⟨nb, e3, hn3, s3⟩, f3⟩ := hRV 3 (by omega)
  obtain ⟨⟨e4, _⟩, _⟩ := hRV 4 (by omega)
  obtain ⟨⟨eb, e5, hn5, s5⟩, f5⟩ := hRV 5 (by omega)
  obtain ⟨⟨e6, _⟩, _⟩ := hRV 6 (by omega)
  obtain ⟨⟨ob, e7, hn7, s7⟩, f7⟩ := hRV 7 (by omega)
  obtain ⟨⟨e8, _⟩, _⟩ := hRV 8 (by omega)
  obtain ⟨⟨wb, e9, hn9, s9⟩, f9⟩ := hRV 9 (by omega)
  simp only [putAll, List.take_succ_cons, List.take_zero, List.drop_succ_cons, List.drop_zero, Nat.reduceAdd, e0, e1, e2, e3, e4, e5, e6, e7, e8, e9]
  have hwW := hM.size
  have hdr : w0.drew.heap.size = w0.heap.size := rfl
  have A1 := hAp 1 3 (by omega) (by omega) (by omega)
  have A2 := hAp 1 5 (by omega) (by omega) (by omega)
  have A3 := hAp 1 7 (by omega) (by omega) (by omega)
  have A4 := hAp 1 9 (by omega) (by omega) (by omega)
  have A5 := hAp 3 5 (by omega) (by omega) (by omega)
  have A6 := hAp 3 7 (by omega) (by omega) (by omega)
  have A7 := hAp 3 9 (by omega) (by omega) (by omega)
  have A8 := hAp 5 7 (by omega) (by omega) (by omega)
  have A9 := hAp 5 9 (by omega) (by omega) (by omega)
  have A10 := hAp 7 9 (by omega) (by omega) (by omega)
  rw [s1] at A1 A2 A3 A4 f1
  rw [s3] at A1 A5 A6 A7 f3
  rw [s5] at A2 A5 A8 A9 f5
  rw [s7] at A3 A6 A8 A10 f7
  rw [s9] at A4 A7 A9 A10 f9
  have fresh3 := f3 nb (by simp)
  have fresh5 := f5 eb (by simp)
  have fresh7 := f7 ob (by simp)
  have fresh9 := f9 wb (by simp)
  have DJ : Hid ((nb ∉ [g, b1, b2, b3] ∧ eb ∉ [g, b1, b2, b3] ∧ ob ∉ [g, b1, b2, b3] ∧ wb ∉ [g, b1, b2, b3]) ∧ (nb ≠ eb ∧ nb ≠ ob ∧ nb ≠ wb) ∧ (eb ≠ ob ∧ eb ≠ wb) ∧ ob ≠ wb) :=
   Lib.hid ⟨⟨fun h => A1 _ h (by simp), fun h => A2 _ h (by simp), fun h => A3 _ h (by simp), fun h => A4 _ h (by simp)⟩, ⟨fun h => A5 nb (by simp) (by simp [h]), fun h => A6 nb (by simp) (by simp [h]), fun h => A7 nb (by simp) (by simp [h])⟩, ⟨fun h => A8 eb (by simp) (by simp [h]), fun h => A9 eb (by simp) (by simp [h])⟩, fun h => A10 ob (by simp) (by simp [h])⟩
  have gl : Hid (∀ b ∈ [g, b1, b2, b3], w.heap.size ≤ b ∧ b < W.heap.size) := Lib.hid fun b hb => by have := f1 b hb; omega
  have M1 := Lib.hid (M0.out.trans (((Mod.refl [] w0).drew.trans (show Mod [] w0.drew W from hM))))
  have S1 := Lib.hid hS
  have N1 := Lib.hid hn3
  have N2 := Lib.hid hn5
  have N3 := Lib.hid hn7
  have N4 := Lib.hid hn9
  have R1 := Lib.hid (hM.blk R0.out.drew (by simp))
  clear A1 A2 A3 A4 A5 A6 A7 A8 A9 A10 s1 s3 s5 s7 s9 e0 e1 e2 e3 e4 e5 e6 e7 e8 e9 hRV hAp f1 f3 f5 f7 f9 hS hn3 hn5 hn7 hn9 hM hdr
  go_wp2_with fail
  have PB0 := Lib.hid (Blk.new W [.pointer (some ⟨g, 0, none⟩), .pointer none, .slice (some ⟨nb, 0, none⟩) n n, .slice (some ⟨eb, 0, none⟩) n n, .slice (some ⟨ob, 0, none⟩) n n, .slice (some ⟨wb, 0, none⟩) n n, .int .i64 0] 128)
  have A2 := Lib.hid ((Mod.refl [] W).alloc (.cells #[.pointer (some ⟨g, 0, none⟩), .pointer none, .slice (some ⟨nb, 0, none⟩) n n, .slice (some ⟨eb, 0, none⟩) n n, .slice (some ⟨ob, 0, none⟩) n n, .slice (some ⟨wb, 0, none⟩) n n, .int .i64 0] 128))
  have RA := Lib.hid (A2.out.blk R1.out (by simp))
  have SA := Lib.hid (S1.out.mod A2.out (by simp))
  have r0 := RA.out.cell (i := 0) rfl
  have r1 := RA.out.cell (i := 1) rfl
  have r2 := RA.out.cell (i := 2) rfl
  refine wp_region_lex (by kernel_rfl) (by kernel_rfl) ?_
  go_wp2_with fail
  refine (NI.out _ g b1 b2 b3 ks nx (SA.out.mod (Mod.drew (Mod.refl [] _)) (by simp))).mono ?_
  rintro e3 w3 ⟨x, L, rfl, hI, hL, hx, hM3⟩
  have I3 := Lib.hid hI
  have M3 := Lib.hid ((M1.out.trans A2.out).drew.trans hM3)
  have PB3 := Lib.hid (hM3.blk PB0.out.drew (by simp))
  have Q1 := Lib.hid (hM3.blk (A2.out.drew.blk N1.out (by simp)) (by simp))
  have Q2 := Lib.hid (hM3.blk (A2.out.drew.blk N2.out (by simp)) (by simp))
  have Q3 := Lib.hid (hM3.blk (A2.out.drew.blk N3.out (by simp)) (by simp))
  have Q4 := Lib.hid (hM3.blk (A2.out.drew.blk N4.out (by simp)) (by simp))
  have p1 := PB3.out.cell (i := 1) rfl
  have f1 := PB3.out.free 1
  have hL2 : ∀ b ∈ L, b ∈ [g, b1, b2, b3] ∨ W.heap.size + 1 ≤ b := fun b hb => by
   rcases hL b hb with h | h
   ·exact .inl h
   ·right
    have : (W.alloc (.cells #[.pointer (some ⟨g, 0, none⟩), .pointer none, .slice (some ⟨nb, 0, none⟩) n n, .slice (some ⟨eb, 0, none⟩) n n, .slice (some ⟨ob, 0, none⟩) n n, .slice (some ⟨wb, 0, none⟩) n n, .int .i64 0] 128)).drew.heap.size = W.heap.size + 1 := by show (W.alloc _).heap.size = _; simp
    omega
  have NL : Hid (W.heap.size ∉ L ∧ nb ∉ L ∧ eb ∉ L ∧ ob ∉ L ∧ wb ∉ L) := by
   refine Lib.hid ⟨fun h => ?_, fun h => ?_, fun h => ?_, fun h => ?_, fun h => ?_⟩
   ·rcases hL2 _ h with q | q
    ·have := gl.out _ q; omega
    ·omega
   ·rcases hL2 _ h with q | q
    ·exact DJ.out.1.1 q
    ·omega
   ·rcases hL2 _ h with q | q
    ·exact DJ.out.1.2.1 q
    ·omega
   ·rcases hL2 _ h with q | q
    ·exact DJ.out.1.2.2.1 q
    ·omega
   ·rcases hL2 _ h with q | q
    ·exact DJ.out.1.2.2.2 q
    ·omega
  have LG : Hid (∀ b, b ∈ L → w.heap.size ≤ b) := Lib.hid fun b hb => by
   rcases hL2 b hb with hq | hq
   ·exact (gl.out b hq).1
   ·omega
  clear hI hL hL2 hM3 r0 r1 r2 hx
  go_wp2_with fail
  refine ⟨by kernel_rfl, ?_⟩
  go_wp2_with fail
  go_ret
  have MS := ((Mod.refl [W.heap.size] w3).setCell (p := ⟨W.heap.size, 1, none⟩) (.inl (by simp)) (.pointer (some ⟨x, 0, none⟩)))
  have he : (emp n).length = n := by simp [emp]
  obtain ⟨_, ⟨n1, n2, n3⟩, ⟨n4, n5⟩, n6⟩ := DJ.out
  refine ⟨⟨W.heap.size, x, g, L, nb, eb, ob, wb, ⟨rx, ra, rb⟩⟩, rfl, ⟨emp n, List.range n, List.replicate n 0, List.replicate n 0, List.replicate n 0, List.replicate n 0, [], he, ⟨?_, I3.out.mod MS (fun b hb hb' => by simp at hb'; subst hb'; exact NL.out.1 hb), MS.blk Q1.out (by simp; omega), MS.blk Q2.out (by simp; omega), MS.blk Q3.out (by simp; omega), MS.blk Q4.out (by simp; omega), by rw [he]; simp, by rw [he]; simp, by rw [he]; simp, by rw [he]; simp, by rw [he]; exact whole_emp n, ?_, ?_⟩, ⟨rfl, List.nodup_nil, fun p key hp => ?_, fun k p e hk => by simp at hk⟩⟩, fun b hb => ?_, M3.out.trans' MS (fun b hb => .inr (by simp at hb; omega))⟩
  ·rw [he]; exact PB3.out.set 1 _
  ·simp only [SB.own, List.nodup_cons, List.mem_cons, List.not_mem_nil, or_false, not_or, List.nodup_nil, and_true, not_false_eq_true]
   exact ⟨⟨by omega, by omega, by omega, by omega⟩, ⟨n1, n2, n3⟩, ⟨n4, n5⟩, n6⟩
  ·intro b hb
   simp only [SB.own, List.mem_cons, List.not_mem_nil, or_false] at hb
   rcases hb with rfl | rfl | rfl | rfl | rfl
   ·exact NL.out.1
   ·exact NL.out.2.1
   ·exact NL.out.2.2.1
   ·exact NL.out.2.2.2.1
   ·exact NL.out.2.2.2.2
  ·unfold emp at hp
   rw [List.getElem?_replicate] at hp
   split at hp <;> simp at hp
  ·simp only [SB.all, List.mem_cons] at hb
   rcases hb with rfl | rfl | rfl | rfl | rfl | hb
   ·omega
   ·omega
   ·omega
   ·omega
   ·omega
   ·exact LG.out b hb
end Go.Proofs.Ytndekdafiaogmaa.Sum
end
section
namespace Go.Proofs.Ytndekdafiaogmaa.Sum
open Go Go.RowKit Go.YtndekdafiaogmaaMem Go.YtndekdafiaogmaaLex Go.Proofs.Ytndekdafiaogmaa.Hash Go.Proofs.Ytndekdafiaogmaa.Keys Go.Proofs.Ytndekdafiaogmaa.Index
theorem i64s_get {N : List Int} {p : Nat} {z : Int} (h : N[p]? = some z) : (i64s N)[p]? = some (.int .i64 z) := by unfold i64s; rw [List.getElem?_map, h]; rfl
theorem i32s_get {N : List Int} {p : Nat} {z : Int} (h : N[p]? = some z) : (i32s N)[p]? = some (.int .i32 z) := by unfold i32s; rw [List.getElem?_map, h]; rfl
theorem i64s_set (N : List Int) (p : Nat) (z : Int) : (i64s N).set p (.int .i64 z) = i64s (N.set p z) := by unfold i64s; rw [List.map_set]
theorem i32s_set (N : List Int) (p : Nat) (z : Int) : (i32s N).set p (.int .i32 z) = i32s (N.set p z) := by unfold i32s; rw [List.map_set]
section
variable {w : World} {B : SB} {S : List (Option (List UInt8))} {fl : List Nat} {N Er O W : List Int} {total : Int}
theorem len_c (h : SumC w B S fl N Er O W total) : Calls Try.prog 66 #[.pointer (some ⟨B.p, 0, none⟩)] w fun e w' => e = .returned (.int .i64 (used S : Nat)) ∧ w = w' := by
 have U := Lib.hid (used_at h.idx)
 have c0 := h.blk.cell (i := 0) rfl
 clear h
 generalize used S = u at *
 go_enter Try.func66, Try.ntmps66
 go_wp2_with fail
 refine U.out.mono ?_
 rintro e1 w1 ⟨rfl, rfl⟩
 go_wp2_with fail
 go_ret
 exact ⟨rfl, rfl⟩
end
section
variable {w : World} {B : SB} {n : Nat} {E : List Ent} {total : Int}
theorem len_any (h : SumAt w B n E total) : Calls Try.prog 66 #[.pointer (some ⟨B.p, 0, none⟩)] w fun e w' => e = .returned (.int .i64 (E.length : Nat)) ∧ w = w' := by
 obtain ⟨S, fl, N, Er, O, W, ps, h1, h2, h3⟩ := h
 have := len_c h2
 rwa [h3.used] at this
theorem total_any (h : SumAt w B n E total) : Calls Try.prog 48 #[.pointer (some ⟨B.p, 0, none⟩)] w fun e w' => e = .returned (.int .i64 total) ∧ w = w' := by
 obtain ⟨S, fl, N, Er, O, W, ps, h1, h2, h3⟩ := h
 have c6 := h2.blk.cell (i := 6) rfl
 clear h1 h2 h3
 go_enter Try.func48, Try.ntmps48
 go_wp2_with fail
 go_ret
 exact ⟨rfl, rfl⟩
def countE (E : List Ent) (key : List UInt8) : Int × Int × Bool :=
 match findE E key with
 | some k => ((E.getD k default).n, (E.getD k default).err, true)
 | none => (0, 0, false)
def CountPost (c : Int × Int × Bool) (w : World) (e : Ending) (w' : World) : Prop := e = .returned (.tuple #[.int .i64 c.1, .int .i64 c.2.1, .bool c.2.2]) ∧ Mod [] w w'
set_option maxRecDepth 4000 in
theorem count_any (h : SumAt w B n E total) (key : List UInt8) (hl : key.length ≤ 1000000) :
  Calls Try.prog 93 #[.pointer (some ⟨B.p, 0, none⟩), .string ⟨key.toArray⟩] w (CountPost (countE E key) w) := by
 obtain ⟨S, fl, N, Er, O, W, ps, h1, h2, h3⟩ := h
 have F := Lib.hid (Index.find_any h2.idx key hl)
 have hfew := h2.few
 have HB := Lib.hid h2.blk
 have c1 := h2.blk.cell (i := 1) rfl
 unfold CountPost
 cases hf : findE E key with
 | none =>
   rw [h3.find_none hf] at F
   simp only [optInt] at F
   have hc : countE E key = (0, 0, false) := by unfold countE; rw [hf]
   rw [hc]
   clear h1 h2 h3 hf hc
   go_enter Try.func93, Try.ntmps93
   go_wp2_with fail
   refine F.out.mono ?_
   rintro e1 w1 ⟨rfl, hM⟩
   have M1 := Lib.hid hM
   clear hM
   go_wp2_with fail
   refine bodyPost_ret (v := .tuple #[.int .i64 0, .int .i64 0, .bool false]) (by simp [results, Try.results93, go_sem]) rfl ?_
   exact ⟨rfl, M1.out⟩
 | some k =>
   obtain ⟨p, e, hp, he, hk, hpl⟩ := h3.find_some h2.idx.uniq hf
   obtain ⟨hS, hN, hE, hO, hW⟩ := h3.at_ k p e hp he
   rw [hpl] at F
   simp only [optInt] at F
   have hc : countE E key = (e.n, e.err, true) := by unfold countE; rw [hf]; simp only; rw [List.getD_eq_getElem?_getD, he]; rfl
   rw [hc]
   have CN := Lib.hid (show ∀ W', Mod [] w W' → W'.cell? ⟨B.nb, p, none⟩ = some (.int .i64 e.n) ∧ W'.cell? ⟨B.eb, p, none⟩ = some (.int .i64 e.err) from fun W' hM => ⟨(hM.blk h2.cn (by simp)).cell (i64s_get hN), (hM.blk h2.ce (by simp)).cell (i64s_get hE)⟩)
   have hpS : p < S.length := (List.getElem?_eq_some_iff.1 hS).1
   clear h1 h2 h3 hf hc hS hN hE hO hW hp he hk hpl
   generalize S.length = m at *
   obtain ⟨ek, en, ee⟩ := e
   simp only at *
   go_enter Try.func93, Try.ntmps93
   go_wp2_with fail
   refine F.out.mono ?_
   rintro e1 w1 ⟨rfl, hM⟩
   obtain ⟨n1, n2⟩ := CN.out w1 hM
   have M1 := Lib.hid hM
   have c2 := (hM.blk HB.out (by simp)).cell (i := 2) rfl
   have c3 := (hM.blk HB.out (by simp)).cell (i := 3) rfl
   clear hM
   go_wp2_with fail
   refine wp_region_lex (by kernel_rfl) (by kernel_rfl) ?_
   go_wp2_with fail
   refine ⟨by kernel_rfl, ?_⟩
   go_wp2_with fail
   refine bodyPost_ret (v := .tuple #[.int .i64 en, .int .i64 ee, .bool true]) (by simp [results, Try.results93, go_sem]) rfl ?_
   exact ⟨rfl, M1.out.drew⟩
set_option maxRecDepth 4000 in
theorem least_any (h : SumAt w B n E total) (hn1 : 1 ≤ n) (hle : E.length ≤ n) : Calls Try.prog 94 #[.pointer (some ⟨B.p, 0, none⟩)] w fun e w' => e = .returned (.int .i64 (leastOf n E)) ∧ Mod [] w w' := by
 obtain ⟨S, fl, N, Er, O, W, ps, rfl, h2, h3⟩ := h
 have L := Lib.hid (len_c (h2.mod ((Mod.refl [] w).drew) (by simp)))
 rw [h3.used] at L
 have hfew := h2.few
 have c2 := h2.blk.cell (i := 2) rfl
 have c4 := h2.blk.cell (i := 4) rfl
 have isc : IsC w.drew B.p := isC_of_cell (w := w) c2
 have IS := Lib.hid isc
 unfold leastOf
 by_cases hl : E.length = S.length
 ·rw [if_pos hl]
  obtain ⟨p, e, hp, he, hS, hN, hE, hO, hW⟩ := h3.get (k := S.length - 1) (by omega)
  have c5 := h2.co.cell (i32s_get hO)
  have c6 := h2.cn.cell (i64s_get hN)
  have hpS : p < S.length := (List.getElem?_eq_some_iff.1 hS).1
  have hg : (E.getD (S.length - 1) default).n = e.n := by rw [List.getD_eq_getElem?_getD, he]; rfl
  rw [hg]
  have d1 : decide (E.length < S.length) = false := by simp; omega
  have d2 : decide ((E.length : Int) < S.length) = false := by simp; omega
  have hi : ((S.length : Int) - 1) = ((S.length - 1 : Nat) : Int) := by omega
  have hlt : S.length - 1 < S.length := by omega
  clear h2 h3 isc hS hN hE hO hW hp he hl hg
  generalize hm1 : S.length - 1 = m1 at *
  have hm : (S.length : Int) - 1 = (m1 : Int) := by omega
  clear hm1 hi
  generalize S.length = m at *
  obtain ⟨ek, en, ee⟩ := e
  simp only at *
  go_enter Try.func94, Try.ntmps94
  go_wp2_with fail
  refine Go.YtndekdafiaogmaaLex.wp_region_held [5] [8] [] (by kernel_rfl) (by kernel_rfl) ?_
  simp only [wpCut, List.take_succ_cons, List.take_zero, List.drop_succ_cons, List.drop_zero, List.cons_append, List.nil_append]
  go_wp2_with fail
  refine L.out.mono ?_
  rintro e1 w1 ⟨rfl, rfl⟩
  go_wp2_with fail
  refine ⟨Mod.refl _ _, ?_⟩
  go_wp2_with fail
  refine ⟨by kernel_rfl, ⟨⟨by simp, IS.out⟩, trivial⟩, ?_⟩
  go_wp2_with fail
  refine wp_region_lex (by kernel_rfl) (by kernel_rfl) ?_
  go_wp2_with fail
  refine ⟨by kernel_rfl, ?_⟩
  go_wp2_with fail
  go_ret
  exact ⟨rfl, ((Mod.refl [] w).drew).drew⟩
 ·rw [if_neg hl]
  have d1 : decide ((E.length : Int) < S.length) = true := by simp; omega
  have d2 : decide (E.length < S.length) = true := by simp; omega
  clear h2 h3 isc
  generalize E.length = u at *
  generalize S.length = m at *
  go_enter Try.func94, Try.ntmps94
  go_wp2_with fail
  refine Go.YtndekdafiaogmaaLex.wp_region_held [5] [8] [] (by kernel_rfl) (by kernel_rfl) ?_
  simp only [wpCut, List.take_succ_cons, List.take_zero, List.drop_succ_cons, List.drop_zero, List.cons_append, List.nil_append]
  go_wp2_with fail
  refine L.out.mono ?_
  rintro e1 w1 ⟨rfl, rfl⟩
  go_wp2_with fail
  refine ⟨Mod.refl _ _, ?_⟩
  go_wp2_with fail
  refine ⟨by kernel_rfl, ⟨⟨by simp, IS.out⟩, trivial⟩, ?_⟩
  go_wp2_with fail
  go_ret
  exact ⟨rfl, (Mod.refl [] w).drew⟩
end
/-! Of nil. -/
end Go.Proofs.Ytndekdafiaogmaa.Sum
end
section
namespace Go.Proofs.Ytndekdafiaogmaa.Sum
open Go Go.RowKit Go.YtndekdafiaogmaaMem Go.YtndekdafiaogmaaLex Go.Proofs.Ytndekdafiaogmaa.Hash Go.Proofs.Ytndekdafiaogmaa.Keys Go.Proofs.Ytndekdafiaogmaa.Index
theorem key_at {w : World} {x g : Nat} {L : List Nat} {r : Row} {S : List (Option (List UInt8))} {fl : List Nat} (h : IdxAt w x g L r S fl) (i : Int) : Calls Try.prog 90 #[.pointer (some ⟨g, 0, none⟩), .int .i64 i] w (KeyPost (Keys.keyOf S i) w) := by
 obtain ⟨b1, b2, b3, t, bs, nx, T, rfl, h⟩ := h
 exact key_any h.sto i
section
variable {w : World} {B : SB} {S : List (Option (List UInt8))} {fl : List Nat} {N Er O W : List Int} {total : Int} {ps : List Nat} {E : List Ent}
theorem Rep.dropped {p : Nat} {e : Ent} (h : Rep S N Er O W (ps ++ [p]) (E ++ [e])) : Rep (S.set p none) N Er O W ps E := by
 have hnd := h.nd
 rw [List.nodup_append] at hnd
 have hlen : ps.length = E.length := by have := h.len; simpa using this
 refine ⟨hlen, hnd.1, fun q key hq => ?_, fun k q e' hk he => ?_⟩
 ·by_cases hqp : p = q
  ·subst hqp
   rw [List.getElem?_set] at hq
   split at hq
   ·split at hq <;> cases hq
   ·exact absurd rfl ‹_›
  ·rw [List.getElem?_set_ne hqp] at hq
   have := h.all q key hq
   rcases List.mem_append.1 this with h1 | h1
   ·exact h1
   ·simp at h1; exact absurd h1.symm hqp
 ·have hkl : k < ps.length := (List.getElem?_eq_some_iff.1 hk).1
  have hqp : p ≠ q := fun hpq => hnd.2.2 q (List.mem_of_getElem? hk) p (by simp) hpq.symm
  rw [List.getElem?_set_ne hqp]
  exact h.at_ k q e' (by rw [List.getElem?_append_left hkl]; exact hk) (by rw [List.getElem?_append_left (by omega)]; exact he)
end
def DropPost (B : SB) (n : Nat) (E : List Ent) (total z : Int) (w : World) (e : Ending) (w' : World) : Prop := e = .returned (.int .i64 z) ∧ SumAt w' B n E total ∧ Mod B.all w w'
set_option maxRecDepth 4000 in
set_option maxHeartbeats 1600000 in
theorem drop_any {w : World} {B : SB} {n : Nat} {E : List Ent} {e : Ent} {total : Int} (h : SumAt w B n (E ++ [e]) total) :
  Calls Try.prog 67 #[.pointer (some ⟨B.p, 0, none⟩)] w (DropPost B n E total e.n w) := by
 obtain ⟨S, fl, N, Er, O, W, ps0, rfl, h2, h3⟩ := h
 have hpl := h3.len
 obtain ⟨ps, p, rfl⟩ : ∃ ps p, ps0 = ps ++ [p] := by
  rcases List.eq_nil_or_concat ps0 with rfl | ⟨ps, p, rfl⟩
  ·simp at hpl
  ·exact ⟨ps, p, by simp⟩
 have hl2 : ps.length = E.length := by simpa using hpl
 obtain ⟨hS, hN, hE, hO, hW⟩ := h3.at_ E.length p e (by rw [← hl2]; simp) (by simp)
 have hpl2 : placeOf S e.key = some p := placeOf_there h2.idx.uniq hS
 have L := Lib.hid (len_c (h2.mod ((Mod.refl [] w).drew) (by simp)))
 rw [h3.used, List.length_append, List.length_singleton] at L
 have hfew := h2.few
 have hpS : p < S.length := (List.getElem?_eq_some_iff.1 hS).1
 have hES : E.length < S.length := by have := (List.getElem?_eq_some_iff.1 hO).1; rw [h2.lo] at this; exact this
 have k64 := h2.idx.short hS
 have KY := Lib.hid (fun W' (hM : Mod [] w W') => key_at (h2.idx.mod hM (by simp)) (p : Int))
 rw [keyOf_some hS] at KY
 have RM := Lib.hid (fun W' (hM : Mod [] w W') => remove_any (h2.idx.mod hM (by simp)) e.key (by omega))
 have hr : remS S fl e.key = ((p : Int), S.set p none, p :: fl) := by unfold remS; rw [hpl2]
 rw [hr] at RM
 have c0 := h2.blk.cell (i := 0) rfl
 have c1 := h2.blk.cell (i := 1) rfl
 have c4 := h2.blk.cell (i := 4) rfl
 have cO := h2.co.cell (i32s_get hO)
 have isc : IsC w.drew B.p := isC_of_cell (w := w) c4
 have IS := Lib.hid isc
 have H2 := Lib.hid h2
 have H3 := Lib.hid h3
 have WD := Lib.hid (whole_del h2.whole hS)
 have CN := Lib.hid (i64s_get hN)
 clear h2 h3 isc hS hN hE hO hW hpl hl2 hpl2 hr
 obtain ⟨key, en, ee⟩ := e
 simp only at *
 go_enter Try.func67, Try.ntmps67
 go_wp2_with fail
 refine Go.YtndekdafiaogmaaLex.wp_region_held [6] [3] [] (by kernel_rfl) (by kernel_rfl) ?_
 simp only [wpCut, List.take_succ_cons, List.take_zero, List.drop_succ_cons, List.drop_zero, List.cons_append, List.nil_append]
 go_wp2_with fail
 refine L.out.mono ?_
 rintro e1 w1 ⟨rfl, rfl⟩
 have hs1 : (((E.length + 1 : Nat) : Int) - 1) = (E.length : Int) := by omega
 go_wp2_with fail
 refine ⟨Mod.refl _ _, ?_⟩
 go_wp2_with fail
 refine ⟨by kernel_rfl, ⟨⟨by simp, IS.out⟩, trivial⟩, ?_⟩
 clear c4 cO
 go_wp2_with fail
 refine (KY.out _ ((Mod.refl [] w).drew)).mono ?_
 rintro e2 w2 ⟨rfl, hM2⟩
 have M2 := Lib.hid ((Mod.refl [] w).drew.trans hM2)
 have c1 := (M2.out.blk H2.out.blk (by simp)).cell (i := 1) rfl
 clear hM2 c0
 go_wp2_with fail
 refine (RM.out _ M2.out).mono ?_
 rintro e3 w3 ⟨rfl, hI3, hM3⟩
 have M3 := Lib.hid ((M2.out.mono (S' := B.L) (by simp)).trans hM3)
 have I3 := Lib.hid hI3
 have NI := Lib.hid H2.out.ni
 have BP := Lib.hid (M3.out.blk H2.out.blk (NI.out _ (by simp [SB.own])))
 have BN := Lib.hid (M3.out.blk H2.out.cn (NI.out _ (by simp [SB.own])))
 have c2 := BP.out.cell (i := 2) rfl
 have cp := BN.out.cell CN.out
 clear hI3 hM3 c1
 go_wp2_with fail
 go_ret
 have h := H2.out
 have hl : (S.set p none).length = S.length := by rw [List.length_set]
 refine ⟨rfl, ⟨S.set p none, p :: fl, N, Er, O, W, ps, hl, ⟨by rw [hl]; exact BP.out, I3.out, BN.out, M3.out.blk h.ce (NI.out _ (by simp [SB.own])), M3.out.blk h.co (NI.out _ (by simp [SB.own])), M3.out.blk h.cw (NI.out _ (by simp [SB.own])), by rw [hl]; exact h.ln, by rw [hl]; exact h.le, by rw [hl]; exact h.lo, by rw [hl]; exact h.lw, by rw [hl]; exact WD.out.1, h.nd, h.ni⟩, H3.out.dropped⟩, M3.out.mono (fun b hb => .inl (own_all B b hb))⟩
def usedAt (g : Nat) (w : World) : Nat := match w.cell? ⟨g, 4, none⟩ with | some (.int _ z) => z.toNat | _ => 0
theorem SumAt.usedAt {w : World} {B : SB} {n : Nat} {E : List Ent} {total : Int} (h : SumAt w B n E total) : Sum.usedAt B.g w = E.length := by
 obtain ⟨S, fl, N, Er, O, W, ps, h1, h2, h3⟩ := h
 have hi := h2.idx
 obtain ⟨b1, b2, b3, t, bs, nx, T, _, hx⟩ := hi
 unfold Sum.usedAt
 rw [hx.sto.blk.cell (i := 4) rfl, ← h3.used]
 simp
def ClearPost (B : SB) (n : Nat) (w : World) (e : Ending) (w' : World) : Prop := (∃ v, e = .returned v) ∧ SumAt w' B n [] 0 ∧ Mod B.all w w'
theorem SumAt.zero {w : World} {B : SB} {n : Nat} {E : List Ent} {total t : Int} (h : SumAt w B n E total) : SumAt (w.setCell ⟨B.p, 6, none⟩ (.int .i64 t)) B n E t := by
 obtain ⟨S, fl, N, Er, O, W, ps, h1, h2, h3⟩ := h
 have MS := (Mod.refl [B.p] w).setCell (p := ⟨B.p, 6, none⟩) (.inl (by simp)) (.int .i64 t)
 obtain ⟨⟨n1, n2, n3, n4⟩, _⟩ := h2.ne
 exact ⟨S, fl, N, Er, O, W, ps, h1, ⟨h2.blk.set 6 _, h2.idx.mod MS (fun b hb hb' => by simp at hb'; subst hb'; exact h2.ni _ (by simp [SB.own]) hb), MS.blk h2.cn (by simp; exact fun e => n1 e.symm), MS.blk h2.ce (by simp; exact fun e => n2 e.symm), MS.blk h2.co (by simp; exact fun e => n3 e.symm), MS.blk h2.cw (by simp; exact fun e => n4 e.symm), h2.ln, h2.le, h2.lo, h2.lw, h2.whole, h2.nd, h2.ni⟩, h3⟩
set_option maxRecDepth 4000 in
set_option maxHeartbeats 1600000 in
theorem clear_any {w : World} {B : SB} {n : Nat} {E : List Ent} {total : Int} (h : SumAt w B n E total) :
  Calls Try.prog 64 #[.pointer (some ⟨B.p, 0, none⟩)] w (ClearPost B n w) := by
 have H := Lib.hid h
 clear h
 go_enter Try.func64, Try.ntmps64
 go_wp2_with fail
 go_loopw [] (fun wr => ∃ E', SumAt wr B n E' total ∧ Mod B.all w wr) (fun wr => Sum.usedAt B.g wr)
 case atStart => exact ⟨E, H.out, Mod.refl _ _⟩
 case round =>
  clear H
  obtain ⟨E', hA, hM⟩ := hrel
  have hu := hA.usedAt
  have MR := Lib.hid hM
  rcases List.eq_nil_or_concat E' with rfl | ⟨E1, e, rfl⟩
  ·have AR := Lib.hid hA
   have L := Lib.hid (len_any hA)
   simp only [List.length_nil] at L
   have Z := Lib.hid (hA.zero (t := 0))
   obtain ⟨S, fl, N, Er, O, W, ps, h1, h2, h3⟩ := hA
   have c6 := h2.blk.cell (i := 6) rfl
   have f6 := h2.blk.free 6
   clear hM hu h1 h2 h3
   go_wp2_with fail
   refine L.out.mono ?_
   rintro e1 w1 ⟨rfl, rfl⟩
   go_wp2_with fail
   exact bodyPost_ret (results_none rfl _ _ _) rfl ⟨⟨_, rfl⟩, Z.out, MR.out.setCell (p := ⟨B.p, 6, none⟩) (.inl (by simp [SB.all])) _⟩
  ·rw [List.concat_eq_append] at hA hu
   have L := Lib.hid (len_any hA)
   have D := Lib.hid (drop_any hA)
   have d1 : decide ((0 : Int) < ((E1 ++ [e]).length : Nat)) = true := by simp
   have d2 : decide (0 < (E1 ++ [e]).length) = true := by simp
   have HU := Lib.hid hu
   generalize hlen : (E1 ++ [e]).length = u at *
   clear hA hM hu
   go_wp2_with fail
   refine L.out.mono ?_
   rintro e1 w1 ⟨rfl, rfl⟩
   go_wp2_with fail
   refine D.out.mono ?_
   rintro e2 w2 ⟨rfl, hA2, hM2⟩
   have A2 := Lib.hid hA2
   have M2 := Lib.hid (MR.out.trans hM2)
   clear hA2 hM2
   go_wp2_with fail
   go_roundw
   case rel => exact ⟨E1, A2.out, M2.out⟩
   case measure => rw [A2.out.usedAt, HU.out, ← hlen]; simp
end Go.Proofs.Ytndekdafiaogmaa.Sum
end
section
namespace Go.Proofs.Ytndekdafiaogmaa.Sum
open Go Go.RowKit Go.YtndekdafiaogmaaMem Go.YtndekdafiaogmaaLex Go.Proofs.Ytndekdafiaogmaa.Hash Go.Proofs.Ytndekdafiaogmaa.Keys Go.Proofs.Ytndekdafiaogmaa.Index
structure Hole (k a : Nat) (ps : List Nat) (m : Nat) (O W : List Int) : Prop where
 lo : O.length = m
 lw : W.length = m
 at_ : ∀ j p, j ≠ a → (move k a ps)[j]? = some p → O[j]? = some (p : Int) ∧ W[p]? = some (j : Int)
section
variable {S : List (Option (List UInt8))} {N Er O W : List Int} {ps : List Nat} {E : List Ent} {k a m : Nat}
theorem move_self {α : Type} {k : Nat} {l : List α} (hk : k < l.length) : move k k l = l := by
 apply List.ext_getElem?
 intro j
 rw [move_get hk (Nat.le_refl _)]
 split
 ·rfl
 ·split
  ·rename_i h; rw [h]
  ·split
   ·omega
   ·rfl
theorem hole_start (h : Rep S N Er O W ps E) (hk : k < E.length) (lo : O.length = m) (lw : W.length = m) : Hole k k ps m O W := by
 refine ⟨lo, lw, fun j p hj hp => ?_⟩
 rw [move_self (by rw [h.len]; exact hk)] at hp
 have hjl : j < E.length := by rw [← h.len]; exact (List.getElem?_eq_some_iff.1 hp).1
 obtain ⟨h1, h2, h3, h4, h5⟩ := h.at_ j p _ hp (List.getElem?_eq_getElem hjl)
 exact ⟨h4, h5⟩
theorem nodup_ne {ps : List Nat} (hnd : ps.Nodup) {i j p q : Nat} (h1 : ps[i]? = some p) (h2 : ps[j]? = some q) (hne : i ≠ j) : p ≠ q := by
 rintro rfl
 have hi : i < ps.length := (List.getElem?_eq_some_iff.1 h1).1
 exact hne ((List.getElem?_inj hi hnd).1 (h1.trans h2.symm))
theorem hole_next {b q : Nat} (hnd : ps.Nodup) (hlt : ∀ p ∈ ps, p < m) (hpm : ps.length ≤ m) (hk : k < ps.length) (hb : b + 1 ≤ k) (hq : ps[b]? = some q) (h : Hole k (b + 1) ps m O W) : Hole k b ps m (O.set (b + 1) (q : Int)) (W.set q ((b + 1 : Nat) : Int)) := by
 have hqm : q < m := hlt q (List.mem_of_getElem? hq)
 refine ⟨by rw [List.length_set]; exact h.lo, by rw [List.length_set]; exact h.lw, fun j p hj hp => ?_⟩
 rw [move_get hk (by omega)] at hp
 rcases Nat.lt_trichotomy j b with hjb | hjb | hjb
 ·rw [if_pos hjb] at hp
  have h0 := h.at_ j p (by omega) (by rw [move_get hk (by omega), if_pos (by omega)]; exact hp)
  have hne := nodup_ne hnd hq hp (by omega)
  rw [List.getElem?_set_ne (by omega), List.getElem?_set_ne hne]
  exact h0
 ·omega
 ·rw [if_neg (by omega), if_neg (by omega)] at hp
  by_cases hjb1 : j = b + 1
  ·subst hjb1
   rw [if_pos hb, Nat.add_sub_cancel, hq] at hp
   obtain rfl : q = p := by simpa using hp
   exact ⟨by rw [List.getElem?_set_self (by rw [h.lo]; omega)], by rw [List.getElem?_set_self (by rw [h.lw]; omega)]⟩
  ·have h0 := h.at_ j p (by omega) (by rw [move_get hk (by omega), if_neg (by omega), if_neg (by omega)]; exact hp)
   have hne : q ≠ p := by
    split at hp
    ·exact nodup_ne hnd hq hp (by omega)
    ·exact nodup_ne hnd hq hp (by omega)
   rw [List.getElem?_set_ne (by omega), List.getElem?_set_ne hne]
   exact h0
theorem move_at (hr : Rep S N Er O W ps E) (hk : k < E.length) (ha : a ≤ k) {j p : Nat} {e : Ent} (hp : (move k a ps)[j]? = some p) (he : (move k a E)[j]? = some e) : S[p]? = some (some e.key) ∧ N[p]? = some e.n ∧ Er[p]? = some e.err := by
 rw [move_get (by rw [hr.len]; exact hk) ha] at hp
 rw [move_get hk ha] at he
 have key : ∀ j', ps[j']? = some p → E[j']? = some e → S[p]? = some (some e.key) ∧ N[p]? = some e.n ∧ Er[p]? = some e.err := fun j' h1 h2 => by
  obtain ⟨q1, q2, q3, _, _⟩ := hr.at_ j' p e h1 h2
  exact ⟨q1, q2, q3⟩
 by_cases h1 : j < a
 ·rw [if_pos h1] at hp he; exact key _ hp he
 ·rw [if_neg h1] at hp he
  by_cases h2 : j = a
  ·rw [if_pos h2] at hp he; exact key _ hp he
  ·rw [if_neg h2] at hp he
   by_cases h3 : j ≤ k
   ·rw [if_pos h3] at hp he; exact key _ hp he
   ·rw [if_neg h3] at hp he; exact key _ hp he
theorem hole_end {i : Nat} {O0 W0 : List Int} (hr : Rep S N Er O0 W0 ps E) (hlt : ∀ p ∈ ps, p < m) (hpm : ps.length ≤ m) (hk : k < E.length) (ha : a ≤ k) (hi : ps[k]? = some i) (h : Hole k a ps m O W) :
  Rep S N Er (O.set a (i : Int)) (W.set i (a : Int)) (move k a ps) (move k a E) := by
 have hkp : k < ps.length := by rw [hr.len]; exact hk
 have hperm := move_perm hkp ha
 refine ⟨by rw [move_length hkp ha, move_length hk ha, hr.len], hperm.nodup_iff.2 hr.nd, fun p key hp => hperm.mem_iff.2 (hr.all p key hp), fun j p e hp he => ?_⟩
 obtain ⟨q1, q2, q3⟩ := move_at hr hk ha hp he
 refine ⟨q1, q2, q3, ?_⟩
 have him : i < m := hlt i (List.mem_of_getElem? hi)
 by_cases hja : j = a
 ·subst hja
  rw [move_get hkp ha, if_neg (by omega), if_pos rfl, hi] at hp
  obtain rfl : i = p := by simpa using hp
  exact ⟨by rw [List.getElem?_set_self (by rw [h.lo]; omega)], by rw [List.getElem?_set_self (by rw [h.lw]; omega)]⟩
 ·have h0 := h.at_ j p hja hp
  have hai : (move k a ps)[a]? = some i := by rw [move_get hkp ha, if_neg (by omega), if_pos rfl]; exact hi
  have hne := nodup_ne (hperm.nodup_iff.2 hr.nd) hai hp (by omega)
  rw [List.getElem?_set_ne (by omega), List.getElem?_set_ne hne]
  exact h0
end
section
variable {w : World} {B : SB} {S : List (Option (List UInt8))} {fl : List Nat} {N Er O W : List Int} {total : Int}
theorem SumC.ow {w' : World} {O' W' : List Int} (h : SumC w B S fl N Er O W total) (hm : Mod [B.ob, B.wb] w w') (ho : Blk w' B.ob 21 (i32s O')) (hw : Blk w' B.wb 21 (i32s W')) (lo : O'.length = S.length) (lw : W'.length = S.length) : SumC w' B S fl N Er O' W' total := by
 obtain ⟨⟨n1, n2, n3, n4⟩, ⟨n5, n6, n7⟩, ⟨n8, n9⟩, n10⟩ := h.ne
 exact ⟨hm.blk h.blk (by simp; exact ⟨n3, n4⟩), h.idx.mod hm (fun b hb hb' => by
  simp only [List.mem_cons, List.not_mem_nil, or_false] at hb'
  rcases hb' with rfl | rfl
  ·exact h.ni _ (by simp [SB.own]) hb
  ·exact h.ni _ (by simp [SB.own]) hb), hm.blk h.cn (by simp; exact ⟨n6, n7⟩), hm.blk h.ce (by simp; exact ⟨n8, n9⟩), ho, hw, h.ln, h.le, lo, lw, h.whole, h.nd, h.ni⟩
end
def RisePost (B : SB) (S : List (Option (List UInt8))) (fl : List Nat) (N Er : List Int) (total : Int) (ps : List Nat) (E : List Ent) (k a : Nat) (w : World) (e : Ending) (w' : World) : Prop :=
 (∃ v, e = .returned v) ∧ (∃ O' W', SumC w' B S fl N Er O' W' total ∧ Rep S N Er O' W' (move k a ps) (move k a E)) ∧ Mod [B.ob, B.wb] w w'
set_option maxRecDepth 8000 in
set_option maxHeartbeats 3200000 in
theorem rise_any {w : World} {B : SB} {S : List (Option (List UInt8))} {fl : List Nat} {N Er O W : List Int} {total : Int} {ps : List Nat} {E : List Ent} {k i : Nat} {e : Ent} (h : SumC w B S fl N Er O W total) (hr : Rep S N Er O W ps E) (hi : ps[k]? = some i) (he : E[k]? = some e) :
  Calls Try.prog 69 #[.pointer (some ⟨B.p, 0, none⟩), .int .i64 i] w (RisePost B S fl N Er total ps E k (riseTo E e.n k) w) := by
 obtain ⟨hS, hN, hE, hO, hW⟩ := hr.at_ k i e hi he
 have hk : k < E.length := (List.getElem?_eq_some_iff.1 he).1
 have hfew := h.few
 have hiS : i < S.length := (List.getElem?_eq_some_iff.1 hS).1
 have hkS : k < S.length := by have := (List.getElem?_eq_some_iff.1 hO).1; rw [h.lo] at this; exact this
 have hlt : ∀ p ∈ ps, p < S.length := fun p hp => by
  obtain ⟨j, hj⟩ := List.getElem?_of_mem hp
  have hjl : j < E.length := by rw [← hr.len]; exact (List.getElem?_eq_some_iff.1 hj).1
  exact (List.getElem?_eq_some_iff.1 (hr.at_ j p _ hj (List.getElem?_eq_getElem hjl)).1).1
 have hpm : ps.length ≤ S.length := by
  rcases Nat.lt_or_ge S.length ps.length with hq | hq
  ·exfalso
   have hjl : S.length < E.length := by rw [← hr.len]; exact hq
   have := (hr.at_ S.length _ _ (List.getElem?_eq_getElem hq) (List.getElem?_eq_getElem hjl)).2.2.2.1
   have := (List.getElem?_eq_some_iff.1 this).1
   rw [h.lo] at this; omega
  ·exact hq
 have H := Lib.hid h
 have HR := Lib.hid hr
 have HI := Lib.hid hi
 have HE := Lib.hid he
 have LT := Lib.hid hlt
 have PM := Lib.hid hpm
 have H0 := Lib.hid (hole_start hr hk h.lo h.lw)
 have c5 := h.blk.cell (i := 5) rfl
 have cW := h.cw.cell (i32s_get hW)
 have CN := Lib.hid (i64s_get hN)
 clear h hr hi he hlt hpm hS hN hE hO hW
 obtain ⟨ek, en, ee⟩ := e
 simp only at *
 go_enter Try.func69, Try.ntmps69
 generalize hm : S.length = m at *
 have HM := Lib.hid hm
 clear hm
 go_wp2_with fail
 go_loopw [4] (fun v wr => ∃ (a : Nat) (O' W' : List Int), a ≤ k ∧ v = .int .i64 (a : Int) ∧ Hole k a ps m O' W' ∧ SumC wr B S fl N Er O' W' total ∧ riseTo E en a = riseTo E en k ∧ Mod [B.ob, B.wb] w wr) (fun v _ => (intOf v).toNat)
 case atStart => exact ⟨k, O, W, Nat.le_refl _, rfl, H0.out, H.out, rfl, Mod.refl _ _⟩
 case round =>
  clear H H0 c5 cW
  obtain ⟨a, O', W', ha, rfl, hH, hC, hT, hM⟩ := hrel
  have HH := Lib.hid hH
  have HC := Lib.hid hC
  have HT := Lib.hid hT
  have MR := Lib.hid hM
  have c2 := hC.blk.cell (i := 2) rfl
  have c4 := hC.blk.cell (i := 4) rfl
  have c5 := hC.blk.cell (i := 5) rfl
  rw [HM.out] at c2 c4 c5
  have cN := hC.cn.cell CN.out
  clear hH hC hT hM
  cases a with
  | zero =>
    obtain ⟨z1, hz1⟩ : ∃ z, O'[0]? = some z := ⟨_, List.getElem?_eq_getElem (by rw [HH.out.lo]; omega)⟩
    obtain ⟨z2, hz2⟩ : ∃ z, W'[i]? = some z := ⟨_, List.getElem?_eq_getElem (by rw [HH.out.lw]; omega)⟩
    have cO := HC.out.co.cell (i32s_get hz1)
    have cW := HC.out.cw.cell (i32s_get hz2)
    have fO := HC.out.co.free 0
    have fW := HC.out.cw.free i
    have nn := HC.out.ne.2.2.2
    have np := HC.out.ne.1
    clear hz1 hz2
    go_wp2_with fail
    refine wp_region_lex (by kernel_rfl) (by kernel_rfl) ?_
    go_wp2_with fail
    refine ⟨by kernel_rfl, ?_⟩
    go_wp2_with fail
    refine wp_region_lex (by kernel_rfl) (by kernel_rfl) ?_
    go_wp2_with fail
    refine ⟨by kernel_rfl, ?_⟩
    go_wp2_with fail
    go_end0
    have hC := HC.out.mod (((Mod.refl [] wr).drew).drew) (by simp)
    obtain ⟨⟨n1, n2, n3, n4⟩, ⟨n5, n6, n7⟩, ⟨n8, n9⟩, n10⟩ := hC.ne
    have MS := (((((Mod.refl [B.ob, B.wb] wr).drew).drew).setCell (p := ⟨B.ob, 0, none⟩) (.inl (by simp)) (.int .i32 (i : Int))).setCell (p := ⟨B.wb, i, none⟩) (.inl (by simp)) (.int .i32 0))
    have BO := (hC.co.set 0 (.int .i32 (i : Int))).other (a := ⟨B.wb, i, none⟩) (by simp; exact n10) (.int .i32 0)
    have BW := (hC.cw.other (a := ⟨B.ob, 0, none⟩) (by simp; exact fun e => n10 e.symm) (.int .i32 (i : Int))).set i (.int .i32 0)
    rw [i32s_set] at BO BW
    have hlo := HH.out.lo
    have hlw := HH.out.lw
    rw [show riseTo E en k = 0 from HT.out.symm]
    exact ⟨⟨_, rfl⟩, ⟨_, _, HC.out.ow MS BO BW (by rw [List.length_set, hlo, HM.out]) (by rw [List.length_set, hlw, HM.out]), hole_end HR.out LT.out PM.out (by omega) (by omega) HI.out HH.out⟩, MR.out.trans MS⟩
  | succ b =>
    obtain ⟨q, e', hq, he', hS', hN', _, _, _⟩ := HR.out.get (k := b) (by omega)
    obtain ⟨hOb, hWb⟩ := HH.out.at_ b q (by omega) (by rw [move_get (by rw [HR.out.len]; omega) ha, if_pos (by omega)]; exact hq)
    have hqS : q < m := by have := (List.getElem?_eq_some_iff.1 hS').1; rw [HM.out] at this; exact this
    have cOb := HC.out.co.cell (i32s_get hOb)
    have cNq := HC.out.cn.cell (i64s_get hN')
    have hgd : (E.getD b default).n = e'.n := by rw [List.getD_eq_getElem?_getD, he']; rfl
    have hb1 : (((b + 1 : Nat) : Int) - 1) = (b : Int) := by omega
    obtain ⟨fk, fn, fe⟩ := e'
    simp only at *
    have HQ := Lib.hid hq
    by_cases hlt : fn < en
    ·have d1 : decide (fn < en) = true := by simpa using hlt
     have hT2 : riseTo E en b = riseTo E en k := by
      have h1 : riseTo E en (b + 1) = riseTo E en b := by show (if _ then _ else _) = _; rw [hgd, if_pos hlt]
      rw [← HT.out, h1]
     have HT2 := Lib.hid hT2
     obtain ⟨z1, hz1⟩ : ∃ z, O'[b + 1]? = some z := ⟨_, List.getElem?_eq_getElem (by rw [HH.out.lo]; omega)⟩
     obtain ⟨z2, hz2⟩ : ∃ z, W'[q]? = some z := ⟨_, List.getElem?_eq_getElem (by rw [HH.out.lw]; omega)⟩
     have cO1 := HC.out.co.cell (i32s_get hz1)
     have cWq := HC.out.cw.cell (i32s_get hz2)
     have fO := HC.out.co.free (b + 1)
     have fW := HC.out.cw.free q
     have nn := HC.out.ne.2.2.2
     have np := HC.out.ne.1
     clear hz1 hz2 hT2 hgd hS' hN' hOb hWb he' hq
     go_wp2_with fail
     refine wp_region_lex (by kernel_rfl) (by kernel_rfl) ?_
     go_wp2_with fail
     refine ⟨by kernel_rfl, ?_⟩
     go_wp2_with fail
     refine wp_region_lex (by kernel_rfl) (by kernel_rfl) ?_
     go_wp2_with fail
     refine ⟨by kernel_rfl, ?_⟩
     go_wp2_with fail
     refine wp_region_lex (by kernel_rfl) (by kernel_rfl) ?_
     go_wp2_with fail
     refine ⟨by kernel_rfl, ?_⟩
     go_wp2_with fail
     go_roundw
     case rel =>
      have hC := HC.out.mod ((((Mod.refl [] wr).drew).drew).drew) (by simp)
      obtain ⟨⟨n1, n2, n3, n4⟩, ⟨n5, n6, n7⟩, ⟨n8, n9⟩, n10⟩ := hC.ne
      have MS := ((((((Mod.refl [B.ob, B.wb] wr).drew).drew).drew).setCell (p := ⟨B.ob, b + 1, none⟩) (.inl (by simp)) (.int .i32 (q : Int))).setCell (p := ⟨B.wb, q, none⟩) (.inl (by simp)) (.int .i32 ((b + 1 : Nat) : Int)))
      have BO := (hC.co.set (b + 1) (.int .i32 (q : Int))).other (a := ⟨B.wb, q, none⟩) (by simp; exact n10) (.int .i32 ((b + 1 : Nat) : Int))
      have BW := (hC.cw.other (a := ⟨B.ob, b + 1, none⟩) (by simp; exact fun e => n10 e.symm) (.int .i32 (q : Int))).set q (.int .i32 ((b + 1 : Nat) : Int))
      rw [i32s_set] at BO BW
      have hlo := HH.out.lo
      have hlw := HH.out.lw
      exact ⟨b, _, _, by omega, by go_num, hole_next HR.out.nd LT.out PM.out (by rw [HR.out.len]; omega) ha HQ.out HH.out, HC.out.ow MS BO BW (by rw [List.length_set, hlo, HM.out]) (by rw [List.length_set, hlw, HM.out]), HT2.out, MR.out.trans MS⟩
     case measure => simp [intOf]
    ·have d1 : decide (fn < en) = false := by simpa using hlt
     have hT2 : riseTo E en k = b + 1 := by
      rw [← HT.out]
      show (if _ then _ else _) = _
      rw [hgd, if_neg hlt]
     have HT2 := Lib.hid hT2
     clear hT2 hgd hS' hN' hOb hWb he' hq
     obtain ⟨z1, hz1⟩ : ∃ z, O'[(b + 1)]? = some z := ⟨_, List.getElem?_eq_getElem (by rw [HH.out.lo]; omega)⟩
     obtain ⟨z2, hz2⟩ : ∃ z, W'[i]? = some z := ⟨_, List.getElem?_eq_getElem (by rw [HH.out.lw]; omega)⟩
     have cO := HC.out.co.cell (i32s_get hz1)
     have cW := HC.out.cw.cell (i32s_get hz2)
     have fO := HC.out.co.free (b + 1)
     have fW := HC.out.cw.free i
     have nn := HC.out.ne.2.2.2
     have np := HC.out.ne.1
     clear hz1 hz2
     go_wp2_with fail
     refine wp_region_lex (by kernel_rfl) (by kernel_rfl) ?_
     go_wp2_with fail
     refine ⟨by kernel_rfl, ?_⟩
     go_wp2_with fail
     refine wp_region_lex (by kernel_rfl) (by kernel_rfl) ?_
     go_wp2_with fail
     refine ⟨by kernel_rfl, ?_⟩
     go_wp2_with fail
     go_end0
     have hC := HC.out.mod (((Mod.refl [] wr).drew).drew) (by simp)
     obtain ⟨⟨n1, n2, n3, n4⟩, ⟨n5, n6, n7⟩, ⟨n8, n9⟩, n10⟩ := hC.ne
     have MS := (((((Mod.refl [B.ob, B.wb] wr).drew).drew).setCell (p := ⟨B.ob, (b + 1), none⟩) (.inl (by simp)) (.int .i32 (i : Int))).setCell (p := ⟨B.wb, i, none⟩) (.inl (by simp)) (.int .i32 ((b + 1 : Nat) : Int)))
     have BO := (hC.co.set (b + 1) (.int .i32 (i : Int))).other (a := ⟨B.wb, i, none⟩) (by simp; exact n10) (.int .i32 ((b + 1 : Nat) : Int))
     have BW := (hC.cw.other (a := ⟨B.ob, (b + 1), none⟩) (by simp; exact fun e => n10 e.symm) (.int .i32 (i : Int))).set i (.int .i32 ((b + 1 : Nat) : Int))
     rw [i32s_set] at BO BW
     have hlo := HH.out.lo
     have hlw := HH.out.lw
     rw [HT2.out]
     exact ⟨⟨_, rfl⟩, ⟨_, _, HC.out.ow MS BO BW (by rw [List.length_set, hlo, HM.out]) (by rw [List.length_set, hlw, HM.out]), hole_end HR.out LT.out PM.out (by omega) (by omega) HI.out HH.out⟩, MR.out.trans MS⟩
end Go.Proofs.Ytndekdafiaogmaa.Sum
end
section
namespace Go.Proofs.Ytndekdafiaogmaa.Sum
open Go Go.RowKit Go.YtndekdafiaogmaaMem Go.YtndekdafiaogmaaLex Go.Proofs.Ytndekdafiaogmaa.Hash Go.Proofs.Ytndekdafiaogmaa.Keys Go.Proofs.Ytndekdafiaogmaa.Index
section
variable {w : World} {B : SB} {S : List (Option (List UInt8))} {fl : List Nat} {N Er O W : List Int} {total : Int} {ps : List Nat} {E : List Ent}
theorem more_length (E : List Ent) (k : Nat) (z : Int) : (more E k z).length = E.length := by unfold more; rw [List.length_set]
theorem Rep.more {k p : Nat} {e : Ent} (h : Rep S N Er O W ps E) (hp : ps[k]? = some p) (he : E[k]? = some e) (z : Int) : Rep S (N.set p (e.n + z)) Er O W ps (Sum.more E k z) := by
 obtain ⟨hS, hN, _⟩ := h.at_ k p e hp he
 have hpN : p < N.length := (List.getElem?_eq_some_iff.1 hN).1
 have hk : k < E.length := (List.getElem?_eq_some_iff.1 he).1
 have hg : E.getD k default = e := by rw [List.getD_eq_getElem?_getD, he]; rfl
 refine ⟨by rw [more_length]; exact h.len, h.nd, h.all, fun j q e' hq he' => ?_⟩
 unfold Sum.more at he'
 rw [hg] at he'
 by_cases hkj : k = j
 ·subst hkj
  rw [hp] at hq
  obtain rfl : p = q := by simpa using hq
  rw [List.getElem?_set_self hk] at he'
  obtain rfl := Option.some.inj he'
  obtain ⟨q1, q2, q3, q4, q5⟩ := h.at_ k p e hp he
  exact ⟨q1, by rw [List.getElem?_set_self hpN], q3, q4, q5⟩
 ·rw [List.getElem?_set_ne hkj] at he'
  obtain ⟨q1, q2, q3, q4, q5⟩ := h.at_ j q e' hq he'
  exact ⟨q1, by rw [List.getElem?_set_ne (nodup_ne h.nd hp hq hkj)]; exact q2, q3, q4, q5⟩
theorem Rep.put {j m : Nat} {key : List UInt8} (h : Rep S N Er O W ps E) (hj : S[j]? = some none) (l1 : N.length = m) (l2 : Er.length = m) (l3 : O.length = m) (l4 : W.length = m) (hm : S.length = m) (hlt : E.length < m) (z : Int) :
  Rep (S.set j (some key)) (N.set j z) (Er.set j z) (O.set E.length (j : Int)) (W.set j (E.length : Int)) (ps ++ [j]) (E ++ [⟨key, z, z⟩]) := by
 have hjm : j < m := by rw [← hm]; exact (List.getElem?_eq_some_iff.1 hj).1
 have hne : ∀ k q, ps[k]? = some q → j ≠ q := fun k q hq => by
  rintro rfl
  have hk : k < E.length := by rw [← h.len]; exact (List.getElem?_eq_some_iff.1 hq).1
  have := (h.at_ k j _ hq (List.getElem?_eq_getElem hk)).1
  rw [hj] at this; cases this
 refine ⟨by simp [h.len], ?_, fun p k hp => ?_, fun k p e hp he => ?_⟩
 ·rw [List.nodup_append]
  refine ⟨h.nd, by simp, fun a ha b hb => ?_⟩
  obtain ⟨k, hk⟩ := List.getElem?_of_mem ha
  simp at hb; subst hb
  exact (hne k a hk).symm
 ·by_cases hjp : j = p
  ·subst hjp; simp
  ·rw [List.getElem?_set_ne hjp] at hp
   exact List.mem_append_left _ (h.all p k hp)
 ·by_cases hk : k < E.length
  ·rw [List.getElem?_append_left (by rw [h.len]; exact hk)] at hp
   rw [List.getElem?_append_left hk] at he
   obtain ⟨q1, q2, q3, q4, q5⟩ := h.at_ k p e hp he
   have hn := hne k p hp
   rw [List.getElem?_set_ne hn, List.getElem?_set_ne hn, List.getElem?_set_ne hn, List.getElem?_set_ne hn, List.getElem?_set_ne (by omega)]
   exact ⟨q1, q2, q3, q4, q5⟩
  ·have hkl := (List.getElem?_eq_some_iff.1 he).1
   simp at hkl
   obtain rfl : k = E.length := by omega
   rw [← h.len, List.getElem?_append_right (Nat.le_refl _), Nat.sub_self] at hp
   rw [List.getElem?_append_right (Nat.le_refl _), Nat.sub_self] at he
   obtain rfl : j = p := by simpa using hp
   obtain rfl := (Option.some.inj he : (⟨key, z, z⟩ : Ent) = e)
   exact ⟨List.getElem?_set_self (by omega), List.getElem?_set_self (by omega), List.getElem?_set_self (by omega), List.getElem?_set_self (by omega), List.getElem?_set_self (by omega)⟩
theorem SumC.cnt {w' : World} {N' : List Int} (h : SumC w B S fl N Er O W total) (hm : Mod [B.nb] w w') (hN : Blk w' B.nb 2 (i64s N')) (l : N'.length = S.length) : SumC w' B S fl N' Er O W total := by
 obtain ⟨⟨n1, n2, n3, n4⟩, ⟨n5, n6, n7⟩, ⟨n8, n9⟩, n10⟩ := h.ne
 exact ⟨hm.blk h.blk (by simp; exact n1), h.idx.mod hm (fun b hb hb' => by simp at hb'; subst hb'; exact h.ni _ (by simp [SB.own]) hb), hN, hm.blk h.ce (by simp; exact n5.symm), hm.blk h.co (by simp; exact n6.symm), hm.blk h.cw (by simp; exact n7.symm), l, h.le, h.lo, h.lw, h.whole, h.nd, h.ni⟩
end
end Go.Proofs.Ytndekdafiaogmaa.Sum
end
section
namespace Go.Proofs.Ytndekdafiaogmaa.Sum
open Go Go.RowKit Go.YtndekdafiaogmaaMem Go.YtndekdafiaogmaaLex Go.Proofs.Ytndekdafiaogmaa.Hash Go.Proofs.Ytndekdafiaogmaa.Keys Go.Proofs.Ytndekdafiaogmaa.Index
theorem SumC.tot {w : World} {B : SB} {S : List (Option (List UInt8))} {fl : List Nat} {N Er O W : List Int} {total t : Int} (h2 : SumC w B S fl N Er O W total) : SumC (w.setCell ⟨B.p, 6, none⟩ (.int .i64 t)) B S fl N Er O W t := by
 have MS := (Mod.refl [B.p] w).setCell (p := ⟨B.p, 6, none⟩) (.inl (by simp)) (.int .i64 t)
 obtain ⟨⟨n1, n2, n3, n4⟩, _⟩ := h2.ne
 exact ⟨h2.blk.set 6 _, h2.idx.mod MS (fun b hb hb' => by simp at hb'; subst hb'; exact h2.ni _ (by simp [SB.own]) hb), MS.blk h2.cn (by simp; exact fun e => n1 e.symm), MS.blk h2.ce (by simp; exact fun e => n2 e.symm), MS.blk h2.co (by simp; exact fun e => n3 e.symm), MS.blk h2.cw (by simp; exact fun e => n4 e.symm), h2.ln, h2.le, h2.lo, h2.lw, h2.whole, h2.nd, h2.ni⟩
def OfferPost (B : SB) (n : Nat) (s : List Ent × Int) (w : World) (e : Ending) (w' : World) : Prop := (∃ v, e = .returned v) ∧ SumAt w' B n s.1 s.2 ∧ Mod B.all w w'
theorem bump_eq {E : List Ent} {k : Nat} {e : Ent} (he : E[k]? = some e) (z : Int) : bumpAt E k z = move k (riseTo (more E k z) (e.n + z) k) (more E k z) := by
 unfold bumpAt
 rw [show E.getD k default = e by rw [List.getD_eq_getElem?_getD, he]; rfl]
theorem more_get {E : List Ent} {k : Nat} {e : Ent} (he : E[k]? = some e) (z : Int) : (more E k z)[k]? = some { e with n := e.n + z } := by
 unfold more
 rw [show E.getD k default = e by rw [List.getD_eq_getElem?_getD, he]; rfl, List.getElem?_set_self (List.getElem?_eq_some_iff.1 he).1]
theorem rise_more {w : World} {B : SB} {n : Nat} {S : List (Option (List UInt8))} {fl : List Nat} {N Er O W : List Int} {total : Int} {ps : List Nat} {E : List Ent} {k p : Nat} {e : Ent} (h : SumC w B S fl N Er O W total) (hn : S.length = n) (hr : Rep S N Er O W ps E) (hp : ps[k]? = some p) (he : E[k]? = some e) (z : Int) :
  Calls Try.prog 69 #[.pointer (some ⟨B.p, 0, none⟩), .int .i64 p] (w.setCell ⟨B.nb, p, none⟩ (.int .i64 (e.n + z))) (OfferPost B n (bumpAt E k z, total) w) := by
 have MS := (Mod.refl [B.nb] w).setCell (p := ⟨B.nb, p, none⟩) (.inl (by simp)) (.int .i64 (e.n + z))
 have BN := h.cn.set p (.int .i64 (e.n + z))
 rw [i64s_set] at BN
 have hC := h.cnt MS BN (by rw [List.length_set]; exact h.ln)
 refine (rise_any hC (hr.more hp he z) hp (more_get he z)).mono ?_
 rintro x w' ⟨hv, ⟨O', W', h1, h2⟩, hM⟩
 rw [bump_eq he]
 exact ⟨hv, ⟨S, fl, _, Er, O', W', _, hn, h1, h2⟩, (MS.mono (by simp [SB.all])).trans (hM.mono (by simp [SB.all]))⟩
set_option maxRecDepth 8000 in
set_option maxHeartbeats 6400000 in
theorem offer_any {w : World} {B : SB} {n : Nat} {E : List Ent} {total : Int} (h : SumAt w B n E total) (hn : 1 ≤ n) (hle : E.length ≤ n) (hE : ∀ e ∈ E, 0 ≤ e.n ∧ e.n ≤ total) (ht : 0 ≤ total ∧ total < 4611686018427387904) (key : List UInt8) (hl : key.length ≤ 1000000) (z : Int) (hz : -9223372036854775808 ≤ z ∧ z ≤ 9223372036854775807) :
  Calls Try.prog 37 #[.pointer (some ⟨B.p, 0, none⟩), .string ⟨key.toArray⟩, .int .i64 z] w (OfferPost B n (offer n (E, total) key z) w) := by
 have H := Lib.hid h
 have hsz : (ByteArray.mk key.toArray).size = key.length := by simp [ByteArray.size]
 by_cases hg : z < 1 ∨ 4611686018427387904 ≤ z ∨ 64 < key.length
 ·have ho : offer n (E, total) key z = (E, total) := by unfold offer; rw [if_pos hg]
  rw [ho]
  clear h ho
  by_cases h1 : z < 1
  ·have d1 : decide (z < 1) = true := by simpa using h1
   clear hg
   go_enter Try.func37, Try.ntmps37
   go_wp2_with fail
   exact bodyPost_ret (results_none rfl _ _ _) rfl ⟨⟨_, rfl⟩, H.out, Mod.refl _ _⟩
  ·have d1 : decide (z < 1) = false := by simpa using h1
   by_cases h2 : 4611686018427387904 ≤ z
   ·have d2 : decide ((4611686018427387904 : Int) ≤ z) = true := by simpa using h2
    clear hg
    go_enter Try.func37, Try.ntmps37
    go_wp2_with fail
    exact bodyPost_ret (results_none rfl _ _ _) rfl ⟨⟨_, rfl⟩, H.out, Mod.refl _ _⟩
   ·have d2 : decide ((4611686018427387904 : Int) ≤ z) = false := by simpa using h2
    have d3 : decide ((64 : Int) < (key.length : Int)) = true := by simp; omega
    have d4 : decide (64 < key.length) = true := by simp; omega
    clear hg
    go_enter Try.func37, Try.ntmps37
    go_wp2_with fail
    exact bodyPost_ret (results_none rfl _ _ _) rfl ⟨⟨_, rfl⟩, H.out, Mod.refl _ _⟩
 ·have d1 : decide (z < 1) = false := by simp; omega
  have d2 : decide ((4611686018427387904 : Int) ≤ z) = false := by simp; omega
  have d3 : decide ((64 : Int) < (key.length : Int)) = false := by simp; omega
  have d4 : decide (64 < key.length) = false := by simp; omega
  have hz1 : 1 ≤ z := by omega
  have hz2 : z < 4611686018427387904 := by omega
  have hk64 : key.length ≤ 64 := by omega
  by_cases hc : 4611686018427387904 - z ≤ total
  ·have ho : offer n (E, total) key z = (offerE n [] key z, z) := by unfold offer; rw [if_neg hg, if_pos hc]
   rw [ho]
   have d5 : decide ((4611686018427387904 : Int) - z ≤ total) = true := by simpa using hc
   have CL := Lib.hid (clear_any h)
   obtain ⟨S, fl, N, Er, O, W, ps, hSn, hC, hR⟩ := h
   have c6 := hC.blk.cell (i := 6) rfl
   clear hSn hC hR hg ho hE hle
   go_enter Try.func37, Try.ntmps37
   go_wp2_with fail
   refine CL.out.mono ?_
   rintro e1 w1 ⟨⟨v1, rfl⟩, hA, hM⟩
   have MW := Lib.hid hM
   have htz : (0 : Int) + z < 4611686018427387904 := by omega
   have htt : (0 : Int) + z = z := by omega
   have hleq : ([] : List Ent).length ≤ n := by simp
   have hEb : ∀ e ∈ ([] : List Ent), 0 ≤ e.n ∧ e.n ≤ (0 : Int) := by simp
   have HTT := Lib.hid htt
   have HA := Lib.hid hA
   clear hM htt d5 hc ht c6 hA
   generalize hE0 : ([] : List Ent) = E0 at *
   generalize ht0 : (0 : Int) = t0 at HA htz hEb HTT
   have ht0' : 0 ≤ t0 := by omega
   clear hE0 ht0
   have hEb2 := Lib.hid hEb
   have hle2 := Lib.hid hleq
   obtain ⟨S, fl, N, Er, O, W, ps, hSn, hC, hR⟩ := HA.out
   have c6 := hC.blk.cell (i := 6) rfl
   have f6 := hC.blk.free 6
   have C3 := Lib.hid (hC.tot (t := t0 + z))
   have M3 := Lib.hid (MW.out.setCell (p := ⟨B.p, 6, none⟩) (.inl (by simp [SB.all])) (.int .i64 (t0 + z)))
   have FN := Lib.hid (Index.find_any C3.out.idx key hl)
   have HR := Lib.hid hR
   have hfew := hC.few
   have HSN := Lib.hid hSn
   clear hC hR hEb hleq hSn HA
   obtain ⟨w3, hw3⟩ : ∃ w3, w1.setCell ⟨B.p, 6, none⟩ (.int .i64 (t0 + z)) = w3 := ⟨_, rfl⟩
   rw [hw3] at C3 M3 FN
   have c1 := C3.out.blk.cell (i := 1) rfl
   cases hf : findE E0 key with
   | some k =>
     obtain ⟨p, e, hp, he, hk, hpl⟩ := HR.out.find_some C3.out.idx.uniq hf
     obtain ⟨hS, hN, _, _, _⟩ := HR.out.at_ k p e hp he
     have hpS : p < S.length := (List.getElem?_eq_some_iff.1 hS).1
     rw [hpl] at FN
     simp only [optInt] at FN
     have hen := hEb2.out e (List.mem_of_getElem? he)
     have CNp := Lib.hid (i64s_get hN)
     have HP := Lib.hid hp
     have HE := Lib.hid he
     have hof : offerE n E0 key z = bumpAt E0 k z := by unfold offerE; rw [hf]
     have HOF := Lib.hid hof
     clear hp he hk hpl hS hN hof hf
     go_wp2_with fail
     refine FN.out.mono ?_
     rintro e4 w4 ⟨rfl, hM4⟩
     have C4 := Lib.hid (C3.out.mod hM4 (by simp))
     have M4 := Lib.hid (M3.out.trans (hM4.mono (by simp)))
     have c2 := C4.out.blk.cell (i := 2) rfl
     have cN := C4.out.cn.cell CNp.out
     have fN := C4.out.cn.free p
     have RM := Lib.hid (rise_more C4.out HSN.out HR.out HP.out HE.out z)
     clear hM4 c1 c6 f6 hw3
     obtain ⟨fk, en, fe⟩ := e
     simp only at *
     generalize S.length = m at *
     go_wp2_with fail
     refine RM.out.mono ?_
     rintro e5 w5 ⟨⟨v5, rfl⟩, hA5, hM5⟩
     have A5 := Lib.hid hA5
     rw [HTT.out] at A5
     have M5 := Lib.hid (M4.out.trans hM5)
     clear hA5 hM5
     go_wp2_with fail
     go_end0
     exact ⟨⟨_, rfl⟩, by show SumAt _ _ _ (offerE n E0 key z) _; rw [HOF.out]; exact A5.out, M5.out⟩
   | none =>
     rw [HR.out.find_none hf] at FN
     simp only [optInt] at FN
     have L3 := Lib.hid (fun W' (hM : Mod [] w3 W') => len_c (C3.out.mod hM (by simp)))
     rw [HR.out.used] at L3
     have HF := Lib.hid hf
     clear hf
     by_cases hfull : E0.length = n
     ·have d6 : ((E0.length : Int) == (S.length : Int)) = true := by rw [HSN.out]; simp; omega
      obtain ⟨E1, e, hEe⟩ : ∃ E1 e, E0 = E1 ++ [e] := by
       rcases List.eq_nil_or_concat E0 with h0 | ⟨E1, e, h0⟩
       ·rw [h0] at hfull; simp at hfull; omega
       ·exact ⟨E1, e, by rw [h0, List.concat_eq_append]⟩
      have DR := Lib.hid (fun W' (hM : Mod [] w3 W') => drop_any (E := E1) (e := e) (n := n) (total := t0 + z) (by rw [← hEe]; exact ⟨S, fl, N, Er, O, W, ps, HSN.out, C3.out.mod hM (by simp), HR.out⟩))
      have hE1 : E1.length < n := by rw [hEe] at hfull; simp at hfull; omega
      have hof : offerE n E0 key z = bumpAt (E1 ++ [⟨key, e.n, e.n⟩]) E1.length z := by
       have h1 : shed n E0 = E1 := by unfold shed; rw [if_pos hfull, ← hfull, hEe]; simp
       have h2 : leastOf n E0 = e.n := by unfold leastOf; rw [if_pos hfull, ← hfull, hEe, List.getD_eq_getElem?_getD]; simp
       unfold offerE; rw [HF.out]; simp only; rw [h1, h2]
      have HOF := Lib.hid hof
      have hen := hEb2.out e (by rw [hEe]; simp)
      have hno : findE E1 key = none := by
       have := findE_no HF.out
       rw [hEe] at this
       unfold findE
       rw [List.findIdx?_eq_none_iff]
       intro x hx
       have := this x (List.mem_append_left _ hx)
       simpa using this
      have HNO := Lib.hid hno
      have hn64 : n ≤ 2000 := by rw [← HSN.out]; exact hfew
      have hel : E0.length ≤ 2000 := by omega
      clear hEe hof hno
      obtain ⟨fk, en, fe⟩ := e
      simp only at *
      go_wp2_with fail
      refine FN.out.mono ?_
      rintro e4 w4 ⟨rfl, hM4⟩
      have N4 := Lib.hid hM4
      have c2 := (C3.out.mod hM4 (by simp)).blk.cell (i := 2) rfl
      have isc : IsC w4.drew B.p := isC_of_cell (w := w4) c2
      have IS := Lib.hid isc
      clear hM4 isc c1 c6 f6 hw3
      generalize S.length = m at *
      go_wp2_with fail
      refine Go.YtndekdafiaogmaaLex.wp_region_held [2] [5] [] (by kernel_rfl) (by kernel_rfl) ?_
      simp only [wpCut, List.take_succ_cons, List.take_zero, List.drop_succ_cons, List.drop_zero, List.cons_append, List.nil_append]
      go_wp2_with fail
      refine (L3.out _ (N4.out.drew)).mono ?_
      rintro e5 w5 ⟨rfl, rfl⟩
      go_wp2_with fail
      refine ⟨Mod.refl _ _, ?_⟩
      go_wp2_with fail
      refine ⟨by kernel_rfl, ⟨⟨by simp, IS.out⟩, trivial⟩, ?_⟩
      go_wp2_with fail
      refine (DR.out _ (N4.out.drew)).mono ?_
      rintro e6 w6 ⟨rfl, hA6, hM6⟩
      have M6 := Lib.hid ((M3.out.trans (N4.out.drew.mono (by simp))).trans hM6)
      obtain ⟨S1, fl1, N1, Er1, O1, W1, ps1, hSn1, hC1, hR1⟩ := hA6
      clear hM6 c2
      have husd := hR1.used
      have hwh := hC1.whole
      have hlow : en + z < 4611686018427387904 := by omega
      have hlow0 : 0 ≤ en := by omega
      obtain ⟨j, fl', hfl⟩ : ∃ j fl', fl1 = j :: fl' := by
       cases hq : fl1 with
       | nil => have := hwh.2; rw [hq, husd] at this; simp at this; omega
       | cons j fl' => exact ⟨j, fl', rfl⟩
      rw [hfl] at hC1 hwh
      have hj0 := hC1.idx.free0
      have hjS : j < S1.length := (List.getElem?_eq_some_iff.1 hj0).1
      have PU := Lib.hid (put_any hC1.idx key (by omega))
      rw [putS_yes (hR1.find_none HNO.out) hk64] at PU
      have WS := Lib.hid (whole_set (key := key) hwh hj0)
      have C6 := Lib.hid hC1
      have RP := Lib.hid (hR1.put (key := key) hj0 hC1.ln hC1.le hC1.lo hC1.lw rfl (by rw [hSn1]; exact hE1) en)
      have HSN1 := Lib.hid hSn1
      have c1 := hC1.blk.cell (i := 1) rfl
      have hsl : (S1.set j (some key)).length = S1.length := by rw [List.length_set]
      have HSL := Lib.hid hsl
      have HUS := Lib.hid husd
      obtain ⟨on, hon⟩ : ∃ z, N1[j]? = some z := ⟨_, List.getElem?_eq_getElem (by rw [hC1.ln]; exact hjS)⟩
      obtain ⟨oe, hoe⟩ : ∃ z, Er1[j]? = some z := ⟨_, List.getElem?_eq_getElem (by rw [hC1.le]; exact hjS)⟩
      obtain ⟨oo, hoo⟩ : ∃ z, O1[E1.length]? = some z := ⟨_, List.getElem?_eq_getElem (by rw [hC1.lo, hSn1]; exact hE1)⟩
      obtain ⟨ow, how⟩ : ∃ z, W1[j]? = some z := ⟨_, List.getElem?_eq_getElem (by rw [hC1.lw]; exact hjS)⟩
      have ON := Lib.hid hon
      have OE := Lib.hid hoe
      have OO := Lib.hid hoo
      have OW := Lib.hid how
      have hE1S : E1.length < S1.length := by rw [hSn1]; exact hE1
      have hS2 : S1.length ≤ 2000 := by rw [hSn1]; exact hn64
      clear hC1 hR1 hSn1 hfl hj0 husd hwh hsl hon hoe hoo how
      go_wp2_with fail
      refine PU.out.mono ?_
      rintro e7 w7 ⟨rfl, hI7, hM7⟩
      have I7 := Lib.hid hI7
      have M7 := Lib.hid hM7
      have NI := Lib.hid C6.out.ni
      have BP7 := Lib.hid (hM7.blk C6.out.blk (NI.out _ (by simp [SB.own])))
      have BN7 := Lib.hid (hM7.blk C6.out.cn (NI.out _ (by simp [SB.own])))
      have BE7 := Lib.hid (hM7.blk C6.out.ce (NI.out _ (by simp [SB.own])))
      have BO7 := Lib.hid (hM7.blk C6.out.co (NI.out _ (by simp [SB.own])))
      have BW7 := Lib.hid (hM7.blk C6.out.cw (NI.out _ (by simp [SB.own])))
      have c2 := BP7.out.cell (i := 2) rfl
      have c3 := BP7.out.cell (i := 3) rfl
      have cn := BN7.out.cell (i64s_get ON.out)
      have ce := BE7.out.cell (i64s_get OE.out)
      have fn := BN7.out.free j
      have fe := BE7.out.free j
      have ne1 := C6.out.ne.2.1.1
      clear hI7 hM7 c1
      generalize hms : S1.length = ms at c2 c3 BP7 hjS hE1S hS2
      have HMS := Lib.hid hms
      clear hms
      go_wp2_with fail
      refine wp_region_lex (by kernel_rfl) (by kernel_rfl) ?_
      go_wp2_with fail
      refine ⟨by kernel_rfl, ?_⟩
      have M8 : Hid (Mod [B.nb, B.eb] w7 ((w7.setCell ⟨B.nb, j, none⟩ (.int .i64 en)).setCell ⟨B.eb, j, none⟩ (.int .i64 en)).drew) := Lib.hid ((((Mod.refl [B.nb, B.eb] w7)).setCell (p := ⟨B.nb, j, none⟩) (.inl (by simp)) _).setCell (p := ⟨B.eb, j, none⟩) (.inl (by simp)) _).drew
      have BN8 := Lib.hid ((BN7.out.set j (.int .i64 en)).other (a := ⟨B.eb, j, none⟩) (by simp; exact ne1) (.int .i64 en)).drew
      have BE8 := Lib.hid ((BE7.out.other (a := ⟨B.nb, j, none⟩) (by simp; exact ne1.symm) (.int .i64 en)).set j (.int .i64 en)).drew
      rw [i64s_set] at BN8 BE8
      have nes := C6.out.ne
      have C8 : Hid (SumC ((w7.setCell ⟨B.nb, j, none⟩ (.int .i64 en)).setCell ⟨B.eb, j, none⟩ (.int .i64 en)).drew B (S1.set j (some key)) fl' (N1.set j en) (Er1.set j en) O1 W1 (t0 + z)) :=
       Lib.hid ⟨by rw [HSL.out, HMS.out]; exact M8.out.blk BP7.out (by simp; exact ⟨nes.1.1, nes.1.2.1⟩), I7.out.mod M8.out (fun b hb hb' => by
        simp only [List.mem_cons, List.not_mem_nil, or_false] at hb'
        rcases hb' with rfl | rfl
        ·exact NI.out _ (by simp [SB.own]) hb
        ·exact NI.out _ (by simp [SB.own]) hb), BN8.out, BE8.out, M8.out.blk BO7.out (by simp; exact ⟨nes.2.1.2.1.symm, nes.2.2.1.1.symm⟩), M8.out.blk BW7.out (by simp; exact ⟨nes.2.1.2.2.symm, nes.2.2.1.2.symm⟩),
        by rw [List.length_set, HSL.out]; exact C6.out.ln, by rw [List.length_set, HSL.out]; exact C6.out.le, by rw [HSL.out]; exact C6.out.lo, by rw [HSL.out]; exact C6.out.lw, by rw [HSL.out]; exact WS.out.1, C6.out.nd, C6.out.ni⟩
      generalize ((w7.setCell ⟨B.nb, j, none⟩ (.int .i64 en)).setCell ⟨B.eb, j, none⟩ (.int .i64 en)).drew = w8 at *
      have L8 := Lib.hid (len_c C8.out)
      rw [WS.out.2, HUS.out] at L8
      have hs1 : (((E1.length + 1 : Nat) : Int) - 1) = (E1.length : Int) := by omega
      clear c2 c3 cn ce fn fe
      go_wp2_with fail
      refine L8.out.mono ?_
      rintro e8 w8' ⟨rfl, rfl⟩
      have c4 := C8.out.blk.cell (i := 4) rfl
      have c5 := C8.out.blk.cell (i := 5) rfl
      have c2 := C8.out.blk.cell (i := 2) rfl
      rw [HSL.out, HMS.out] at c4 c5 c2
      have co := C8.out.co.cell (i32s_get OO.out)
      have cw := C8.out.cw.cell (i32s_get OW.out)
      have fo := C8.out.co.free E1.length
      have fw := C8.out.cw.free j
      have ne2 := C8.out.ne.2.2.2
      have cj := C8.out.cn.cell (i64s_get (N := N1.set j en) (p := j) (z := en) (List.getElem?_set_self (by rw [C6.out.ln, HMS.out]; exact hjS)))
      have fj := C8.out.cn.free j
      have ne3 := C8.out.ne.2.1
      go_wp2_with fail
      refine wp_region_lex (by kernel_rfl) (by kernel_rfl) ?_
      go_wp2_with fail
      refine ⟨by kernel_rfl, ?_⟩
      have M9 : Hid (Mod [B.ob, B.wb] w8 ((w8.setCell ⟨B.ob, E1.length, none⟩ (.int .i32 (j : Int))).setCell ⟨B.wb, j, none⟩ (.int .i32 (E1.length : Int))).drew) := Lib.hid ((((Mod.refl [B.ob, B.wb] w8)).setCell (p := ⟨B.ob, E1.length, none⟩) (.inl (by simp)) _).setCell (p := ⟨B.wb, j, none⟩) (.inl (by simp)) _).drew
      have BO9 := Lib.hid ((C8.out.co.set E1.length (.int .i32 (j : Int))).other (a := ⟨B.wb, j, none⟩) (by simp; exact ne2) (.int .i32 (E1.length : Int))).drew
      have BW9 := Lib.hid ((C8.out.cw.other (a := ⟨B.ob, E1.length, none⟩) (by simp; exact ne2.symm) (.int .i32 (j : Int))).set j (.int .i32 (E1.length : Int))).drew
      rw [i32s_set] at BO9 BW9
      have C9 := Lib.hid (C8.out.ow M9.out BO9.out BW9.out (by rw [List.length_set, HSL.out]; exact C6.out.lo) (by rw [List.length_set, HSL.out]; exact C6.out.lw))
      have MM := Lib.hid ((((M6.out.trans (M7.out.mono (fun b hb => .inl (own_all B b hb)))).trans (M8.out.mono (by simp [SB.all]))).trans (M9.out.mono (by simp [SB.all]))))
      generalize ((w8.setCell ⟨B.ob, E1.length, none⟩ (.int .i32 (j : Int))).setCell ⟨B.wb, j, none⟩ (.int .i32 (E1.length : Int))).drew = w9 at *
      have c2 := C9.out.blk.cell (i := 2) rfl
      rw [HSL.out, HMS.out] at c2
      have cj := C9.out.cn.cell (i64s_get (N := N1.set j en) (p := j) (z := en) (List.getElem?_set_self (by rw [C6.out.ln, HMS.out]; exact hjS)))
      have fj := C9.out.cn.free j
      have RM := Lib.hid (rise_more (n := n) C9.out (by rw [HSL.out]; exact HSN1.out) RP.out (k := E1.length) (p := j) (e := ⟨key, en, en⟩) (by have := RP.out.len; simp at this; rw [← this]; simp) (by simp) z)
      clear c4 c5 co cw fo fw
      go_wp2_with fail
      refine RM.out.mono ?_
      rintro e10 w10 ⟨⟨v10, rfl⟩, hA10, hM10⟩
      have A10 := Lib.hid hA10
      have M10 := Lib.hid (MM.out.trans hM10)
      clear hA10 hM10
      rw [HTT.out] at A10
      go_wp2_with fail
      go_end0
      exact ⟨⟨_, rfl⟩, by show SumAt _ _ _ (offerE n E0 key z) _; rw [HOF.out]; exact A10.out, M10.out⟩
     ·have d6 : ((E0.length : Int) == (S.length : Int)) = false := by rw [HSN.out]; simp; omega
      have hel : E0.length ≤ 2000 := by have := hle2.out; rw [← HSN.out] at this; omega
      have hE1 : E0.length < n := by have := hle2.out; omega
      have hof : offerE n E0 key z = bumpAt (E0 ++ [⟨key, 0, 0⟩]) E0.length z := by
       have h1 : shed n E0 = E0 := by unfold shed; rw [if_neg hfull]
       have h2 : leastOf n E0 = 0 := by unfold leastOf; rw [if_neg hfull]
       unfold offerE; rw [HF.out]; simp only; rw [h1, h2]
      have HOF := Lib.hid hof
      have hn64 : n ≤ 2000 := by rw [← HSN.out]; exact hfew
      have HNO := HF
      clear hof
      go_wp2_with fail
      refine FN.out.mono ?_
      rintro e4 w4 ⟨rfl, hM4⟩
      have N4 := Lib.hid hM4
      have c2 := (C3.out.mod hM4 (by simp)).blk.cell (i := 2) rfl
      have isc : IsC w4.drew B.p := isC_of_cell (w := w4) c2
      have IS := Lib.hid isc
      have c1w := (C3.out.mod hM4.drew (by simp)).blk.cell (i := 1) rfl
      clear hM4 isc c1 c6 f6 hw3
      go_wp2_with fail
      refine Go.YtndekdafiaogmaaLex.wp_region_held [2] [5] [] (by kernel_rfl) (by kernel_rfl) ?_
      simp only [wpCut, List.take_succ_cons, List.take_zero, List.drop_succ_cons, List.drop_zero, List.cons_append, List.nil_append]
      go_wp2_with fail
      refine (L3.out _ (N4.out.drew)).mono ?_
      rintro e5 w5 ⟨rfl, rfl⟩
      go_wp2_with fail
      refine ⟨Mod.refl _ _, ?_⟩
      go_wp2_with fail
      refine ⟨by kernel_rfl, ⟨⟨by simp, IS.out⟩, trivial⟩, ?_⟩
      have M6 := Lib.hid (M3.out.trans (N4.out.drew.mono (by simp)))
      have hC1 := C3.out.mod N4.out.drew (by simp)
      have hR1 := HR.out
      have hSn1 := HSN.out
      clear c2 c1w
      obtain ⟨w6, hw6⟩ : ∃ w6, w4.drew = w6 := ⟨_, rfl⟩
      rw [hw6] at M6 hC1 ⊢
      clear hw6
      have husd := hR1.used
      have hwh := hC1.whole
      have hlow : 0 + z < 4611686018427387904 := by omega
      have hlow0 : 0 ≤ 0 := by omega
      obtain ⟨j, fl', hfl⟩ : ∃ j fl', fl = j :: fl' := by
       cases hq : fl with
       | nil => have := hwh.2; rw [hq, husd] at this; simp at this; omega
       | cons j fl' => exact ⟨j, fl', rfl⟩
      rw [hfl] at hC1 hwh
      have hj0 := hC1.idx.free0
      have hjS : j < S.length := (List.getElem?_eq_some_iff.1 hj0).1
      have PU := Lib.hid (put_any hC1.idx key (by omega))
      rw [putS_yes (hR1.find_none HNO.out) hk64] at PU
      have WS := Lib.hid (whole_set (key := key) hwh hj0)
      have C6 := Lib.hid hC1
      have RP := Lib.hid (hR1.put (key := key) hj0 hC1.ln hC1.le hC1.lo hC1.lw rfl (by rw [hSn1]; exact hE1) 0)
      have HSN1 := Lib.hid hSn1
      have c1 := hC1.blk.cell (i := 1) rfl
      have hsl : (S.set j (some key)).length = S.length := by rw [List.length_set]
      have HSL := Lib.hid hsl
      have HUS := Lib.hid husd
      obtain ⟨on, hon⟩ : ∃ z, N[j]? = some z := ⟨_, List.getElem?_eq_getElem (by rw [hC1.ln]; exact hjS)⟩
      obtain ⟨oe, hoe⟩ : ∃ z, Er[j]? = some z := ⟨_, List.getElem?_eq_getElem (by rw [hC1.le]; exact hjS)⟩
      obtain ⟨oo, hoo⟩ : ∃ z, O[E0.length]? = some z := ⟨_, List.getElem?_eq_getElem (by rw [hC1.lo, hSn1]; exact hE1)⟩
      obtain ⟨ow, how⟩ : ∃ z, W[j]? = some z := ⟨_, List.getElem?_eq_getElem (by rw [hC1.lw]; exact hjS)⟩
      have ON := Lib.hid hon
      have OE := Lib.hid hoe
      have OO := Lib.hid hoo
      have OW := Lib.hid how
      have hE1S : E0.length < S.length := by rw [hSn1]; exact hE1
      have hS2 : S.length ≤ 2000 := by rw [hSn1]; exact hn64
      clear hC1 hR1 hSn1 hfl hj0 husd hwh hsl hon hoe hoo how
      go_wp2_with fail
      refine PU.out.mono ?_
      rintro e7 w7 ⟨rfl, hI7, hM7⟩
      have I7 := Lib.hid hI7
      have M7 := Lib.hid hM7
      have NI := Lib.hid C6.out.ni
      have BP7 := Lib.hid (hM7.blk C6.out.blk (NI.out _ (by simp [SB.own])))
      have BN7 := Lib.hid (hM7.blk C6.out.cn (NI.out _ (by simp [SB.own])))
      have BE7 := Lib.hid (hM7.blk C6.out.ce (NI.out _ (by simp [SB.own])))
      have BO7 := Lib.hid (hM7.blk C6.out.co (NI.out _ (by simp [SB.own])))
      have BW7 := Lib.hid (hM7.blk C6.out.cw (NI.out _ (by simp [SB.own])))
      have c2 := BP7.out.cell (i := 2) rfl
      have c3 := BP7.out.cell (i := 3) rfl
      have cn := BN7.out.cell (i64s_get ON.out)
      have ce := BE7.out.cell (i64s_get OE.out)
      have fn := BN7.out.free j
      have fe := BE7.out.free j
      have ne1 := C6.out.ne.2.1.1
      clear hI7 hM7 c1
      generalize hms : S.length = ms at c2 c3 BP7 hjS hE1S hS2
      have HMS := Lib.hid hms
      clear hms
      go_wp2_with fail
      refine wp_region_lex (by kernel_rfl) (by kernel_rfl) ?_
      go_wp2_with fail
      refine ⟨by kernel_rfl, ?_⟩
      have M8 : Hid (Mod [B.nb, B.eb] w7 ((w7.setCell ⟨B.nb, j, none⟩ (.int .i64 0)).setCell ⟨B.eb, j, none⟩ (.int .i64 0)).drew) := Lib.hid ((((Mod.refl [B.nb, B.eb] w7)).setCell (p := ⟨B.nb, j, none⟩) (.inl (by simp)) _).setCell (p := ⟨B.eb, j, none⟩) (.inl (by simp)) _).drew
      have BN8 := Lib.hid ((BN7.out.set j (.int .i64 0)).other (a := ⟨B.eb, j, none⟩) (by simp; exact ne1) (.int .i64 0)).drew
      have BE8 := Lib.hid ((BE7.out.other (a := ⟨B.nb, j, none⟩) (by simp; exact ne1.symm) (.int .i64 0)).set j (.int .i64 0)).drew
      rw [i64s_set] at BN8 BE8
      have nes := C6.out.ne
      have C8 : Hid (SumC ((w7.setCell ⟨B.nb, j, none⟩ (.int .i64 0)).setCell ⟨B.eb, j, none⟩ (.int .i64 0)).drew B (S.set j (some key)) fl' (N.set j 0) (Er.set j 0) O W (t0 + z)) :=
       Lib.hid ⟨by rw [HSL.out, HMS.out]; exact M8.out.blk BP7.out (by simp; exact ⟨nes.1.1, nes.1.2.1⟩), I7.out.mod M8.out (fun b hb hb' => by
        simp only [List.mem_cons, List.not_mem_nil, or_false] at hb'
        rcases hb' with rfl | rfl
        ·exact NI.out _ (by simp [SB.own]) hb
        ·exact NI.out _ (by simp [SB.own]) hb), BN8.out, BE8.out, M8.out.blk BO7.out (by simp; exact ⟨nes.2.1.2.1.symm, nes.2.2.1.1.symm⟩), M8.out.blk BW7.out (by simp; exact ⟨nes.2.1.2.2.symm, nes.2.2.1.2.symm⟩),
        by rw [List.length_set, HSL.out]; exact C6.out.ln, by rw [List.length_set, HSL.out]; exact C6.out.le, by rw [HSL.out]; exact C6.out.lo, by rw [HSL.out]; exact C6.out.lw, by rw [HSL.out]; exact WS.out.1, C6.out.nd, C6.out.ni⟩
      generalize ((w7.setCell ⟨B.nb, j, none⟩ (.int .i64 0)).setCell ⟨B.eb, j, none⟩ (.int .i64 0)).drew = w8 at *
      have L8 := Lib.hid (len_c C8.out)
      rw [WS.out.2, HUS.out] at L8
      have hs1 : (((E0.length + 1 : Nat) : Int) - 1) = (E0.length : Int) := by omega
      clear c2 c3 cn ce fn fe
      go_wp2_with fail
      refine L8.out.mono ?_
      rintro e8 w8' ⟨rfl, rfl⟩
      have c4 := C8.out.blk.cell (i := 4) rfl
      have c5 := C8.out.blk.cell (i := 5) rfl
      have c2 := C8.out.blk.cell (i := 2) rfl
      rw [HSL.out, HMS.out] at c4 c5 c2
      have co := C8.out.co.cell (i32s_get OO.out)
      have cw := C8.out.cw.cell (i32s_get OW.out)
      have fo := C8.out.co.free E0.length
      have fw := C8.out.cw.free j
      have ne2 := C8.out.ne.2.2.2
      have cj := C8.out.cn.cell (i64s_get (N := N.set j 0) (p := j) (z := 0) (List.getElem?_set_self (by rw [C6.out.ln, HMS.out]; exact hjS)))
      have fj := C8.out.cn.free j
      have ne3 := C8.out.ne.2.1
      go_wp2_with fail
      refine wp_region_lex (by kernel_rfl) (by kernel_rfl) ?_
      go_wp2_with fail
      refine ⟨by kernel_rfl, ?_⟩
      have M9 : Hid (Mod [B.ob, B.wb] w8 ((w8.setCell ⟨B.ob, E0.length, none⟩ (.int .i32 (j : Int))).setCell ⟨B.wb, j, none⟩ (.int .i32 (E0.length : Int))).drew) := Lib.hid ((((Mod.refl [B.ob, B.wb] w8)).setCell (p := ⟨B.ob, E0.length, none⟩) (.inl (by simp)) _).setCell (p := ⟨B.wb, j, none⟩) (.inl (by simp)) _).drew
      have BO9 := Lib.hid ((C8.out.co.set E0.length (.int .i32 (j : Int))).other (a := ⟨B.wb, j, none⟩) (by simp; exact ne2) (.int .i32 (E0.length : Int))).drew
      have BW9 := Lib.hid ((C8.out.cw.other (a := ⟨B.ob, E0.length, none⟩) (by simp; exact ne2.symm) (.int .i32 (j : Int))).set j (.int .i32 (E0.length : Int))).drew
      rw [i32s_set] at BO9 BW9
      have C9 := Lib.hid (C8.out.ow M9.out BO9.out BW9.out (by rw [List.length_set, HSL.out]; exact C6.out.lo) (by rw [List.length_set, HSL.out]; exact C6.out.lw))
      have MM := Lib.hid ((((M6.out.trans (M7.out.mono (fun b hb => .inl (own_all B b hb)))).trans (M8.out.mono (by simp [SB.all]))).trans (M9.out.mono (by simp [SB.all]))))
      generalize ((w8.setCell ⟨B.ob, E0.length, none⟩ (.int .i32 (j : Int))).setCell ⟨B.wb, j, none⟩ (.int .i32 (E0.length : Int))).drew = w9 at *
      have c2 := C9.out.blk.cell (i := 2) rfl
      rw [HSL.out, HMS.out] at c2
      have cj := C9.out.cn.cell (i64s_get (N := N.set j 0) (p := j) (z := 0) (List.getElem?_set_self (by rw [C6.out.ln, HMS.out]; exact hjS)))
      have fj := C9.out.cn.free j
      have RM := Lib.hid (rise_more (n := n) C9.out (by rw [HSL.out]; exact HSN1.out) RP.out (k := E0.length) (p := j) (e := ⟨key, 0, 0⟩) (by have := RP.out.len; simp at this; rw [← this]; simp) (by simp) z)
      simp only [Int.zero_add] at RM
      clear c4 c5 co cw fo fw
      go_wp2_with fail
      refine RM.out.mono ?_
      rintro e10 w10 ⟨⟨v10, rfl⟩, hA10, hM10⟩
      have A10 := Lib.hid hA10
      have M10 := Lib.hid (MM.out.trans hM10)
      clear hA10 hM10
      rw [HTT.out] at A10
      go_wp2_with fail
      go_end0
      exact ⟨⟨_, rfl⟩, by show SumAt _ _ _ (offerE n E0 key z) _; rw [HOF.out]; exact A10.out, M10.out⟩
  ·have ho : offer n (E, total) key z = (offerE n E key z, total + z) := by unfold offer; rw [if_neg hg, if_neg hc]
   rw [ho]
   have d5 : decide ((4611686018427387904 : Int) - z ≤ total) = false := by simpa using hc
   have htz : total + z < 4611686018427387904 := by omega
   have ht0' : 0 ≤ total := ht.1
   have HA := H
   have MW := Lib.hid (Mod.refl B.all w)
   have hleq := hle
   have hEb := hE
   clear h ho hE hle ht H hg hc
   go_enter Try.func37, Try.ntmps37
   have hEb2 := Lib.hid hEb
   have hle2 := Lib.hid hleq
   obtain ⟨S, fl, N, Er, O, W, ps, hSn, hC, hR⟩ := HA.out
   have c6 := hC.blk.cell (i := 6) rfl
   have f6 := hC.blk.free 6
   have C3 := Lib.hid (hC.tot (t := total + z))
   have M3 := Lib.hid (MW.out.setCell (p := ⟨B.p, 6, none⟩) (.inl (by simp [SB.all])) (.int .i64 (total + z)))
   have FN := Lib.hid (Index.find_any C3.out.idx key hl)
   have HR := Lib.hid hR
   have hfew := hC.few
   have HSN := Lib.hid hSn
   clear hC hR hEb hleq hSn HA
   obtain ⟨w3, hw3⟩ : ∃ w3, w.setCell ⟨B.p, 6, none⟩ (.int .i64 (total + z)) = w3 := ⟨_, rfl⟩
   rw [hw3] at C3 M3 FN
   have c1 := C3.out.blk.cell (i := 1) rfl
   cases hf : findE E key with
   | some k =>
     obtain ⟨p, e, hp, he, hk, hpl⟩ := HR.out.find_some C3.out.idx.uniq hf
     obtain ⟨hS, hN, _, _, _⟩ := HR.out.at_ k p e hp he
     have hpS : p < S.length := (List.getElem?_eq_some_iff.1 hS).1
     rw [hpl] at FN
     simp only [optInt] at FN
     have hen := hEb2.out e (List.mem_of_getElem? he)
     have CNp := Lib.hid (i64s_get hN)
     have HP := Lib.hid hp
     have HE := Lib.hid he
     have hof : offerE n E key z = bumpAt E k z := by unfold offerE; rw [hf]
     have HOF := Lib.hid hof
     clear hp he hk hpl hS hN hof hf
     go_wp2_with fail
     refine FN.out.mono ?_
     rintro e4 w4 ⟨rfl, hM4⟩
     have C4 := Lib.hid (C3.out.mod hM4 (by simp))
     have M4 := Lib.hid (M3.out.trans (hM4.mono (by simp)))
     have c2 := C4.out.blk.cell (i := 2) rfl
     have cN := C4.out.cn.cell CNp.out
     have fN := C4.out.cn.free p
     have RM := Lib.hid (rise_more C4.out HSN.out HR.out HP.out HE.out z)
     clear hM4 c1 c6 f6 hw3
     obtain ⟨fk, en, fe⟩ := e
     simp only at *
     generalize S.length = m at *
     go_wp2_with fail
     refine RM.out.mono ?_
     rintro e5 w5 ⟨⟨v5, rfl⟩, hA5, hM5⟩
     have A5 := Lib.hid hA5
     have M5 := Lib.hid (M4.out.trans hM5)
     clear hA5 hM5
     go_wp2_with fail
     go_end0
     exact ⟨⟨_, rfl⟩, by show SumAt _ _ _ (offerE n E key z) _; rw [HOF.out]; exact A5.out, M5.out⟩
   | none =>
     rw [HR.out.find_none hf] at FN
     simp only [optInt] at FN
     have L3 := Lib.hid (fun W' (hM : Mod [] w3 W') => len_c (C3.out.mod hM (by simp)))
     rw [HR.out.used] at L3
     have HF := Lib.hid hf
     clear hf
     by_cases hfull : E.length = n
     ·have d6 : ((E.length : Int) == (S.length : Int)) = true := by rw [HSN.out]; simp; omega
      obtain ⟨E1, e, hEe⟩ : ∃ E1 e, E = E1 ++ [e] := by
       rcases List.eq_nil_or_concat E with h0 | ⟨E1, e, h0⟩
       ·rw [h0] at hfull; simp at hfull; omega
       ·exact ⟨E1, e, by rw [h0, List.concat_eq_append]⟩
      have DR := Lib.hid (fun W' (hM : Mod [] w3 W') => drop_any (E := E1) (e := e) (n := n) (total := total + z) (by rw [← hEe]; exact ⟨S, fl, N, Er, O, W, ps, HSN.out, C3.out.mod hM (by simp), HR.out⟩))
      have hE1 : E1.length < n := by rw [hEe] at hfull; simp at hfull; omega
      have hof : offerE n E key z = bumpAt (E1 ++ [⟨key, e.n, e.n⟩]) E1.length z := by
       have h1 : shed n E = E1 := by unfold shed; rw [if_pos hfull, ← hfull, hEe]; simp
       have h2 : leastOf n E = e.n := by unfold leastOf; rw [if_pos hfull, ← hfull, hEe, List.getD_eq_getElem?_getD]; simp
       unfold offerE; rw [HF.out]; simp only; rw [h1, h2]
      have HOF := Lib.hid hof
      have hen := hEb2.out e (by rw [hEe]; simp)
      have hno : findE E1 key = none := by
       have := findE_no HF.out
       rw [hEe] at this
       unfold findE
       rw [List.findIdx?_eq_none_iff]
       intro x hx
       have := this x (List.mem_append_left _ hx)
       simpa using this
      have HNO := Lib.hid hno
      have hn64 : n ≤ 2000 := by rw [← HSN.out]; exact hfew
      have hel : E.length ≤ 2000 := by omega
      clear hEe hof hno
      obtain ⟨fk, en, fe⟩ := e
      simp only at *
      go_wp2_with fail
      refine FN.out.mono ?_
      rintro e4 w4 ⟨rfl, hM4⟩
      have N4 := Lib.hid hM4
      have c2 := (C3.out.mod hM4 (by simp)).blk.cell (i := 2) rfl
      have isc : IsC w4.drew B.p := isC_of_cell (w := w4) c2
      have IS := Lib.hid isc
      clear hM4 isc c1 c6 f6 hw3
      generalize S.length = m at *
      go_wp2_with fail
      refine Go.YtndekdafiaogmaaLex.wp_region_held [2] [5] [] (by kernel_rfl) (by kernel_rfl) ?_
      simp only [wpCut, List.take_succ_cons, List.take_zero, List.drop_succ_cons, List.drop_zero, List.cons_append, List.nil_append]
      go_wp2_with fail
      refine (L3.out _ (N4.out.drew)).mono ?_
      rintro e5 w5 ⟨rfl, rfl⟩
      go_wp2_with fail
      refine ⟨Mod.refl _ _, ?_⟩
      go_wp2_with fail
      refine ⟨by kernel_rfl, ⟨⟨by simp, IS.out⟩, trivial⟩, ?_⟩
      go_wp2_with fail
      refine (DR.out _ (N4.out.drew)).mono ?_
      rintro e6 w6 ⟨rfl, hA6, hM6⟩
      have M6 := Lib.hid ((M3.out.trans (N4.out.drew.mono (by simp))).trans hM6)
      obtain ⟨S1, fl1, N1, Er1, O1, W1, ps1, hSn1, hC1, hR1⟩ := hA6
      clear hM6 c2
      have husd := hR1.used
      have hwh := hC1.whole
      have hlow : en + z < 4611686018427387904 := by omega
      have hlow0 : 0 ≤ en := by omega
      obtain ⟨j, fl', hfl⟩ : ∃ j fl', fl1 = j :: fl' := by
       cases hq : fl1 with
       | nil => have := hwh.2; rw [hq, husd] at this; simp at this; omega
       | cons j fl' => exact ⟨j, fl', rfl⟩
      rw [hfl] at hC1 hwh
      have hj0 := hC1.idx.free0
      have hjS : j < S1.length := (List.getElem?_eq_some_iff.1 hj0).1
      have PU := Lib.hid (put_any hC1.idx key (by omega))
      rw [putS_yes (hR1.find_none HNO.out) hk64] at PU
      have WS := Lib.hid (whole_set (key := key) hwh hj0)
      have C6 := Lib.hid hC1
      have RP := Lib.hid (hR1.put (key := key) hj0 hC1.ln hC1.le hC1.lo hC1.lw rfl (by rw [hSn1]; exact hE1) en)
      have HSN1 := Lib.hid hSn1
      have c1 := hC1.blk.cell (i := 1) rfl
      have hsl : (S1.set j (some key)).length = S1.length := by rw [List.length_set]
      have HSL := Lib.hid hsl
      have HUS := Lib.hid husd
      obtain ⟨on, hon⟩ : ∃ z, N1[j]? = some z := ⟨_, List.getElem?_eq_getElem (by rw [hC1.ln]; exact hjS)⟩
      obtain ⟨oe, hoe⟩ : ∃ z, Er1[j]? = some z := ⟨_, List.getElem?_eq_getElem (by rw [hC1.le]; exact hjS)⟩
      obtain ⟨oo, hoo⟩ : ∃ z, O1[E1.length]? = some z := ⟨_, List.getElem?_eq_getElem (by rw [hC1.lo, hSn1]; exact hE1)⟩
      obtain ⟨ow, how⟩ : ∃ z, W1[j]? = some z := ⟨_, List.getElem?_eq_getElem (by rw [hC1.lw]; exact hjS)⟩
      have ON := Lib.hid hon
      have OE := Lib.hid hoe
      have OO := Lib.hid hoo
      have OW := Lib.hid how
      have hE1S : E1.length < S1.length := by rw [hSn1]; exact hE1
      have hS2 : S1.length ≤ 2000 := by rw [hSn1]; exact hn64
      clear hC1 hR1 hSn1 hfl hj0 husd hwh hsl hon hoe hoo how
      go_wp2_with fail
      refine PU.out.mono ?_
      rintro e7 w7 ⟨rfl, hI7, hM7⟩
      have I7 := Lib.hid hI7
      have M7 := Lib.hid hM7
      have NI := Lib.hid C6.out.ni
      have BP7 := Lib.hid (hM7.blk C6.out.blk (NI.out _ (by simp [SB.own])))
      have BN7 := Lib.hid (hM7.blk C6.out.cn (NI.out _ (by simp [SB.own])))
      have BE7 := Lib.hid (hM7.blk C6.out.ce (NI.out _ (by simp [SB.own])))
      have BO7 := Lib.hid (hM7.blk C6.out.co (NI.out _ (by simp [SB.own])))
      have BW7 := Lib.hid (hM7.blk C6.out.cw (NI.out _ (by simp [SB.own])))
      have c2 := BP7.out.cell (i := 2) rfl
      have c3 := BP7.out.cell (i := 3) rfl
      have cn := BN7.out.cell (i64s_get ON.out)
      have ce := BE7.out.cell (i64s_get OE.out)
      have fn := BN7.out.free j
      have fe := BE7.out.free j
      have ne1 := C6.out.ne.2.1.1
      clear hI7 hM7 c1
      generalize hms : S1.length = ms at c2 c3 BP7 hjS hE1S hS2
      have HMS := Lib.hid hms
      clear hms
      go_wp2_with fail
      refine wp_region_lex (by kernel_rfl) (by kernel_rfl) ?_
      go_wp2_with fail
      refine ⟨by kernel_rfl, ?_⟩
      have M8 : Hid (Mod [B.nb, B.eb] w7 ((w7.setCell ⟨B.nb, j, none⟩ (.int .i64 en)).setCell ⟨B.eb, j, none⟩ (.int .i64 en)).drew) := Lib.hid ((((Mod.refl [B.nb, B.eb] w7)).setCell (p := ⟨B.nb, j, none⟩) (.inl (by simp)) _).setCell (p := ⟨B.eb, j, none⟩) (.inl (by simp)) _).drew
      have BN8 := Lib.hid ((BN7.out.set j (.int .i64 en)).other (a := ⟨B.eb, j, none⟩) (by simp; exact ne1) (.int .i64 en)).drew
      have BE8 := Lib.hid ((BE7.out.other (a := ⟨B.nb, j, none⟩) (by simp; exact ne1.symm) (.int .i64 en)).set j (.int .i64 en)).drew
      rw [i64s_set] at BN8 BE8
      have nes := C6.out.ne
      have C8 : Hid (SumC ((w7.setCell ⟨B.nb, j, none⟩ (.int .i64 en)).setCell ⟨B.eb, j, none⟩ (.int .i64 en)).drew B (S1.set j (some key)) fl' (N1.set j en) (Er1.set j en) O1 W1 (total + z)) :=
       Lib.hid ⟨by rw [HSL.out, HMS.out]; exact M8.out.blk BP7.out (by simp; exact ⟨nes.1.1, nes.1.2.1⟩), I7.out.mod M8.out (fun b hb hb' => by
        simp only [List.mem_cons, List.not_mem_nil, or_false] at hb'
        rcases hb' with rfl | rfl
        ·exact NI.out _ (by simp [SB.own]) hb
        ·exact NI.out _ (by simp [SB.own]) hb), BN8.out, BE8.out, M8.out.blk BO7.out (by simp; exact ⟨nes.2.1.2.1.symm, nes.2.2.1.1.symm⟩), M8.out.blk BW7.out (by simp; exact ⟨nes.2.1.2.2.symm, nes.2.2.1.2.symm⟩),
        by rw [List.length_set, HSL.out]; exact C6.out.ln, by rw [List.length_set, HSL.out]; exact C6.out.le, by rw [HSL.out]; exact C6.out.lo, by rw [HSL.out]; exact C6.out.lw, by rw [HSL.out]; exact WS.out.1, C6.out.nd, C6.out.ni⟩
      generalize ((w7.setCell ⟨B.nb, j, none⟩ (.int .i64 en)).setCell ⟨B.eb, j, none⟩ (.int .i64 en)).drew = w8 at *
      have L8 := Lib.hid (len_c C8.out)
      rw [WS.out.2, HUS.out] at L8
      have hs1 : (((E1.length + 1 : Nat) : Int) - 1) = (E1.length : Int) := by omega
      clear c2 c3 cn ce fn fe
      go_wp2_with fail
      refine L8.out.mono ?_
      rintro e8 w8' ⟨rfl, rfl⟩
      have c4 := C8.out.blk.cell (i := 4) rfl
      have c5 := C8.out.blk.cell (i := 5) rfl
      have c2 := C8.out.blk.cell (i := 2) rfl
      rw [HSL.out, HMS.out] at c4 c5 c2
      have co := C8.out.co.cell (i32s_get OO.out)
      have cw := C8.out.cw.cell (i32s_get OW.out)
      have fo := C8.out.co.free E1.length
      have fw := C8.out.cw.free j
      have ne2 := C8.out.ne.2.2.2
      have cj := C8.out.cn.cell (i64s_get (N := N1.set j en) (p := j) (z := en) (List.getElem?_set_self (by rw [C6.out.ln, HMS.out]; exact hjS)))
      have fj := C8.out.cn.free j
      have ne3 := C8.out.ne.2.1
      go_wp2_with fail
      refine wp_region_lex (by kernel_rfl) (by kernel_rfl) ?_
      go_wp2_with fail
      refine ⟨by kernel_rfl, ?_⟩
      have M9 : Hid (Mod [B.ob, B.wb] w8 ((w8.setCell ⟨B.ob, E1.length, none⟩ (.int .i32 (j : Int))).setCell ⟨B.wb, j, none⟩ (.int .i32 (E1.length : Int))).drew) := Lib.hid ((((Mod.refl [B.ob, B.wb] w8)).setCell (p := ⟨B.ob, E1.length, none⟩) (.inl (by simp)) _).setCell (p := ⟨B.wb, j, none⟩) (.inl (by simp)) _).drew
      have BO9 := Lib.hid ((C8.out.co.set E1.length (.int .i32 (j : Int))).other (a := ⟨B.wb, j, none⟩) (by simp; exact ne2) (.int .i32 (E1.length : Int))).drew
      have BW9 := Lib.hid ((C8.out.cw.other (a := ⟨B.ob, E1.length, none⟩) (by simp; exact ne2.symm) (.int .i32 (j : Int))).set j (.int .i32 (E1.length : Int))).drew
      rw [i32s_set] at BO9 BW9
      have C9 := Lib.hid (C8.out.ow M9.out BO9.out BW9.out (by rw [List.length_set, HSL.out]; exact C6.out.lo) (by rw [List.length_set, HSL.out]; exact C6.out.lw))
      have MM := Lib.hid ((((M6.out.trans (M7.out.mono (fun b hb => .inl (own_all B b hb)))).trans (M8.out.mono (by simp [SB.all]))).trans (M9.out.mono (by simp [SB.all]))))
      generalize ((w8.setCell ⟨B.ob, E1.length, none⟩ (.int .i32 (j : Int))).setCell ⟨B.wb, j, none⟩ (.int .i32 (E1.length : Int))).drew = w9 at *
      have c2 := C9.out.blk.cell (i := 2) rfl
      rw [HSL.out, HMS.out] at c2
      have cj := C9.out.cn.cell (i64s_get (N := N1.set j en) (p := j) (z := en) (List.getElem?_set_self (by rw [C6.out.ln, HMS.out]; exact hjS)))
      have fj := C9.out.cn.free j
      have RM := Lib.hid (rise_more (n := n) C9.out (by rw [HSL.out]; exact HSN1.out) RP.out (k := E1.length) (p := j) (e := ⟨key, en, en⟩) (by have := RP.out.len; simp at this; rw [← this]; simp) (by simp) z)
      clear c4 c5 co cw fo fw
      go_wp2_with fail
      refine RM.out.mono ?_
      rintro e10 w10 ⟨⟨v10, rfl⟩, hA10, hM10⟩
      have A10 := Lib.hid hA10
      have M10 := Lib.hid (MM.out.trans hM10)
      clear hA10 hM10
      go_wp2_with fail
      go_end0
      exact ⟨⟨_, rfl⟩, by show SumAt _ _ _ (offerE n E key z) _; rw [HOF.out]; exact A10.out, M10.out⟩
     ·have d6 : ((E.length : Int) == (S.length : Int)) = false := by rw [HSN.out]; simp; omega
      have hel : E.length ≤ 2000 := by have := hle2.out; rw [← HSN.out] at this; omega
      have hE1 : E.length < n := by have := hle2.out; omega
      have hof : offerE n E key z = bumpAt (E ++ [⟨key, 0, 0⟩]) E.length z := by
       have h1 : shed n E = E := by unfold shed; rw [if_neg hfull]
       have h2 : leastOf n E = 0 := by unfold leastOf; rw [if_neg hfull]
       unfold offerE; rw [HF.out]; simp only; rw [h1, h2]
      have HOF := Lib.hid hof
      have hn64 : n ≤ 2000 := by rw [← HSN.out]; exact hfew
      have HNO := HF
      clear hof
      go_wp2_with fail
      refine FN.out.mono ?_
      rintro e4 w4 ⟨rfl, hM4⟩
      have N4 := Lib.hid hM4
      have c2 := (C3.out.mod hM4 (by simp)).blk.cell (i := 2) rfl
      have isc : IsC w4.drew B.p := isC_of_cell (w := w4) c2
      have IS := Lib.hid isc
      have c1w := (C3.out.mod hM4.drew (by simp)).blk.cell (i := 1) rfl
      clear hM4 isc c1 c6 f6 hw3
      go_wp2_with fail
      refine Go.YtndekdafiaogmaaLex.wp_region_held [2] [5] [] (by kernel_rfl) (by kernel_rfl) ?_
      simp only [wpCut, List.take_succ_cons, List.take_zero, List.drop_succ_cons, List.drop_zero, List.cons_append, List.nil_append]
      go_wp2_with fail
      refine (L3.out _ (N4.out.drew)).mono ?_
      rintro e5 w5 ⟨rfl, rfl⟩
      go_wp2_with fail
      refine ⟨Mod.refl _ _, ?_⟩
      go_wp2_with fail
      refine ⟨by kernel_rfl, ⟨⟨by simp, IS.out⟩, trivial⟩, ?_⟩
      have M6 := Lib.hid (M3.out.trans (N4.out.drew.mono (by simp)))
      have hC1 := C3.out.mod N4.out.drew (by simp)
      have hR1 := HR.out
      have hSn1 := HSN.out
      clear c2 c1w
      obtain ⟨w6, hw6⟩ : ∃ w6, w4.drew = w6 := ⟨_, rfl⟩
      rw [hw6] at M6 hC1 ⊢
      clear hw6
      have husd := hR1.used
      have hwh := hC1.whole
      have hlow : 0 + z < 4611686018427387904 := by omega
      have hlow0 : 0 ≤ 0 := by omega
      obtain ⟨j, fl', hfl⟩ : ∃ j fl', fl = j :: fl' := by
       cases hq : fl with
       | nil => have := hwh.2; rw [hq, husd] at this; simp at this; omega
       | cons j fl' => exact ⟨j, fl', rfl⟩
      rw [hfl] at hC1 hwh
      have hj0 := hC1.idx.free0
      have hjS : j < S.length := (List.getElem?_eq_some_iff.1 hj0).1
      have PU := Lib.hid (put_any hC1.idx key (by omega))
      rw [putS_yes (hR1.find_none HNO.out) hk64] at PU
      have WS := Lib.hid (whole_set (key := key) hwh hj0)
      have C6 := Lib.hid hC1
      have RP := Lib.hid (hR1.put (key := key) hj0 hC1.ln hC1.le hC1.lo hC1.lw rfl (by rw [hSn1]; exact hE1) 0)
      have HSN1 := Lib.hid hSn1
      have c1 := hC1.blk.cell (i := 1) rfl
      have hsl : (S.set j (some key)).length = S.length := by rw [List.length_set]
      have HSL := Lib.hid hsl
      have HUS := Lib.hid husd
      obtain ⟨on, hon⟩ : ∃ z, N[j]? = some z := ⟨_, List.getElem?_eq_getElem (by rw [hC1.ln]; exact hjS)⟩
      obtain ⟨oe, hoe⟩ : ∃ z, Er[j]? = some z := ⟨_, List.getElem?_eq_getElem (by rw [hC1.le]; exact hjS)⟩
      obtain ⟨oo, hoo⟩ : ∃ z, O[E.length]? = some z := ⟨_, List.getElem?_eq_getElem (by rw [hC1.lo, hSn1]; exact hE1)⟩
      obtain ⟨ow, how⟩ : ∃ z, W[j]? = some z := ⟨_, List.getElem?_eq_getElem (by rw [hC1.lw]; exact hjS)⟩
      have ON := Lib.hid hon
      have OE := Lib.hid hoe
      have OO := Lib.hid hoo
      have OW := Lib.hid how
      have hE1S : E.length < S.length := by rw [hSn1]; exact hE1
      have hS2 : S.length ≤ 2000 := by rw [hSn1]; exact hn64
      clear hC1 hR1 hSn1 hfl hj0 husd hwh hsl hon hoe hoo how
      go_wp2_with fail
      refine PU.out.mono ?_
      rintro e7 w7 ⟨rfl, hI7, hM7⟩
      have I7 := Lib.hid hI7
      have M7 := Lib.hid hM7
      have NI := Lib.hid C6.out.ni
      have BP7 := Lib.hid (hM7.blk C6.out.blk (NI.out _ (by simp [SB.own])))
      have BN7 := Lib.hid (hM7.blk C6.out.cn (NI.out _ (by simp [SB.own])))
      have BE7 := Lib.hid (hM7.blk C6.out.ce (NI.out _ (by simp [SB.own])))
      have BO7 := Lib.hid (hM7.blk C6.out.co (NI.out _ (by simp [SB.own])))
      have BW7 := Lib.hid (hM7.blk C6.out.cw (NI.out _ (by simp [SB.own])))
      have c2 := BP7.out.cell (i := 2) rfl
      have c3 := BP7.out.cell (i := 3) rfl
      have cn := BN7.out.cell (i64s_get ON.out)
      have ce := BE7.out.cell (i64s_get OE.out)
      have fn := BN7.out.free j
      have fe := BE7.out.free j
      have ne1 := C6.out.ne.2.1.1
      clear hI7 hM7 c1
      generalize hms : S.length = ms at c2 c3 BP7 hjS hE1S hS2
      have HMS := Lib.hid hms
      clear hms
      go_wp2_with fail
      refine wp_region_lex (by kernel_rfl) (by kernel_rfl) ?_
      go_wp2_with fail
      refine ⟨by kernel_rfl, ?_⟩
      have M8 : Hid (Mod [B.nb, B.eb] w7 ((w7.setCell ⟨B.nb, j, none⟩ (.int .i64 0)).setCell ⟨B.eb, j, none⟩ (.int .i64 0)).drew) := Lib.hid ((((Mod.refl [B.nb, B.eb] w7)).setCell (p := ⟨B.nb, j, none⟩) (.inl (by simp)) _).setCell (p := ⟨B.eb, j, none⟩) (.inl (by simp)) _).drew
      have BN8 := Lib.hid ((BN7.out.set j (.int .i64 0)).other (a := ⟨B.eb, j, none⟩) (by simp; exact ne1) (.int .i64 0)).drew
      have BE8 := Lib.hid ((BE7.out.other (a := ⟨B.nb, j, none⟩) (by simp; exact ne1.symm) (.int .i64 0)).set j (.int .i64 0)).drew
      rw [i64s_set] at BN8 BE8
      have nes := C6.out.ne
      have C8 : Hid (SumC ((w7.setCell ⟨B.nb, j, none⟩ (.int .i64 0)).setCell ⟨B.eb, j, none⟩ (.int .i64 0)).drew B (S.set j (some key)) fl' (N.set j 0) (Er.set j 0) O W (total + z)) :=
       Lib.hid ⟨by rw [HSL.out, HMS.out]; exact M8.out.blk BP7.out (by simp; exact ⟨nes.1.1, nes.1.2.1⟩), I7.out.mod M8.out (fun b hb hb' => by
        simp only [List.mem_cons, List.not_mem_nil, or_false] at hb'
        rcases hb' with rfl | rfl
        ·exact NI.out _ (by simp [SB.own]) hb
        ·exact NI.out _ (by simp [SB.own]) hb), BN8.out, BE8.out, M8.out.blk BO7.out (by simp; exact ⟨nes.2.1.2.1.symm, nes.2.2.1.1.symm⟩), M8.out.blk BW7.out (by simp; exact ⟨nes.2.1.2.2.symm, nes.2.2.1.2.symm⟩),
        by rw [List.length_set, HSL.out]; exact C6.out.ln, by rw [List.length_set, HSL.out]; exact C6.out.le, by rw [HSL.out]; exact C6.out.lo, by rw [HSL.out]; exact C6.out.lw, by rw [HSL.out]; exact WS.out.1, C6.out.nd, C6.out.ni⟩
      generalize ((w7.setCell ⟨B.nb, j, none⟩ (.int .i64 0)).setCell ⟨B.eb, j, none⟩ (.int .i64 0)).drew = w8 at *
      have L8 := Lib.hid (len_c C8.out)
      rw [WS.out.2, HUS.out] at L8
      have hs1 : (((E.length + 1 : Nat) : Int) - 1) = (E.length : Int) := by omega
      clear c2 c3 cn ce fn fe
      go_wp2_with fail
      refine L8.out.mono ?_
      rintro e8 w8' ⟨rfl, rfl⟩
      have c4 := C8.out.blk.cell (i := 4) rfl
      have c5 := C8.out.blk.cell (i := 5) rfl
      have c2 := C8.out.blk.cell (i := 2) rfl
      rw [HSL.out, HMS.out] at c4 c5 c2
      have co := C8.out.co.cell (i32s_get OO.out)
      have cw := C8.out.cw.cell (i32s_get OW.out)
      have fo := C8.out.co.free E.length
      have fw := C8.out.cw.free j
      have ne2 := C8.out.ne.2.2.2
      have cj := C8.out.cn.cell (i64s_get (N := N.set j 0) (p := j) (z := 0) (List.getElem?_set_self (by rw [C6.out.ln, HMS.out]; exact hjS)))
      have fj := C8.out.cn.free j
      have ne3 := C8.out.ne.2.1
      go_wp2_with fail
      refine wp_region_lex (by kernel_rfl) (by kernel_rfl) ?_
      go_wp2_with fail
      refine ⟨by kernel_rfl, ?_⟩
      have M9 : Hid (Mod [B.ob, B.wb] w8 ((w8.setCell ⟨B.ob, E.length, none⟩ (.int .i32 (j : Int))).setCell ⟨B.wb, j, none⟩ (.int .i32 (E.length : Int))).drew) := Lib.hid ((((Mod.refl [B.ob, B.wb] w8)).setCell (p := ⟨B.ob, E.length, none⟩) (.inl (by simp)) _).setCell (p := ⟨B.wb, j, none⟩) (.inl (by simp)) _).drew
      have BO9 := Lib.hid ((C8.out.co.set E.length (.int .i32 (j : Int))).other (a := ⟨B.wb, j, none⟩) (by simp; exact ne2) (.int .i32 (E.length : Int))).drew
      have BW9 := Lib.hid ((C8.out.cw.other (a := ⟨B.ob, E.length, none⟩) (by simp; exact ne2.symm) (.int .i32 (j : Int))).set j (.int .i32 (E.length : Int))).drew
      rw [i32s_set] at BO9 BW9
      have C9 := Lib.hid (C8.out.ow M9.out BO9.out BW9.out (by rw [List.length_set, HSL.out]; exact C6.out.lo) (by rw [List.length_set, HSL.out]; exact C6.out.lw))
      have MM := Lib.hid ((((M6.out.trans (M7.out.mono (fun b hb => .inl (own_all B b hb)))).trans (M8.out.mono (by simp [SB.all]))).trans (M9.out.mono (by simp [SB.all]))))
      generalize ((w8.setCell ⟨B.ob, E.length, none⟩ (.int .i32 (j : Int))).setCell ⟨B.wb, j, none⟩ (.int .i32 (E.length : Int))).drew = w9 at *
      have c2 := C9.out.blk.cell (i := 2) rfl
      rw [HSL.out, HMS.out] at c2
      have cj := C9.out.cn.cell (i64s_get (N := N.set j 0) (p := j) (z := 0) (List.getElem?_set_self (by rw [C6.out.ln, HMS.out]; exact hjS)))
      have fj := C9.out.cn.free j
      have RM := Lib.hid (rise_more (n := n) C9.out (by rw [HSL.out]; exact HSN1.out) RP.out (k := E.length) (p := j) (e := ⟨key, 0, 0⟩) (by have := RP.out.len; simp at this; rw [← this]; simp) (by simp) z)
      simp only [Int.zero_add] at RM
      clear c4 c5 co cw fo fw
      go_wp2_with fail
      refine RM.out.mono ?_
      rintro e10 w10 ⟨⟨v10, rfl⟩, hA10, hM10⟩
      have A10 := Lib.hid hA10
      have M10 := Lib.hid (MM.out.trans hM10)
      clear hA10 hM10
      go_wp2_with fail
      go_end0
      exact ⟨⟨_, rfl⟩, by show SumAt _ _ _ (offerE n E key z) _; rw [HOF.out]; exact A10.out, M10.out⟩
theorem take_snoc {E : List Ent} {k : Nat} {e : Ent} (he : E[k]? = some e) : E.take (k + 1) = E.take k ++ [e] := by rw [List.take_add_one, he]; rfl
end Go.Proofs.Ytndekdafiaogmaa.Sum
end
section
namespace Go.Proofs.Ytndekdafiaogmaa.Sum
open Go Go.RowKit Go.YtndekdafiaogmaaMem
abbrev nAt (E : List Ent) (i : Nat) : Int := (E.getD i default).n
def Falling (E : List Ent) : Prop := ∀ i j, i < j → j < E.length → nAt E j ≤ nAt E i
def sumN (E : List Ent) : Int := (E.map (·.n)).sum
theorem getD_some {E : List Ent} {i : Nat} {e : Ent} (h : E[i]? = some e) : E.getD i default = e := by rw [List.getD_eq_getElem?_getD, h]; rfl
theorem more_at {E : List Ent} {k : Nat} (hk : k < E.length) (z : Int) (j : Nat) : (more E k z).getD j default = if j = k then { E.getD k default with n := nAt E k + z } else E.getD j default := by
 unfold more
 by_cases h : j = k
 ·subst h
  rw [if_pos rfl, List.getD_eq_getElem?_getD, List.getElem?_set_self hk]; rfl
 ·rw [if_neg h, List.getD_eq_getElem?_getD, List.getElem?_set_ne (fun e => h e.symm), ← List.getD_eq_getElem?_getD]
theorem move_at' {F : List Ent} {k a : Nat} (hk : k < F.length) (ha : a ≤ k) (j : Nat) : (move k a F).getD j default = if j < a then F.getD j default else if j = a then F.getD k default else if j ≤ k then F.getD (j - 1) default else F.getD j default := by
 rw [List.getD_eq_getElem?_getD, move_get hk ha]
 split
 ·rw [← List.getD_eq_getElem?_getD]
 ·split
  ·rw [← List.getD_eq_getElem?_getD]
  ·split <;> rw [← List.getD_eq_getElem?_getD]
theorem bump_perm {E : List Ent} {k : Nat} (hk : k < E.length) (z : Int) : (bumpAt E k z).Perm (more E k z) := by
 unfold bumpAt
 exact move_perm (by rw [more_length]; exact hk) (riseTo_le _ _ _)
theorem bump_length {E : List Ent} {k : Nat} (hk : k < E.length) (z : Int) : (bumpAt E k z).length = E.length := by rw [(bump_perm hk z).length_eq, more_length]
theorem more_keys {E : List Ent} {k : Nat} (hk : k < E.length) (z : Int) : (more E k z).map (·.key) = E.map (·.key) := by
 unfold more
 rw [List.map_set]
 apply List.ext_getElem?
 intro i
 by_cases h : k = i
 ·subst h
  rw [List.getElem?_set_self (by simpa using hk), List.getElem?_map, List.getElem?_eq_getElem hk, List.getD_eq_getElem?_getD, List.getElem?_eq_getElem hk]; rfl
 ·rw [List.getElem?_set_ne h]
theorem sum_set (l : List Int) (k : Nat) (hk : k < l.length) (z : Int) : (l.set k (l.getD k 0 + z)).sum = l.sum + z := by
 induction l generalizing k with
 | nil => simp at hk
 | cons x l ih =>
   cases k with
   | zero => simp; omega
   | succ k =>
     have := ih k (by simpa using hk)
     simp only [List.set_cons_succ, List.sum_cons, List.getD_cons_succ] at *
     omega
theorem more_sum {E : List Ent} {k : Nat} (hk : k < E.length) (z : Int) : sumN (more E k z) = sumN E + z := by
 unfold sumN more
 rw [List.map_set]
 have := sum_set (E.map (·.n)) k (by simpa using hk) z
 rw [← this]
 have e : (E.map (·.n)).getD k 0 = nAt E k := by
  show (E.map (·.n)).getD k 0 = (E.getD k default).n
  rw [List.getD_eq_getElem?_getD, List.getElem?_map, List.getD_eq_getElem?_getD, List.getElem?_eq_getElem hk]; rfl
 rw [e]
theorem perm_sum {l m : List Int} (h : l.Perm m) : l.sum = m.sum := by
 induction h with
 | nil => rfl
 | cons x _ ih => simp [ih]
 | swap x y l => simp; omega
 | trans _ _ ih1 ih2 => rw [ih1, ih2]
theorem sumN_perm {E F : List Ent} (h : E.Perm F) : sumN E = sumN F := perm_sum (h.map (·.n))
theorem bump_sum {E : List Ent} {k : Nat} (hk : k < E.length) (z : Int) : sumN (bumpAt E k z) = sumN E + z := by rw [sumN_perm (bump_perm hk z), more_sum hk]
theorem bump_mem {E : List Ent} {k : Nat} (hk : k < E.length) (z : Int) {e : Ent} (he : e ∈ bumpAt E k z) : e = { E.getD k default with n := nAt E k + z } ∨ ∃ j, j ≠ k ∧ E[j]? = some e := by
 have := (bump_perm hk z).mem_iff.1 he
 obtain ⟨j, hj⟩ := List.getElem?_of_mem this
 by_cases h : j = k
 ·subst h
  left
  have h1 := getD_some hj
  rw [more_at hk, if_pos rfl] at h1
  exact h1.symm
 ·right
  refine ⟨j, h, ?_⟩
  unfold more at hj
  rwa [List.getElem?_set_ne (fun e => h e.symm)] at hj
theorem bump_fall {E : List Ent} {k : Nat} (hk : k < E.length) {z : Int} (hz : 0 < z) (h : Falling E) : Falling (bumpAt E k z) := by
 have hkF : k < (more E k z).length := by rw [more_length]; exact hk
 unfold bumpAt
 obtain ⟨a, ha⟩ : ∃ a, riseTo (more E k z) (nAt E k + z) k = a := ⟨_, rfl⟩
 have hle := riseTo_le (more E k z) (nAt E k + z) k
 have hge := riseTo_ge (more E k z) (nAt E k + z) k
 have hlt := riseTo_lt (more E k z) (nAt E k + z) k
 rw [ha] at hle hge hlt ⊢
 have hn : ∀ j, nAt (more E k z) j = if j = k then nAt E k + z else nAt E j := fun j => by
  show ((more E k z).getD j default).n = _
  rw [more_at hk]; split <;> rfl
 have hm : ∀ j, nAt (move k a (more E k z)) j = if j < a then nAt (more E k z) j else if j = a then nAt (more E k z) k else if j ≤ k then nAt (more E k z) (j - 1) else nAt (more E k z) j := fun j => by
  show ((move k a (more E k z)).getD j default).n = _
  rw [move_at' hkF hle]
  split
  ·rfl
  ·split
   ·rfl
   ·split <;> rfl
 have h1 : ∀ i, i < a → nAt E k + z ≤ nAt E i := fun i hi => by
  rcases hge with h0 | ⟨b, hb, hnb⟩
  ·omega
  ·have q : nAt (more E k z) b = nAt E b := by rw [hn, if_neg (by omega)]
   have q' : ¬ nAt (more E k z) b < nAt E k + z := hnb
   rw [q] at q'
   rcases Nat.lt_or_ge i b with hib | hib
   ·have := h i b hib (by omega); omega
   ·obtain rfl : i = b := by omega
    omega
 have h2 : ∀ j, a ≤ j → j < k → nAt E j < nAt E k + z := fun j q1 q2 => by
  have q : nAt (more E k z) j < nAt E k + z := hlt j q1 q2
  rwa [hn, if_neg (by omega)] at q
 intro i j hij hj
 rw [move_length hkF hle, more_length] at hj
 rw [hm, hm]
 by_cases c1 : j < a
 ·rw [if_pos c1, if_pos (by omega), hn, hn, if_neg (by omega), if_neg (by omega)]
  exact h i j hij hj
 ·rw [if_neg c1]
  by_cases c2 : j = a
  ·rw [if_pos c2, if_pos (by omega), hn, hn, if_pos rfl, if_neg (by omega)]
   exact h1 i (by omega)
  ·rw [if_neg c2]
   by_cases c3 : j ≤ k
   ·rw [if_pos c3, hn (j - 1), if_neg (by omega)]
    by_cases d1 : i < a
    ·rw [if_pos d1, hn, if_neg (by omega)]
     exact h i (j - 1) (by omega) (by omega)
    ·rw [if_neg d1]
     by_cases d2 : i = a
     ·rw [if_pos d2, hn, if_pos rfl]
      have := h2 (j - 1) (by omega) (by omega); omega
     ·rw [if_neg d2, if_pos (by omega), hn, if_neg (by omega)]
      exact h (i - 1) (j - 1) (by omega) (by omega)
   ·rw [if_neg c3, hn j, if_neg (by omega)]
    have hkj := h k j (by omega) hj
    by_cases d1 : i < a
    ·rw [if_pos d1, hn, if_neg (by omega)]
     exact h i j hij hj
    ·rw [if_neg d1]
     by_cases d2 : i = a
     ·rw [if_pos d2, hn, if_pos rfl]; omega
     ·rw [if_neg d2]
      by_cases d3 : i ≤ k
      ·rw [if_pos d3, hn, if_neg (by omega)]
       exact h (i - 1) j (by omega) hj
      ·rw [if_neg d3, hn, if_neg (by omega)]
       exact h i j hij hj
structure OkE (n : Nat) (E : List Ent) (t : Int) : Prop where
 len : E.length ≤ n
 nd : (E.map (·.key)).Nodup
 sum : sumN E = t
 pos : ∀ e ∈ E, 0 ≤ e.err ∧ e.err < e.n
 k64 : ∀ e ∈ E, e.key.length ≤ 64
 lt : 0 ≤ t ∧ t < 4611686018427387904
 fall : Falling E
theorem sum_nonneg {l : List Int} (h : ∀ x ∈ l, 0 ≤ x) : 0 ≤ l.sum ∧ ∀ x ∈ l, x ≤ l.sum := by
 induction l with
 | nil => simp
 | cons y l ih =>
   obtain ⟨h1, h2⟩ := ih (fun x hx => h x (by simp [hx]))
   have hy := h y (by simp)
   rw [List.sum_cons]
   refine ⟨by omega, fun x hx => ?_⟩
   rcases List.mem_cons.1 hx with rfl | hx
   ·omega
   ·have := h2 x hx; omega
theorem OkE.each {n : Nat} {E : List Ent} {t : Int} (h : OkE n E t) : ∀ e ∈ E, 0 ≤ e.n ∧ e.n ≤ t := fun e he => by
 have hp : ∀ x ∈ E.map (·.n), 0 ≤ x := fun x hx => by
  obtain ⟨e', he', rfl⟩ := List.mem_map.1 hx
  have := h.pos e' he'
  omega
 obtain ⟨h1, h2⟩ := sum_nonneg hp
 have := h2 e.n (List.mem_map.2 ⟨e, he, rfl⟩)
 have hs := h.sum
 unfold sumN at hs
 rw [hs] at this
 exact ⟨hp e.n (List.mem_map.2 ⟨e, he, rfl⟩), this⟩
theorem ok_nil (n : Nat) : OkE n [] 0 := ⟨by simp, by simp, rfl, by simp, by simp, by omega, fun i j _ hj => by simp at hj⟩
theorem ok_bump {n : Nat} {E : List Ent} {t : Int} {k : Nat} {z : Int} (hk : k < E.length) (hz : 0 < z) (hl : E.length ≤ n) (hnd : (E.map (·.key)).Nodup) (hs : sumN E + z = t) (hp : ∀ e ∈ E, 0 ≤ e.err ∧ e.err ≤ e.n) (hp2 : ∀ j e, j ≠ k → E[j]? = some e → e.err < e.n) (h64 : ∀ e ∈ E, e.key.length ≤ 64) (ht : 0 ≤ t ∧ t < 4611686018427387904) (hf : Falling E) : OkE n (bumpAt E k z) t := by
 have hget : E[k]? = some (E.getD k default) := by rw [List.getD_eq_getElem?_getD, List.getElem?_eq_getElem hk]; rfl
 have hmk := List.mem_of_getElem? hget
 refine ⟨by rw [bump_length hk]; exact hl, ?_, by rw [bump_sum hk]; exact hs, fun e he => ?_, fun e he => ?_, ht, bump_fall hk hz hf⟩
 ·rw [((bump_perm hk z).map (·.key)).nodup_iff, more_keys hk]; exact hnd
 ·rcases bump_mem hk z he with rfl | ⟨j, hj, hje⟩
  ·have := hp _ hmk
   show 0 ≤ (E.getD k default).err ∧ (E.getD k default).err < (E.getD k default).n + z
   omega
  ·exact ⟨(hp e (List.mem_of_getElem? hje)).1, hp2 j e hj hje⟩
 ·rcases bump_mem hk z he with rfl | ⟨j, hj, hje⟩
  ·exact (h64 _ hmk : (E.getD k default).key.length ≤ 64)
  ·exact h64 e (List.mem_of_getElem? hje)
theorem shed_facts {n : Nat} {E : List Ent} {t : Int} (h : OkE n E t) (hn : 1 ≤ n) : (∃ m, shed n E = E.take m) ∧ (shed n E).length < n ∧ sumN (shed n E) + leastOf n E = t ∧ 0 ≤ leastOf n E ∧ ∀ i, i < (shed n E).length → leastOf n E ≤ nAt E i := by
 have hlen := h.len
 unfold shed leastOf
 by_cases hf : E.length = n
 ·rw [if_pos hf, if_pos hf]
  have hl : n - 1 < E.length := by omega
  have hg : E[n - 1]? = some (E.getD (n - 1) default) := by rw [List.getD_eq_getElem?_getD, List.getElem?_eq_getElem hl]; rfl
  refine ⟨⟨n - 1, rfl⟩, by rw [List.length_take]; omega, ?_, (h.each _ (List.mem_of_getElem? hg)).1, fun i hi => ?_⟩
  ·rw [← h.sum]
   have : E = E.take (n - 1) ++ [E.getD (n - 1) default] := by
    have h1 := take_snoc hg
    rw [show n - 1 + 1 = E.length by omega, List.take_length] at h1
    exact h1
   conv => rhs; rw [this]
   unfold sumN
   rw [List.map_append, List.sum_append]; simp
  ·rw [List.length_take] at hi
   exact h.fall i (n - 1) (by omega) hl
 ·rw [if_neg hf, if_neg hf]
  refine ⟨⟨E.length, by rw [List.take_length]⟩, by omega, by have := h.sum; omega, by omega, fun i hi => ?_⟩
  have hg : E[i]? = some (E.getD i default) := by rw [List.getD_eq_getElem?_getD, List.getElem?_eq_getElem hi]; rfl
  exact (h.each _ (List.mem_of_getElem? hg)).1
theorem ok_offerE {n : Nat} {E : List Ent} {t : Int} (h : OkE n E t) (hn : 1 ≤ n) {key : List UInt8} (hk : key.length ≤ 64) {z : Int} (hz : 0 < z) (ht : t + z < 4611686018427387904) : OkE n (offerE n E key z) (t + z) := by
 unfold offerE
 have h0 := h.lt
 cases hf : findE E key with
 | some k =>
   obtain ⟨e, he, _⟩ := findE_get hf
   exact ok_bump (List.getElem?_eq_some_iff.1 he).1 hz h.len h.nd (by rw [h.sum]) (fun e he => by have := h.pos e he; omega) (fun j e _ he => (h.pos e (List.mem_of_getElem? he)).2) h.k64 (by omega) h.fall
 | none =>
   obtain ⟨⟨m, hm⟩, s1, s2, s3, s4⟩ := shed_facts h hn
   have hno := findE_no hf
   have hsub : ∀ e, e ∈ shed n E → e ∈ E := fun e he => by rw [hm] at he; exact List.mem_of_mem_take he
   simp only
   refine ok_bump (by simp) hz (by simp; omega) ?_ ?_ (fun e he => ?_) (fun j e hj he => ?_) (fun e he => ?_) (by omega) (fun i j hij hj => ?_)
   ·rw [List.map_append, List.nodup_append]
    refine ⟨?_, by simp, fun a ha b hb => ?_⟩
    ·rw [hm, List.map_take]; exact h.nd.take
    ·obtain ⟨e, he, rfl⟩ := List.mem_map.1 ha
     simp at hb; subst hb
     exact hno e (hsub e he)
   ·have : sumN (shed n E ++ [⟨key, leastOf n E, leastOf n E⟩]) = sumN (shed n E) + leastOf n E := by unfold sumN; rw [List.map_append, List.sum_append]; simp
    rw [this, s2]
   ·rcases List.mem_append.1 he with he | he
    ·have := h.pos e (hsub e he); omega
    ·simp at he; subst he; exact ⟨s3, Int.le_refl _⟩
   ·have hjl : j < (shed n E).length := by
     have := (List.getElem?_eq_some_iff.1 he).1
     simp at this; omega
    rw [List.getElem?_append_left hjl] at he
    exact (h.pos e (hsub e (List.mem_of_getElem? he))).2
   ·rcases List.mem_append.1 he with he | he
    ·exact h.k64 e (hsub e he)
    ·simp at he; subst he; exact hk
   ·have hg : ∀ i, i < (shed n E).length → nAt (shed n E ++ [⟨key, leastOf n E, leastOf n E⟩]) i = nAt E i := fun i hi => by
     show ((shed n E ++ _).getD i default).n = (E.getD i default).n
     have him : i < m := by rw [hm, List.length_take] at hi; omega
     rw [List.getD_eq_getElem?_getD, List.getElem?_append_left hi, hm, List.getElem?_take_of_lt him, List.getD_eq_getElem?_getD]
    have hj2 : j < (shed n E).length ∨ j = (shed n E).length := by simp at hj; omega
    rcases hj2 with hj2 | rfl
    ·rw [hg j hj2, hg i (by omega)]
     refine h.fall i j hij ?_
     rw [hm, List.length_take] at hj2; omega
    ·rw [hg i hij]
     have : nAt (shed n E ++ [⟨key, leastOf n E, leastOf n E⟩]) (shed n E).length = leastOf n E := by
      show ((shed n E ++ _).getD (shed n E).length default).n = _
      rw [List.getD_eq_getElem?_getD, List.getElem?_append_right (Nat.le_refl _), Nat.sub_self]; rfl
     rw [this]; exact s4 i hij
theorem ok_offer {n : Nat} {s : List Ent × Int} (h : OkE n s.1 s.2) (hn : 1 ≤ n) (key : List UInt8) (z : Int) : OkE n (offer n s key z).1 (offer n s key z).2 := by
 unfold offer
 by_cases hg : z < 1 ∨ 4611686018427387904 ≤ z ∨ 64 < key.length
 ·rw [if_pos hg]; exact h
 ·rw [if_neg hg]
  by_cases hc : 4611686018427387904 - z ≤ s.2
  ·rw [if_pos hc]
   have := ok_offerE (ok_nil n) hn (key := key) (by omega) (z := z) (by omega) (by omega)
   simpa using this
  ·rw [if_neg hc]
   exact ok_offerE h hn (by omega) (by omega) (by omega)
def OfferOk (B : SB) (n : Nat) (s : List Ent × Int) (w : World) (e : Ending) (w' : World) : Prop := (∃ v, e = .returned v) ∧ SumAt w' B n s.1 s.2 ∧ OkE n s.1 s.2 ∧ Mod B.all w w'
theorem offer_ok {w : World} {B : SB} {n : Nat} {s : List Ent × Int} (h : SumAt w B n s.1 s.2) (ho : OkE n s.1 s.2) (hn : 1 ≤ n) (key : List UInt8) (hl : key.length ≤ 1000000) (z : Int) (hz : -9223372036854775808 ≤ z ∧ z ≤ 9223372036854775807) :
  Calls Try.prog 37 #[.pointer (some ⟨B.p, 0, none⟩), .string ⟨key.toArray⟩, .int .i64 z] w (OfferOk B n (offer n s key z) w) :=
 (offer_any h hn ho.len ho.each ho.lt key hl z hz).mono fun e w' ⟨h1, h2, h3⟩ => ⟨h1, h2, ok_offer ho hn key z, h3⟩
end Go.Proofs.Ytndekdafiaogmaa.Sum
end
