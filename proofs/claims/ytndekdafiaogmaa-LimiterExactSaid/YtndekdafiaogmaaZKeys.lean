/- keys.Store: what it holds; Len, Used, has. | keys.Store: Is, Key. | keys.Store: Free. | keys.Store: Put. | keys.Store: New. -/
import Derived.Test.YtndekdafiaogmaaZHash
import Derived.Lib.BufferWrite
import Derived.Laws.Tables
import Derived.Deep.OwnRows
import Derived.Laws.OwnMore
set_option linter.unusedSimpArgs false
set_option linter.unusedVariables false
section
namespace Go.Proofs.Ytndekdafiaogmaa.Keys
open Go Go.RowKit Go.YtndekdafiaogmaaMem Go.YtndekdafiaogmaaLex
def headOf (fl : List Nat) : Int := match fl with | [] => -1 | i :: _ => i
def szOf (k : Option (List UInt8)) : Int := match k with | none => -1 | some k => k.length
def szs (S : List (Option (List UInt8))) : List Value := S.map fun k => .int .i8 (szOf k)
def nxs (nx : List Int) : List Value := nx.map fun x => .int .i32 x
def used (S : List (Option (List UInt8))) : Nat := S.countP Option.isSome
structure Sto (w : World) (g b1 b2 b3 : Nat) (S : List (Option (List UInt8))) (fl : List Nat) (bs : List UInt8) (nx : List Int) : Prop where
 blk : Blk w g 142 [.slice (some ⟨b1, 0, none⟩) (64 * S.length) (64 * S.length), .slice (some ⟨b2, 0, none⟩) S.length S.length, .slice (some ⟨b3, 0, none⟩) S.length S.length, .int .i32 (headOf fl), .int .i64 (used S : Nat)]
 bytes : Blk w b1 5 (vb bs)
 sizes : Blk w b2 143 (szs S)
 nexts : Blk w b3 21 (nxs nx)
 len : bs.length = 64 * S.length
 nlen : nx.length = S.length
 few : S.length ≤ 2000
 key : ∀ (i : Nat) (k : List UInt8), S[i]? = some (some k) → k.length ≤ 64 ∧ (bs.drop (64 * i)).take k.length = k
 free : ∀ (j i : Nat), fl[j]? = some i → S[i]? = some none ∧ nx[i]? = some (headOf (fl.drop (j + 1)))
 nodup : fl.Nodup
 all : ∀ (i : Nat), S[i]? = some none → i ∈ fl
 ne : g ≠ b1 ∧ g ≠ b2 ∧ g ≠ b3 ∧ b1 ≠ b2 ∧ b1 ≠ b3 ∧ b2 ≠ b3
theorem Sto.mod {S0 : List Nat} {w w' : World} {g b1 b2 b3 : Nat} {S : List (Option (List UInt8))} {fl : List Nat} {bs : List UInt8} {nx : List Int} (h : Sto w g b1 b2 b3 S fl bs nx) (hm : Mod S0 w w') (h0 : g ∉ S0 ∧ b1 ∉ S0 ∧ b2 ∉ S0 ∧ b3 ∉ S0) : Sto w' g b1 b2 b3 S fl bs nx :=
 ⟨hm.blk h.blk h0.1, hm.blk h.bytes h0.2.1, hm.blk h.sizes h0.2.2.1, hm.blk h.nexts h0.2.2.2, h.len, h.nlen, h.few, h.key, h.free, h.nodup, h.all, h.ne⟩
theorem szs_get {S : List (Option (List UInt8))} {i : Nat} {k : Option (List UInt8)} (h : S[i]? = some k) : (szs S)[i]? = some (.int .i8 (szOf k)) := by simp [szs, h]
def hasK (S : List (Option (List UInt8))) (i : Int) : Bool := decide (0 ≤ i) && match S[i.toNat]? with | some (some _) => true | _ => false
section
variable {w : World} {g b1 b2 b3 : Nat} {S : List (Option (List UInt8))} {fl : List Nat} {bs : List UInt8} {nx : List Int}
theorem len_any (h : Sto w g b1 b2 b3 S fl bs nx) : Calls Try.prog 88 #[.pointer (some ⟨g, 0, none⟩)] w fun e w' => e = .returned (.int .i64 S.length) ∧ w = w' := by
 have c1 := h.blk.cell (i := 1) rfl
 clear h
 go_enter Try.func88, Try.ntmps88
 go_wp2_with fail
 go_ret
 exact ⟨rfl, rfl⟩
theorem used_any (h : Sto w g b1 b2 b3 S fl bs nx) : Calls Try.prog 82 #[.pointer (some ⟨g, 0, none⟩)] w fun e w' => e = .returned (.int .i64 (used S : Nat)) ∧ w = w' := by
 have c4 := h.blk.cell (i := 4) rfl
 clear h
 generalize used S = u at *
 go_enter Try.func82, Try.ntmps82
 go_wp2_with fail
 go_ret
 exact ⟨rfl, rfl⟩
set_option maxRecDepth 4000 in
theorem has_any (h : Sto w g b1 b2 b3 S fl bs nx) (i : Int) : Calls Try.prog 101 #[.pointer (some ⟨g, 0, none⟩), .int .i64 i] w fun e w' => e = .returned (.bool (hasK S i)) ∧ w = w' := by
 have L := Lib.hid (len_any h)
 have c1 := h.blk.cell (i := 1) rfl
 by_cases h0 : 0 ≤ i
 ·have d0 : decide ((0 : Int) ≤ i) = true := by simp; omega
  by_cases h1 : i < S.length
  ·have d1 : decide (i < (S.length : Int)) = true := by simp; omega
   obtain ⟨j, rfl⟩ : ∃ j : Nat, i = j := ⟨i.toNat, by omega⟩
   obtain ⟨k, hk⟩ : ∃ k, S[j]? = some k := ⟨_, List.getElem?_eq_getElem (show j < S.length by omega)⟩
   have ck := h.sizes.cell (szs_get hk)
   have hjl : j < S.length := by omega
   have hr : hasK S j = decide (0 ≤ szOf k) := by
    unfold hasK
    rw [d0, Int.toNat_natCast, hk]
    cases k with
    | none => rfl
    | some k => show true = _; simp [szOf]
   rw [hr]
   generalize szOf k = z at *
   clear h hk hr
   go_enter Try.func101, Try.ntmps101
   go_wp2_with fail
   refine L.out.mono ?_
   rintro e w' ⟨rfl, rfl⟩
   go_wp2_with fail
   go_ret
   exact ⟨rfl, rfl⟩
  ·have d1 : decide (i < (S.length : Int)) = false := by simp; omega
   have hr : hasK S i = false := by
    unfold hasK
    rw [List.getElem?_eq_none (by omega), Bool.and_false]
   rw [hr]
   clear h hr
   go_enter Try.func101, Try.ntmps101
   go_wp2_with fail
   refine L.out.mono ?_
   rintro e w' ⟨rfl, rfl⟩
   go_wp2_with fail
   go_ret
   exact ⟨rfl, rfl⟩
 ·have d0 : decide ((0 : Int) ≤ i) = false := by simp; omega
  have hr : hasK S i = false := by unfold hasK; rw [d0]; rfl
  rw [hr]
  clear h hr
  go_enter Try.func101, Try.ntmps101
  go_wp2_with fail
  go_ret
  exact ⟨rfl, rfl⟩
end
end Go.Proofs.Ytndekdafiaogmaa.Keys
end
section
namespace Go.Proofs.Ytndekdafiaogmaa.Keys
open Go Go.RowKit Go.YtndekdafiaogmaaMem Go.YtndekdafiaogmaaLex
def keyOf (S : List (Option (List UInt8))) (i : Int) : Option (List UInt8) := if 0 ≤ i then (S[i.toNat]?).join else none
theorem hasK_key (S : List (Option (List UInt8))) (i : Int) : hasK S i = (keyOf S i).isSome := by
 unfold hasK keyOf
 by_cases h : 0 ≤ i
 ·rw [if_pos h, show decide (0 ≤ i) = true by simpa using h, Bool.true_and]
  cases S[i.toNat]? with
  | none => rfl
  | some k => cases k <;> rfl
 ·rw [if_neg h, show decide (0 ≤ i) = false by simpa using h]; rfl
section
variable {w : World} {g b1 b2 b3 : Nat} {S : List (Option (List UInt8))} {fl : List Nat} {bs : List UInt8} {nx : List Int}
theorem Sto.keySl (h : Sto w g b1 b2 b3 S fl bs nx) {j : Nat} {k : List UInt8} (hk : S[j]? = some (some k)) (c : Nat) (hc : k.length ≤ c) (hm : c ≤ maxLen) : Sl w (.slice (some ⟨b1, 64 * j, none⟩) k.length c) (vb k) := by
 obtain ⟨h1, h2⟩ := h.key j k hk
 have hj : j < S.length := (List.getElem?_eq_some_iff.1 hk).1
 have := Sl.part (b := b1) (off := 0) (c := c) (i := 64 * j) (m := k.length) (bs := bs) h.bytes.lt (fun i u hu => by rw [Nat.zero_add]; exact h.bytes.cell hu) (by have := h.len; omega) hc hm
 rw [Nat.zero_add, h2] at this
 exact this
set_option maxRecDepth 4000 in
theorem is_any (h : Sto w g b1 b2 b3 S fl bs nx) (i : Int) (key : List UInt8) : Calls Try.prog 100 #[.pointer (some ⟨g, 0, none⟩), .int .i64 i, .string ⟨key.toArray⟩] w fun e w' => e = .returned (.bool (decide (keyOf S i = some key))) ∧ Mod [] w w' := by
 have H := Lib.hid (fun W (hM : Mod [] w W) => has_any (h.mod hM (by simp)) i)
 rw [hasK_key] at H
 have c0 := h.blk.cell (i := 0) rfl
 have c1 := h.blk.cell (i := 1) rfl
 cases hk : keyOf S i with
 | none =>
   rw [hk] at H
   clear h
   go_enter Try.func100, Try.ntmps100
   go_wp2_with fail
   refine wp_region_lex (by kernel_rfl) (by kernel_rfl) ?_
   go_wp2_with fail
   refine (H.out _ (Mod.drew (Mod.refl [] w))).mono ?_
   rintro e w' ⟨rfl, rfl⟩
   go_wp2_with fail
   refine ⟨by kernel_rfl, ?_⟩
   go_wp2_with fail
   go_ret
   exact ⟨by simp, (Mod.refl [] w).drew⟩
 | some k =>
   rw [hk] at H
   unfold keyOf at hk
   by_cases h0 : 0 ≤ i
   ·rw [if_pos h0] at hk
    obtain ⟨j, rfl⟩ : ∃ j : Nat, i = j := ⟨i.toNat, by omega⟩
    rw [Int.toNat_natCast] at hk
    have hk : S[j]? = some (some k) := by
     cases e : S[j]? with
     | none => rw [e] at hk; simp at hk
     | some x => rw [e] at hk; simp at hk; rw [hk]
    have hj : j < S.length := (List.getElem?_eq_some_iff.1 hk).1
    have ck := h.sizes.cell (szs_get hk)
    have hkl := (h.key j k hk).1
    have hfew := h.few
    have SL := Lib.hid (h.keySl hk (64 * S.length - 64 * j) (by omega) (by unfold maxLen; omega))
    have cv := run_str (P := Try.prog) (SL.out.mod (Mod.drew (Mod.refl [] w)) (by simp)) Try.underlying139 Try.underlying5 Try.underlying9
    rw [show Value.slice (some ⟨b1, 64 * j, none⟩) k.length (64 * S.length - 64 * j) = Value.slice (some ⟨b1, j * 64, none⟩) k.length (64 * S.length - j * 64) by rw [show 64 * j = j * 64 by omega]] at cv
    simp only [szOf] at ck
    clear h hk
    go_enter Try.func100, Try.ntmps100
    go_wp2_with fail
    refine wp_region_lex (by kernel_rfl) (by kernel_rfl) ?_
    go_wp2_with fail
    refine (H.out _ (Mod.drew (Mod.refl [] w))).mono ?_
    rintro e w' ⟨rfl, rfl⟩
    go_wp2_with fail
    refine ⟨by kernel_rfl, ?_⟩
    go_wp2_with fail
    go_ret
    refine ⟨?_, (Mod.refl [] w).drew⟩
    show Ending.returned (.bool (k == key)) = _
    congr 2
    rw [Bool.eq_iff_iff]; simp
   ·rw [if_neg h0] at hk; cases hk
def KeyPost (k : Option (List UInt8)) (w : World) (e : Ending) (w' : World) : Prop :=
 e = .returned (.tuple (match k with | none => #[.string ⟨#[]⟩, .bool false] | some k => #[.string ⟨k.toArray⟩, .bool true])) ∧ Mod [] w w'
set_option maxRecDepth 4000 in
theorem key_any (h : Sto w g b1 b2 b3 S fl bs nx) (i : Int) : Calls Try.prog 90 #[.pointer (some ⟨g, 0, none⟩), .int .i64 i] w (KeyPost (keyOf S i) w) := by
 have H := Lib.hid (fun W (hM : Mod [] w W) => has_any (h.mod hM (by simp)) i)
 rw [hasK_key] at H
 have c0 := h.blk.cell (i := 0) rfl
 have c1 := h.blk.cell (i := 1) rfl
 cases hk : keyOf S i with
 | none =>
   rw [hk] at H
   clear h
   go_enter Try.func90, Try.ntmps90
   go_wp2_with fail
   refine (H.out _ (Mod.refl [] w)).mono ?_
   rintro e w' ⟨rfl, rfl⟩
   go_wp2_with fail
   go_ret2
   exact ⟨rfl, Mod.refl [] w⟩
 | some k =>
   rw [hk] at H
   unfold keyOf at hk
   by_cases h0 : 0 ≤ i
   ·rw [if_pos h0] at hk
    obtain ⟨j, rfl⟩ : ∃ j : Nat, i = j := ⟨i.toNat, by omega⟩
    rw [Int.toNat_natCast] at hk
    have hk : S[j]? = some (some k) := by
     cases e : S[j]? with
     | none => rw [e] at hk; simp at hk
     | some x => rw [e] at hk; simp at hk; rw [hk]
    have hj : j < S.length := (List.getElem?_eq_some_iff.1 hk).1
    have ck := h.sizes.cell (szs_get hk)
    have hkl := (h.key j k hk).1
    have hfew := h.few
    have SL := Lib.hid (h.keySl hk (64 * S.length - 64 * j) (by omega) (by unfold maxLen; omega))
    have cv := run_str (P := Try.prog) (SL.out.mod (Mod.drew (Mod.refl [] w)) (by simp)) Try.underlying139 Try.underlying5 Try.underlying9
    rw [show Value.slice (some ⟨b1, 64 * j, none⟩) k.length (64 * S.length - 64 * j) = Value.slice (some ⟨b1, j * 64, none⟩) k.length (64 * S.length - j * 64) by rw [show 64 * j = j * 64 by omega]] at cv
    simp only [szOf] at ck
    clear h hk
    go_enter Try.func90, Try.ntmps90
    go_wp2_with fail
    refine (H.out _ (Mod.refl [] w)).mono ?_
    rintro e w' ⟨rfl, rfl⟩
    go_wp2_with fail
    refine wp_region_lex (by kernel_rfl) (by kernel_rfl) ?_
    go_wp2_with fail
    refine ⟨by kernel_rfl, ?_⟩
    go_wp2_with fail
    go_ret2
    exact ⟨rfl, (Mod.refl [] w).drew⟩
   ·rw [if_neg h0] at hk; cases hk
end
end Go.Proofs.Ytndekdafiaogmaa.Keys
end
section
namespace Go.Proofs.Ytndekdafiaogmaa.Keys
open Go Go.RowKit Go.YtndekdafiaogmaaMem Go.YtndekdafiaogmaaLex
theorem used_set_none : ∀ (S : List (Option (List UInt8))) (j : Nat) (k : List UInt8), S[j]? = some (some k) → used (S.set j none) + 1 = used S
 | [], j, k, h => by simp at h
 | x :: S, 0, k, h => by
   simp at h; subst h
   simp [used, List.countP_cons]
 | x :: S, j + 1, k, h => by
   have h' : S[j]? = some (some k) := by simpa using h
   have ih := used_set_none S j k h'
   unfold used at *
   rw [List.set_cons_succ, List.countP_cons, List.countP_cons]; omega
theorem used_set_some : ∀ (S : List (Option (List UInt8))) (j : Nat) (k : List UInt8), S[j]? = some none → used (S.set j (some k)) = used S + 1
 | [], j, k, h => by simp at h
 | x :: S, 0, k, h => by
   simp at h; subst h
   simp [used, List.countP_cons]
 | x :: S, j + 1, k, h => by
   have h' : S[j]? = some none := by simpa using h
   have ih := used_set_some S j k h'
   unfold used at *
   rw [List.set_cons_succ, List.countP_cons, List.countP_cons]; omega
section
variable {w : World} {g b1 b2 b3 : Nat} {S : List (Option (List UInt8))} {fl : List Nat} {bs : List UInt8} {nx : List Int}
theorem Sto.freed (h : Sto w g b1 b2 b3 S fl bs nx) {j : Nat} {k : List UInt8} (hk : S[j]? = some (some k)) {w' : World}
  (Bg : Blk w' g 142 [.slice (some ⟨b1, 0, none⟩) (64 * S.length) (64 * S.length), .slice (some ⟨b2, 0, none⟩) S.length S.length, .slice (some ⟨b3, 0, none⟩) S.length S.length, .int .i32 (j : Int), .int .i64 ((used S : Nat) - 1 : Int)])
  (B1 : Blk w' b1 5 (vb bs)) (B2 : Blk w' b2 143 ((szs S).set j (.int .i8 (-1)))) (B3 : Blk w' b3 21 ((nxs nx).set j (.int .i32 (headOf fl)))) :
  Sto w' g b1 b2 b3 (S.set j none) (j :: fl) bs (nx.set j (headOf fl)) := by
 have hj : j < S.length := (List.getElem?_eq_some_iff.1 hk).1
 have hu := used_set_none S j k hk
 have hnf : j ∉ fl := fun hm => by
  obtain ⟨m, hm⟩ := List.getElem?_of_mem hm
  have := (h.free m j hm).1
  rw [hk] at this; simp at this
 refine ⟨?_, B1, ?_, ?_, by rw [List.length_set]; exact h.len, by rw [List.length_set, List.length_set]; exact h.nlen, by rw [List.length_set]; exact h.few, fun i q hq => ?_, fun m i hi => ?_, List.nodup_cons.2 ⟨hnf, h.nodup⟩, fun i hi => ?_, h.ne⟩
 ·rw [List.length_set, show ((used (S.set j none) : Nat) : Int) = (used S : Nat) - 1 by omega]; exact Bg
 ·rw [show szs (S.set j none) = (szs S).set j (.int .i8 (-1)) by unfold szs; rw [List.map_set]; rfl]; exact B2
 ·rw [show nxs (nx.set j (headOf fl)) = (nxs nx).set j (.int .i32 (headOf fl)) by unfold nxs; rw [List.map_set]]; exact B3
 ·by_cases e : j = i
  ·subst e; rw [List.getElem?_set_self hj] at hq; simp at hq
  ·rw [List.getElem?_set_ne e] at hq; exact h.key i q hq
 ·cases m with
  | zero =>
    simp at hi; subst hi
    exact ⟨List.getElem?_set_self hj, by rw [List.getElem?_set_self (by rw [h.nlen]; exact hj)]; rfl⟩
  | succ m =>
    have hi' : fl[m]? = some i := by simpa using hi
    obtain ⟨f1, f2⟩ := h.free m i hi'
    have hne : j ≠ i := fun e => by subst e; exact hnf (List.mem_of_getElem? hi')
    exact ⟨by rw [List.getElem?_set_ne hne]; exact f1, by rw [List.getElem?_set_ne hne]; exact f2⟩
 ·by_cases e : j = i
  ·subst e; simp
  ·rw [List.getElem?_set_ne e] at hi; exact List.mem_cons_of_mem _ (h.all i hi)
def FreePost (w w' : World) (g b1 b2 b3 : Nat) (S : List (Option (List UInt8))) (fl : List Nat) (bs : List UInt8) (nx : List Int) (j : Nat) : Prop :=
 Sto w' g b1 b2 b3 (S.set j none) (j :: fl) bs (nx.set j (headOf fl)) ∧ Mod [g, b2, b3] w w'
set_option maxRecDepth 4000 in
theorem free_any (h : Sto w g b1 b2 b3 S fl bs nx) (j : Nat) (k : List UInt8) (hk : S[j]? = some (some k)) : Calls Try.prog 102 #[.pointer (some ⟨g, 0, none⟩), .int .i64 j] w fun e w' => e = .returned (.tuple #[]) ∧ FreePost w w' g b1 b2 b3 S fl bs nx j := by
 have H := Lib.hid (fun W (hM : Mod [] w W) => has_any (h.mod hM (by simp)) (j : Int))
 have hb : hasK S j = true := by unfold hasK; rw [show decide ((0 : Int) ≤ j) = true by simp, Int.toNat_natCast, hk]; rfl
 rw [hb] at H
 have c0 := h.blk.cell (i := 0) rfl
 have c1 := h.blk.cell (i := 1) rfl
 have c2 := h.blk.cell (i := 2) rfl
 have c3 := h.blk.cell (i := 3) rfl
 have c4 := h.blk.cell (i := 4) rfl
 have f3 := h.blk.free 3
 have f4 := h.blk.free 4
 have hj : j < S.length := (List.getElem?_eq_some_iff.1 hk).1
 have ck := h.sizes.cell (szs_get hk)
 have fk := h.sizes.free j
 have hnl := h.nlen
 have nk := h.nexts.cell (i := j) (v := .int .i32 (nx[j]'(by omega))) (by simp [nxs, List.getElem?_eq_getElem (show j < nx.length by omega)])
 have gk := h.nexts.free j
 have hfew := h.few
 obtain ⟨n1, n2, n3, n4, n5, n6⟩ := h.ne
 have hup : 1 ≤ used S := by have := used_set_none S j k hk; omega
 have hus : used S ≤ 2000 := Nat.le_trans (List.countP_le_length) hfew
 have HS := Lib.hid h
 have HK := Lib.hid hk
 generalize nx[j]'(by omega) = nj at nk
 obtain ⟨hf, hhf⟩ : ∃ hf, headOf fl = hf := ⟨_, rfl⟩
 rw [hhf] at c3
 have HF := Lib.hid hhf
 clear h hk hb hhf hnl
 go_enter Try.func102, Try.ntmps102
 go_wp2_with fail
 refine (H.out _ (Mod.refl [] w)).mono ?_
 rintro e w' ⟨rfl, rfl⟩
 go_wp2_with fail
 refine wp_region_lex (by kernel_rfl) (by kernel_rfl) ?_
 go_wp2_with fail
 refine ⟨by kernel_rfl, ?_⟩
 go_wp2_with fail
 go_end0
 have hS := HS.out
 have hfe := HF.out
 subst hfe
 refine ⟨rfl, hS.freed HK.out ?_ ?_ ?_ ?_, ?_⟩
 ·exact ((((hS.blk.other (a := ⟨b2, j, none⟩) n2 _).other (a := ⟨b3, j, none⟩) n3 _).set 3 _).set 4 _).drew
 ·exact ((((hS.bytes.other (a := ⟨b2, j, none⟩) n4 _).other (a := ⟨b3, j, none⟩) n5 _).other (a := ⟨g, 3, none⟩) (Ne.symm n1) _).other (a := ⟨g, 4, none⟩) (Ne.symm n1) _).drew
 ·exact ((((hS.sizes.set j _).other (a := ⟨b3, j, none⟩) n6 _).other (a := ⟨g, 3, none⟩) (Ne.symm n2) _).other (a := ⟨g, 4, none⟩) (Ne.symm n2) _).drew
 ·exact ((((hS.nexts.other (a := ⟨b2, j, none⟩) (Ne.symm n6) _).set j _).other (a := ⟨g, 3, none⟩) (Ne.symm n3) _).other (a := ⟨g, 4, none⟩) (Ne.symm n3) _).drew
 ·exact (((((Mod.refl [g, b2, b3] w).setCell (p := ⟨b2, j, none⟩) (.inl (by simp)) _).setCell (p := ⟨b3, j, none⟩) (.inl (by simp)) _).setCell (p := ⟨g, 3, none⟩) (.inl (by simp)) _).setCell (p := ⟨g, 4, none⟩) (.inl (by simp)) _).drew
end
end Go.Proofs.Ytndekdafiaogmaa.Keys
end
section
namespace Go.Proofs.Ytndekdafiaogmaa.Keys
open Go Go.RowKit Go.YtndekdafiaogmaaMem Go.YtndekdafiaogmaaLex
def lay (bs : List UInt8) (j : Nat) (key : List UInt8) : List UInt8 := bs.take (64 * j) ++ key ++ bs.drop (64 * j + key.length)
theorem lay_length {bs : List UInt8} {j : Nat} {key : List UInt8} (h : 64 * j + key.length ≤ bs.length) : (lay bs j key).length = bs.length := by
 unfold lay; simp; omega
theorem lay_get {bs : List UInt8} {j : Nat} {key : List UInt8} (h : 64 * j + key.length ≤ bs.length) (m : Nat) : (lay bs j key)[m]? = if 64 * j ≤ m ∧ m < 64 * j + key.length then key[m - 64 * j]? else bs[m]? := by
 unfold lay
 by_cases h1 : m < 64 * j
 ·rw [if_neg (by omega), List.append_assoc, List.getElem?_append_left (by rw [List.length_take]; omega), List.getElem?_take_of_lt h1]
 ·by_cases h2 : m < 64 * j + key.length
  ·rw [if_pos (by omega), List.getElem?_append_left (by simp; omega), List.getElem?_append_right (by rw [List.length_take]; omega), List.length_take, Nat.min_eq_left (by omega)]
  ·rw [if_neg (by omega), List.getElem?_append_right (by simp; omega), List.getElem?_drop]
   congr 1
   simp; omega
theorem lay_other {bs : List UInt8} {i j : Nat} {key k : List UInt8} (h : 64 * j + key.length ≤ bs.length) (hk : key.length ≤ 64) (hne : i ≠ j) (h64 : k.length ≤ 64) (hi : (bs.drop (64 * i)).take k.length = k) : ((lay bs j key).drop (64 * i)).take k.length = k := by
 rw [← hi]
 apply List.ext_getElem?
 intro m
 rw [hi]
 by_cases hm : m < k.length
 ·have e : ((bs.drop (64 * i)).take k.length)[m]? = k[m]? := by rw [hi]
  rw [List.getElem?_take_of_lt hm, List.getElem?_drop] at e ⊢
  rw [lay_get h, if_neg (by omega)]; exact e
 ·rw [List.getElem?_eq_none (by rw [List.length_take]; omega), List.getElem?_eq_none (by omega)]
theorem lay_self {bs : List UInt8} {j : Nat} {key : List UInt8} (h : 64 * j + key.length ≤ bs.length) : ((lay bs j key).drop (64 * j)).take key.length = key := by
 unfold lay
 rw [List.append_assoc, List.drop_append_of_le_length (by rw [List.length_take]; omega), List.drop_eq_nil_of_le (by rw [List.length_take]; omega), List.nil_append, List.take_left]
section
variable {w : World} {g b1 b2 b3 : Nat} {S : List (Option (List UInt8))} {fl : List Nat} {bs : List UInt8} {nx : List Int}
theorem Sto.put {j : Nat} (h : Sto w g b1 b2 b3 S (j :: fl) bs nx) {key : List UInt8} (hk : key.length ≤ 64) {w' : World}
  (Bg : Blk w' g 142 [.slice (some ⟨b1, 0, none⟩) (64 * S.length) (64 * S.length), .slice (some ⟨b2, 0, none⟩) S.length S.length, .slice (some ⟨b3, 0, none⟩) S.length S.length, .int .i32 (headOf fl), .int .i64 ((used S : Nat) + 1 : Int)])
  (B1 : Blk w' b1 5 (vb (lay bs j key))) (B2 : Blk w' b2 143 ((szs S).set j (.int .i8 key.length))) (B3 : Blk w' b3 21 (nxs nx)) :
  Sto w' g b1 b2 b3 (S.set j (some key)) fl (lay bs j key) nx := by
 obtain ⟨hs, hn⟩ := h.free 0 j rfl
 have hj : j < S.length := (List.getElem?_eq_some_iff.1 hs).1
 have hlen := h.len
 have hfit : 64 * j + key.length ≤ bs.length := by omega
 have hu := used_set_some S j key hs
 obtain ⟨hnf, hnd⟩ := List.nodup_cons.1 h.nodup
 refine ⟨?_, B1, ?_, B3, by rw [lay_length hfit, List.length_set]; exact hlen, by rw [List.length_set]; exact h.nlen, by rw [List.length_set]; exact h.few, fun i q hq => ?_, fun m i hi => ?_, hnd, fun i hi => ?_, h.ne⟩
 ·rw [List.length_set, show ((used (S.set j (some key)) : Nat) : Int) = (used S : Nat) + 1 by omega]; exact Bg
 ·rw [show szs (S.set j (some key)) = (szs S).set j (.int .i8 key.length) by unfold szs; rw [List.map_set]; rfl]; exact B2
 ·by_cases e : j = i
  ·subst e
   rw [List.getElem?_set_self hj] at hq
   simp at hq; subst hq
   exact ⟨hk, lay_self hfit⟩
  ·rw [List.getElem?_set_ne e] at hq
   obtain ⟨k1, k2⟩ := h.key i q hq
   exact ⟨k1, lay_other hfit hk (Ne.symm e) k1 k2⟩
 ·obtain ⟨f1, f2⟩ := h.free (m + 1) i (by simpa using hi)
  have hne : j ≠ i := fun e => by subst e; exact hnf (List.mem_of_getElem? hi)
  exact ⟨by rw [List.getElem?_set_ne hne]; exact f1, by simpa using f2⟩
 ·by_cases e : j = i
  ·subst e; rw [List.getElem?_set_self hj] at hi; simp at hi
  ·rw [List.getElem?_set_ne e] at hi
   rcases List.mem_cons.1 (h.all i hi) with q | q
   ·exact absurd q.symm e
   ·exact q
theorem mod_setRow {S : List Nat} {a w : World} (h : Mod S a w) {g : Nat} (hg : g ∈ S ∨ a.heap.size ≤ g) (cs : Array Value) : Mod S a (w.setRow g cs) :=
 h.trans' (S' := [g]) ⟨rfl, rfl, rfl, by simp, fun k _ hn => setRow_other w g k cs (by simpa using hn)⟩ (by simpa using hg)
theorem vb_lay (bs : List UInt8) (j : Nat) (key : List UInt8) : vb (lay bs j key) = (vb bs).take (64 * j) ++ vb key ++ (vb bs).drop (64 * j + key.length) := by
 unfold lay vb; simp [List.map_take, List.map_drop]
def PutPost (w w' : World) (g b1 b2 b3 : Nat) (S : List (Option (List UInt8))) (fl : List Nat) (bs : List UInt8) (nx : List Int) (j : Nat) (key : List UInt8) : Prop :=
 Sto w' g b1 b2 b3 (S.set j (some key)) fl (lay bs j key) nx ∧ Mod [g, b1, b2] w w'
set_option maxRecDepth 4000 in
set_option maxHeartbeats 1600000 in
theorem put_yes {j : Nat} (h : Sto w g b1 b2 b3 S (j :: fl) bs nx) (key : List UInt8) (hk : key.length ≤ 64) : Calls Try.prog 92 #[.pointer (some ⟨g, 0, none⟩), .string ⟨key.toArray⟩] w fun e w' => e = .returned (.int .i64 j) ∧ PutPost w w' g b1 b2 b3 S fl bs nx j key := by
 have hsz : (ByteArray.mk key.toArray).size = key.length := by simp [ByteArray.size]
 have d64 : decide ((64 : Int) < key.length) = false := by simp; omega
 obtain ⟨hs, hn⟩ := h.free 0 j rfl
 have hj : j < S.length := (List.getElem?_eq_some_iff.1 hs).1
 have hlen := h.len
 have hfew := h.few
 obtain ⟨n1, n2, n3, n4, n5, n6⟩ := h.ne
 have hus : used S ≤ 2000 := Nat.le_trans (List.countP_le_length) hfew
 obtain ⟨hf, hhf⟩ : ∃ hf, headOf fl = hf := ⟨_, rfl⟩
 have c0 := h.blk.cell (i := 0) rfl
 have c1 := h.blk.cell (i := 1) rfl
 have c2 := h.blk.cell (i := 2) rfl
 have c3 : w.cell? ⟨g, 3, none⟩ = some (.int .i32 (j : Int)) := h.blk.cell (i := 3) rfl
 have f3 := h.blk.free 3
 have nk := h.nexts.cell (i := j) (v := .int .i32 hf) (by
  have hn' : nx[j]? = some hf := by rw [hn, ← hhf]; rfl
  unfold nxs; rw [List.getElem?_map, hn']; rfl)
 -- behind the first store, and behind the copy
 have G1 := h.blk.set 3 (.int .i32 hf)
 have B1 := h.bytes.other (a := ⟨g, 3, none⟩) (Ne.symm n1) (.int .i32 hf)
 have B2 := h.sizes.other (a := ⟨g, 3, none⟩) (Ne.symm n2) (.int .i32 hf)
 have B3 := h.nexts.other (a := ⟨g, 3, none⟩) (Ne.symm n3) (.int .i32 hf)
 have M1 := (Mod.refl [g, b1, b2] w).setCell (p := ⟨g, 3, none⟩) (.inl (by simp)) (.int .i32 hf)
 have cp := Lib.run_copy_row_string (P := Try.prog) (w.setCell ⟨g, 3, none⟩ (.int .i32 hf)) 139 9 3 5 b1 (j * 64) (64 * S.length - j * 64) (64 * S.length - j * 64) ⟨key.toArray⟩ (vb bs).toArray 5 Try.underlying139 (by kernel_rfl) B1 (by rw [hsz]; omega) (by rw [hsz]; simp; omega)
 rw [hsz] at cp
 have hrow : ((vb bs).toArray.toList.take (j * 64) ++ Lib.byteCells (ByteArray.mk key.toArray).data.toList ++ (vb bs).toArray.toList.drop (j * 64 + key.length)) = vb (lay bs j key) := by
  rw [vb_lay, show j * 64 = 64 * j by omega]; rfl
 rw [hrow] at cp
 obtain ⟨W2, hW2⟩ : ∃ W2, (w.setCell ⟨g, 3, none⟩ (.int .i32 hf)).setRow b1 (vb (lay bs j key)).toArray = W2 := ⟨_, rfl⟩
 have X1 : Blk W2 b1 5 (vb (lay bs j key)) := by rw [← hW2]; exact setRow_heap _ b1 _ _ _ _ B1
 have MW : Mod [b1] (w.setCell ⟨g, 3, none⟩ (.int .i32 hf)) W2 := by rw [← hW2]; exact mod_setRow (Mod.refl _ _) (.inl (by simp)) _
 have XG := MW.blk G1 (by simpa using n1)
 have X2 := MW.blk B2 (by simpa using Ne.symm n4)
 have X3 := MW.blk B3 (by simpa using Ne.symm n5)
 have M2 := Lib.hid (M1.trans (MW.mono (by simp)))
 rw [hW2] at cp
 have e1 := XG.cell (i := 1) rfl
 have e4 : W2.cell? ⟨g, 4, none⟩ = some (.int .i64 (used S : Nat)) := XG.cell (i := 4) rfl
 have s2 := X2.free j
 have f4 := XG.free 4
 have sk := X2.cell (szs_get hs)
 have Y1 := Lib.hid X1
 have YG := Lib.hid XG
 have Y2 := Lib.hid X2
 have Y3 := Lib.hid X3
 have HS := Lib.hid h
 have HF := Lib.hid hhf
 clear h hs hn hhf hW2 MW X1 XG X2 X3 G1 B1 B2 B3 M1 hrow
 go_enter Try.func92, Try.ntmps92
 go_wp2_with fail
 go_ret
 have hfe := HF.out
 subst hfe
 refine ⟨rfl, HS.out.put hk ?_ ?_ ?_ ?_, ?_⟩
 ·exact (YG.out.other (a := ⟨b2, j, none⟩) n2 _).set 4 _
 ·exact (Y1.out.other (a := ⟨b2, j, none⟩) n4 _).other (a := ⟨g, 4, none⟩) (Ne.symm n1) _
 ·exact (Y2.out.set j _).other (a := ⟨g, 4, none⟩) (Ne.symm n2) _
 ·exact (Y3.out.other (a := ⟨b2, j, none⟩) (Ne.symm n6) _).other (a := ⟨g, 4, none⟩) (Ne.symm n3) _
 ·exact (M2.out.setCell (p := ⟨b2, j, none⟩) (.inl (by simp)) _).setCell (p := ⟨g, 4, none⟩) (.inl (by simp)) _
set_option maxRecDepth 4000 in
theorem put_full (h : Sto w g b1 b2 b3 S [] bs nx) (key : List UInt8) : Calls Try.prog 92 #[.pointer (some ⟨g, 0, none⟩), .string ⟨key.toArray⟩] w fun e w' => e = .returned (.int .i64 (-1)) ∧ w = w' := by
 have c3 : w.cell? ⟨g, 3, none⟩ = some (.int .i32 (-1)) := h.blk.cell (i := 3) rfl
 clear h
 go_enter Try.func92, Try.ntmps92
 go_wp2_with fail
 go_ret
 exact ⟨rfl, rfl⟩
set_option maxRecDepth 4000 in
theorem put_long {j : Nat} (h : Sto w g b1 b2 b3 S (j :: fl) bs nx) (key : List UInt8) (hk : 64 < key.length) : Calls Try.prog 92 #[.pointer (some ⟨g, 0, none⟩), .string ⟨key.toArray⟩] w fun e w' => e = .returned (.int .i64 (-1)) ∧ w = w' := by
 have hsz : (ByteArray.mk key.toArray).size = key.length := by simp [ByteArray.size]
 have d64 : decide ((64 : Int) < key.length) = true := by simp; omega
 have c3 : w.cell? ⟨g, 3, none⟩ = some (.int .i32 (j : Int)) := h.blk.cell (i := 3) rfl
 clear h
 go_enter Try.func92, Try.ntmps92
 go_wp2_with fail
 go_ret
 exact ⟨rfl, rfl⟩
end
end Go.Proofs.Ytndekdafiaogmaa.Keys
end
section
namespace Go.Proofs.Ytndekdafiaogmaa.Keys
open Go Go.RowKit Go.YtndekdafiaogmaaMem Go.YtndekdafiaogmaaLex
theorem i8_info : (Try.prog.info? 143).map (fun i => (i.zero, i.size, i.bytes)) = some (some (.int .i8 0), 1, 1) := by kernel_rfl
theorem i32_info : (Try.prog.info? 21).map (fun i => (i.zero, i.size, i.bytes)) = some (some (.int .i32 0), 1, 4) := by kernel_rfl
theorem u8_info' : (Try.prog.info? 5).map (fun i => (i.zero, i.size, i.bytes)) = some (some (.int .u8 0), 1, 1) := by kernel_rfl
structure Half (w : World) (g b1 b2 b3 n k : Nat) (bs : List UInt8) (zs nx : List Int) : Prop where
 blk : Blk w g 142 [.slice (some ⟨b1, 0, none⟩) (n * 64) (n * 64), .slice (some ⟨b2, 0, none⟩) n n, .slice (some ⟨b3, 0, none⟩) n n, .int .i32 (headOf ((List.range n).drop k)), .int .i64 0]
 bytes : Blk w b1 5 (vb bs)
 sizes : Blk w b2 143 (zs.map fun z => .int .i8 z)
 nexts : Blk w b3 21 (nxs nx)
 len : bs.length = 64 * n ∧ zs.length = n ∧ nx.length = n
 done : ∀ i, k ≤ i → i < n → zs[i]? = some (-1) ∧ nx[i]? = some (headOf ((List.range n).drop (i + 1)))
 ne : g ≠ b1 ∧ g ≠ b2 ∧ g ≠ b3 ∧ b1 ≠ b2 ∧ b1 ≠ b3 ∧ b2 ≠ b3
theorem Half.sto {w : World} {g b1 b2 b3 n : Nat} {bs : List UInt8} {zs nx : List Int} (h : Half w g b1 b2 b3 n 0 bs zs nx) (hn : n ≤ 2000) : Sto w g b1 b2 b3 (List.replicate n none) (List.range n) bs nx := by
 have hz : (zs.map fun z => Value.int .i8 z) = szs (List.replicate n none) := by
  unfold szs
  rw [List.map_replicate]
  apply List.ext_getElem?
  intro i
  by_cases hi : i < n
  ·rw [List.getElem?_map, (h.done i (by omega) hi).1, List.getElem?_replicate]; simp [hi, szOf]
  ·rw [List.getElem?_map, List.getElem?_eq_none (by rw [h.len.2.1]; omega), List.getElem?_eq_none (by simp; omega)]; rfl
 have hu : used (List.replicate n (none : Option (List UInt8))) = 0 := by unfold used; rw [List.countP_eq_zero]; intro x hx; rw [List.eq_of_mem_replicate hx]; simp
 refine ⟨?_, h.bytes, ?_, h.nexts, ?_, ?_, ?_, ?_, ?_, List.nodup_range, ?_, h.ne⟩
 ·rw [List.length_replicate, hu, show 64 * n = n * 64 by omega]
  have := h.blk; rw [List.drop_zero] at this; exact this
 ·rw [← hz]; exact h.sizes
 ·rw [List.length_replicate]; exact h.len.1
 ·rw [List.length_replicate]; exact h.len.2.2
 ·rw [List.length_replicate]; exact hn
 ·intro i k hk; rw [List.getElem?_replicate] at hk; split at hk <;> simp at hk
 ·intro j i hj
  have hjn : j < n := by have := (List.getElem?_eq_some_iff.1 hj).1; simpa using this
  rw [List.getElem?_range hjn] at hj
  simp at hj; subst hj
  exact ⟨by rw [List.getElem?_replicate]; simp [hjn], (h.done j (by omega) hjn).2⟩
 ·intro i hi
  rw [List.getElem?_replicate] at hi
  split at hi
  ·rename_i hlt; exact List.mem_range.2 hlt
  ·simp at hi
theorem range_drop {n k : Nat} (h : k < n) : (List.range n).drop k = k :: (List.range n).drop (k + 1) := by
 rw [List.drop_eq_getElem_cons (by simpa using h)]; simp
theorem Half.next {w w' : World} {g b1 b2 b3 n k : Nat} {bs : List UInt8} {zs nx : List Int} (h : Half w g b1 b2 b3 n (k + 1) bs zs nx) (hk : k < n)
  (Bg : Blk w' g 142 [.slice (some ⟨b1, 0, none⟩) (n * 64) (n * 64), .slice (some ⟨b2, 0, none⟩) n n, .slice (some ⟨b3, 0, none⟩) n n, .int .i32 (k : Int), .int .i64 0])
  (B1 : Blk w' b1 5 (vb bs)) (B2 : Blk w' b2 143 ((zs.map fun z => Value.int .i8 z).set k (.int .i8 (-1)))) (B3 : Blk w' b3 21 ((nxs nx).set k (.int .i32 (headOf ((List.range n).drop (k + 1)))))) :
  Half w' g b1 b2 b3 n k bs (zs.set k (-1)) (nx.set k (headOf ((List.range n).drop (k + 1)))) := by
 obtain ⟨l1, l2, l3⟩ := h.len
 refine ⟨?_, B1, ?_, ?_, ⟨l1, by rw [List.length_set]; exact l2, by rw [List.length_set]; exact l3⟩, fun i hi hin => ?_, h.ne⟩
 ·rw [range_drop hk]; exact Bg
 ·rw [List.map_set]; exact B2
 ·unfold nxs at *; rw [List.map_set]; exact B3
 ·by_cases e : k = i
  ·subst e; exact ⟨List.getElem?_set_self (by omega), List.getElem?_set_self (by omega)⟩
  ·rw [List.getElem?_set_ne e, List.getElem?_set_ne e]; exact h.done i (by omega) hin
theorem bk0 (w : World) (cs : List Value) (T : TypeId) (B C D : Obj) : Blk ((((w.alloc (.cells cs.toArray T)).alloc B).alloc C).alloc D).drew w.heap.size T cs := ((((Blk.new w cs T).alloc B).alloc C).alloc D).drew
theorem bk1 (w : World) (cs : List Value) (T : TypeId) (A C D : Obj) : Blk ((((w.alloc A).alloc (.cells cs.toArray T)).alloc C).alloc D).drew (w.heap.size + 1) T cs := by
 have h := (((Blk.new (w.alloc A) cs T).alloc C).alloc D).drew
 rw [show (w.alloc A).heap.size = w.heap.size + 1 by simp] at h
 exact h
theorem bk2 (w : World) (cs : List Value) (T : TypeId) (A B D : Obj) : Blk ((((w.alloc A).alloc B).alloc (.cells cs.toArray T)).alloc D).drew (w.heap.size + 1 + 1) T cs := by
 have h := ((Blk.new ((w.alloc A).alloc B) cs T).alloc D).drew
 rw [show ((w.alloc A).alloc B).heap.size = w.heap.size + 1 + 1 by simp] at h
 exact h
theorem bk3 (w : World) (cs : List Value) (T : TypeId) (A B C : Obj) : Blk ((((w.alloc A).alloc B).alloc C).alloc (.cells cs.toArray T)).drew (w.heap.size + 1 + 1 + 1) T cs := by
 have h := (Blk.new (((w.alloc A).alloc B).alloc C) cs T).drew
 rw [show (((w.alloc A).alloc B).alloc C).heap.size = w.heap.size + 1 + 1 + 1 by simp] at h
 exact h
theorem half_start {w : World} {g b1 b2 b3 n : Nat} {L1 L2 L3 : List Value} (h1 : vb (List.replicate (64 * n) 0) = L1) (h2 : (List.replicate n (0 : Int)).map (fun z => Value.int .i8 z) = L2) (h3 : nxs (List.replicate n 0) = L3)
  (Bg : Blk w g 142 [.slice (some ⟨b1, 0, none⟩) (n * 64) (n * 64), .slice (some ⟨b2, 0, none⟩) n n, .slice (some ⟨b3, 0, none⟩) n n, .int .i32 (-1), .int .i64 0])
  (B1 : Blk w b1 5 L1) (B2 : Blk w b2 143 L2) (B3 : Blk w b3 21 L3) (hne : g ≠ b1 ∧ g ≠ b2 ∧ g ≠ b3 ∧ b1 ≠ b2 ∧ b1 ≠ b3 ∧ b2 ≠ b3) :
  Half w g b1 b2 b3 n n (List.replicate (64 * n) 0) (List.replicate n 0) (List.replicate n 0) := by
 subst h1 h2 h3
 exact ⟨by rw [List.drop_eq_nil_of_le (by simp)]; exact Bg, B1, B2, B3, by simp, fun i h1 h2 => by omega, hne⟩
def NewPost (n : Nat) (w : World) (e : Ending) (w' : World) : Prop :=
 ∃ g b1 b2 b3 bs nx, e = .returned (.pointer (some ⟨g, 0, none⟩)) ∧ Sto w' g b1 b2 b3 (List.replicate n none) (List.range n) bs nx ∧ w.heap.size ≤ g ∧ w.heap.size ≤ b1 ∧ w.heap.size ≤ b2 ∧ w.heap.size ≤ b3 ∧ Mod [] w w'
set_option maxRecDepth 4000 in
set_option maxHeartbeats 3200000 in
theorem new_any (n : Nat) (hn : n ≤ 2000) (w : World) : Calls Try.prog 61 #[.int .i64 n] w (NewPost n w) := by
 have d1 : decide ((n : Int) < 0) = false := by simp
 have d2 : decide ((65536 : Int) < n) = false := by simp; omega
 have m1 := run_make_row' (P := Try.prog) 139 5 (.int .u8 0) 1 Try.underlying139 u8_info' rfl .i64 .i64 (n * 64) (by omega) (by omega)
 have m2 := run_make_row' (P := Try.prog) 140 143 (.int .i8 0) 1 Try.underlying140 i8_info rfl .i64 .i64 n (by omega) (by omega)
 have m3 := run_make_row' (P := Try.prog) 126 21 (.int .i32 0) 4 Try.underlying126 i32_info rfl .i64 .i64 n (by omega) (by omega)
 rw [show ((n * 64 : Nat) : Int) = (n : Int) * 64 by simp] at m1
 obtain ⟨L1, h1⟩ : ∃ L1, vb (List.replicate (64 * n) 0) = L1 := ⟨_, rfl⟩
 obtain ⟨L2, h2⟩ : ∃ L2, (List.replicate n (0 : Int)).map (fun z => Value.int .i8 z) = L2 := ⟨_, rfl⟩
 obtain ⟨L3, h3⟩ : ∃ L3, nxs (List.replicate n 0) = L3 := ⟨_, rfl⟩
 have q1 : madeCells #[.int .u8 0] (n * 64) = L1.toArray := by
  rw [← Array.toArray_toList (xs := madeCells _ _), toList_madeCells_one, ← h1]; unfold vb; rw [List.map_replicate, Nat.mul_comm]; rfl
 have q2 : madeCells #[.int .i8 0] n = L2.toArray := by
  rw [← Array.toArray_toList (xs := madeCells _ _), toList_madeCells_one, ← h2, List.map_replicate]
 have q3 : madeCells #[.int .i32 0] n = L3.toArray := by
  rw [← Array.toArray_toList (xs := madeCells _ _), toList_madeCells_one, ← h3]; unfold nxs; rw [List.map_replicate]
 rw [q1] at m1
 rw [q2] at m2
 rw [q3] at m3
 have H1 := Lib.hid h1
 have H2 := Lib.hid h2
 have H3 := Lib.hid h3
 clear h1 h2 h3 q1 q2 q3
 go_enter Try.func61, Try.ntmps61
 go_wp2_with fail
 go_region
 all_goals (go_wp2_with fail)
 all_goals (go_loopw [4] (fun i wr => ∃ (k b1 b2 b3 : Nat) (bs : List UInt8) (zs nx : List Int), k ≤ n ∧ (∃ z : Int, z = (k : Int) - 1 ∧ i = .int .i64 z) ∧ Half wr (w.heap.size + 1 + 1 + 1) b1 b2 b3 n k bs zs nx ∧ (w.heap.size ≤ b1 ∧ w.heap.size ≤ b2 ∧ w.heap.size ≤ b3) ∧ Mod [] w wr) (fun i _ => (intOf i + 1).toNat))
 all_goals first
  | exact ⟨n, w.heap.size, w.heap.size + 1, w.heap.size + 1 + 1, _, _, _, Nat.le_refl _, ⟨_, rfl, rfl⟩, half_start H1.out H2.out H3.out (bk3 _ _ _ _ _ _) (bk0 _ _ _ _ _ _) (bk1 _ _ _ _ _ _) (bk2 _ _ _ _ _ _) (by omega), (by omega), (((((Mod.refl [] w).alloc _).alloc _).alloc _).alloc _).drew⟩
  | exact ⟨n, w.heap.size, w.heap.size + 1 + 1, w.heap.size + 1, _, _, _, Nat.le_refl _, ⟨_, rfl, rfl⟩, half_start H1.out H2.out H3.out (bk3 _ _ _ _ _ _) (bk0 _ _ _ _ _ _) (bk2 _ _ _ _ _ _) (bk1 _ _ _ _ _ _) (by omega), (by omega), (((((Mod.refl [] w).alloc _).alloc _).alloc _).alloc _).drew⟩
  | exact ⟨n, w.heap.size + 1, w.heap.size, w.heap.size + 1 + 1, _, _, _, Nat.le_refl _, ⟨_, rfl, rfl⟩, half_start H1.out H2.out H3.out (bk3 _ _ _ _ _ _) (bk1 _ _ _ _ _ _) (bk0 _ _ _ _ _ _) (bk2 _ _ _ _ _ _) (by omega), (by omega), (((((Mod.refl [] w).alloc _).alloc _).alloc _).alloc _).drew⟩
  | exact ⟨n, w.heap.size + 1, w.heap.size + 1 + 1, w.heap.size, _, _, _, Nat.le_refl _, ⟨_, rfl, rfl⟩, half_start H1.out H2.out H3.out (bk3 _ _ _ _ _ _) (bk1 _ _ _ _ _ _) (bk2 _ _ _ _ _ _) (bk0 _ _ _ _ _ _) (by omega), (by omega), (((((Mod.refl [] w).alloc _).alloc _).alloc _).alloc _).drew⟩
  | exact ⟨n, w.heap.size + 1 + 1, w.heap.size, w.heap.size + 1, _, _, _, Nat.le_refl _, ⟨_, rfl, rfl⟩, half_start H1.out H2.out H3.out (bk3 _ _ _ _ _ _) (bk2 _ _ _ _ _ _) (bk0 _ _ _ _ _ _) (bk1 _ _ _ _ _ _) (by omega), (by omega), (((((Mod.refl [] w).alloc _).alloc _).alloc _).alloc _).drew⟩
  | exact ⟨n, w.heap.size + 1 + 1, w.heap.size + 1, w.heap.size, _, _, _, Nat.le_refl _, ⟨_, rfl, rfl⟩, half_start H1.out H2.out H3.out (bk3 _ _ _ _ _ _) (bk2 _ _ _ _ _ _) (bk1 _ _ _ _ _ _) (bk0 _ _ _ _ _ _) (by omega), (by omega), (((((Mod.refl [] w).alloc _).alloc _).alloc _).alloc _).drew⟩
  | (obtain ⟨k, b1, b2, b3, bs, zs, nx, hk, ⟨z, hz, rfl⟩, hH, hbb, hM⟩ := hrel
     cases k with
     | zero =>
       obtain rfl : z = -1 := by omega
       have HH := Lib.hid hH
       have MR := Lib.hid hM
       clear hH hM hz hk
       go_wp2_with fail
       go_ret
       exact ⟨_, b1, b2, b3, bs, nx, rfl, HH.out.sto hn, (by omega), hbb.1, hbb.2.1, hbb.2.2, MR.out⟩
     | succ k =>
       obtain rfl : z = k := by omega
       have hkn : k < n := by omega
       obtain ⟨n1, n2, n3, n4, n5, n6⟩ := hH.ne
       obtain ⟨l1, l2, l3⟩ := hH.len
       obtain ⟨hf, hhf⟩ : ∃ hf, headOf ((List.range n).drop (k + 1)) = hf := ⟨_, rfl⟩
       have c1 := hH.blk.cell (i := 1) rfl
       have c2 := hH.blk.cell (i := 2) rfl
       have c3 : wr.cell? ⟨w.heap.size + 1 + 1 + 1, 3, none⟩ = some (.int .i32 hf) := by rw [← hhf]; exact hH.blk.cell (i := 3) rfl
       have f3 := hH.blk.free 3
       have fz := hH.sizes.free k
       have fx := hH.nexts.free k
       have cz := hH.sizes.cell (i := k) (v := .int .i8 (zs[k]'(by omega))) (by simp [List.getElem?_eq_getElem (show k < zs.length by omega)])
       have cx := hH.nexts.cell (i := k) (v := .int .i32 (nx[k]'(by omega))) (by simp [nxs, List.getElem?_eq_getElem (show k < nx.length by omega)])
       generalize zs[k]'(by omega) = z0 at cz
       generalize nx[k]'(by omega) = x0 at cx
       have HF := Lib.hid hhf
       have HH := Lib.hid hH
       have MR := Lib.hid hM
       clear hH hM hhf hz
       go_wp2_with fail
       refine wp_region_lex (by kernel_rfl) (by kernel_rfl) ?_
       go_wp2_with fail
       refine ⟨by kernel_rfl, ?_⟩
       go_wp2_with fail
       have hfe := HF.out
       subst hfe
       refine ⟨⟨k, b1, b2, b3, bs, zs.set k (-1), _, by omega, ⟨_, rfl, by go_num⟩, HH.out.next hkn ?_ ?_ ?_ ?_, hbb, ?_⟩, by first | (simp [intOf]; done) | (simp [intOf]; omega)⟩
       ·first | exact (((HH.out.blk.other (a := ⟨b2, k, none⟩) n2 _).other (a := ⟨b3, k, none⟩) n3 _).set 3 _).drew | exact ((HH.out.blk.drew.other (a := ⟨b2, k, none⟩) n2 _).other (a := ⟨b3, k, none⟩) n3 _).set 3 _
       ·exact (((HH.out.bytes.other (a := ⟨b2, k, none⟩) n4 _).other (a := ⟨b3, k, none⟩) n5 _).other (a := ⟨w.heap.size + 1 + 1 + 1, 3, none⟩) (Ne.symm n1) _).drew
       ·exact (((HH.out.sizes.set k _).other (a := ⟨b3, k, none⟩) n6 _).other (a := ⟨w.heap.size + 1 + 1 + 1, 3, none⟩) (Ne.symm n2) _).drew
       ·exact (((HH.out.nexts.other (a := ⟨b2, k, none⟩) (Ne.symm n6) _).set k _).other (a := ⟨w.heap.size + 1 + 1 + 1, 3, none⟩) (Ne.symm n3) _).drew
       ·exact (((MR.out.setCell (p := ⟨b2, k, none⟩) (.inr hbb.2.1) _).setCell (p := ⟨b3, k, none⟩) (.inr hbb.2.2) _).setCell (p := ⟨w.heap.size + 1 + 1 + 1, 3, none⟩) (.inr (by show w.heap.size ≤ w.heap.size + 1 + 1 + 1; omega)) _).drew)
end Go.Proofs.Ytndekdafiaogmaa.Keys
end
