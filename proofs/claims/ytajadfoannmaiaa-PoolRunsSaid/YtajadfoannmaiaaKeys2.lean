/- keys.Store: Is, Key. -/
import Derived.Test.YtajadfoannmaiaaKeys
namespace Go.Proofs.Ytajadfoannmaiaa.Keys
open Go Go.RowKit Go.YtajadfoannmaiaaMem Go.YtajadfoannmaiaaLex
set_option linter.unusedVariables false
set_option linter.unusedSimpArgs false

/-- A place's key. -/
def keyOf (S : List (Option (List UInt8))) (i : Int) : Option (List UInt8) := if 0 ≤ i then (S[i.toNat]?).join else none
theorem hasK_key (S : List (Option (List UInt8))) (i : Int) : hasK S i = (keyOf S i).isSome := by
  unfold hasK keyOf
  by_cases h : 0 ≤ i
  · rw [if_pos h, show decide (0 ≤ i) = true by simpa using h, Bool.true_and]
    cases S[i.toNat]? with
    | none => rfl
    | some k => cases k <;> rfl
  · rw [if_neg h, show decide (0 ≤ i) = false by simpa using h]; rfl
section
variable {w : World} {g b1 b2 b3 : Nat} {S : List (Option (List UInt8))} {fl : List Nat} {bs : List UInt8} {nx : List Int}
theorem Sto.keySl (h : Sto w g b1 b2 b3 S fl bs nx) {j : Nat} {k : List UInt8} (hk : S[j]? = some (some k)) (c : Nat) (hc : k.length ≤ c) (hm : c ≤ maxLen) : Sl w (.slice (some ⟨b1, 64 * j, none⟩) k.length c) (vb k) := by
  obtain ⟨h1, h2⟩ := h.key j k hk
  have hj : j < S.length := (List.getElem?_eq_some_iff.1 hk).1
  have := Sl.part (b := b1) (off := 0) (c := c) (i := 64 * j) (m := k.length) (bs := bs) h.bytes.lt (fun i u hu => by rw [Nat.zero_add]; exact h.bytes.cell hu) (by have := h.len; omega) hc hm
  rw [Nat.zero_add, h2] at this
  exact this
set_option maxRecDepth 4000 in
theorem is_any (h : Sto w g b1 b2 b3 S fl bs nx) (i : Int) (key : List UInt8) : Calls Try.prog 42 #[.pointer (some ⟨g, 0, none⟩), .int .i64 i, .string ⟨key.toArray⟩] w fun e w' => e = .returned (.bool (decide (keyOf S i = some key))) ∧ Mod [] w w' := by
  have H := Lib.hid (fun W (hM : Mod [] w W) => has_any (h.mod hM (by simp)) i)
  rw [hasK_key] at H
  have c0 := h.blk.cell (i := 0) rfl
  have c1 := h.blk.cell (i := 1) rfl
  cases hk : keyOf S i with
  | none =>
    rw [hk] at H
    clear h
    go_enter Try.func42, Try.ntmps42
    go_wp2_with fail
    refine wp_region_lex (by kernel_rfl) (by kernel_rfl) ?_
    go_wp2_with fail
    refine (H.out _ (Mod.drew (Mod.refl [] w))).mono ?_
    rintro e w' ⟨rfl, rfl⟩
    go_wp2_with fail
    refine ⟨by kernel_rfl, ?_⟩
    go_wp2_with fail
    go_ret
    exact ⟨by simp, (Mod.refl [] w).drew⟩
  | some k =>
    rw [hk] at H
    unfold keyOf at hk
    by_cases h0 : 0 ≤ i
    · rw [if_pos h0] at hk
      obtain ⟨j, rfl⟩ : ∃ j : Nat, i = j := ⟨i.toNat, by omega⟩
      rw [Int.toNat_natCast] at hk
      have hk : S[j]? = some (some k) := by
        cases e : S[j]? with
        | none => rw [e] at hk; simp at hk
        | some x => rw [e] at hk; simp at hk; rw [hk]
      have hj : j < S.length := (List.getElem?_eq_some_iff.1 hk).1
      have ck := h.sizes.cell (szs_get hk)
      have hkl := (h.key j k hk).1
      have hfew := h.few
      have SL := Lib.hid (h.keySl hk (64 * S.length - 64 * j) (by omega) (by unfold maxLen; omega))
      have cv := run_str (P := Try.prog) (SL.out.mod (Mod.drew (Mod.refl [] w)) (by simp)) Try.underlying30 Try.underlying5 Try.underlying9
      rw [show Value.slice (some ⟨b1, 64 * j, none⟩) k.length (64 * S.length - 64 * j) = Value.slice (some ⟨b1, j * 64, none⟩) k.length (64 * S.length - j * 64) by rw [show 64 * j = j * 64 by omega]] at cv
      simp only [szOf] at ck
      clear h hk
      go_enter Try.func42, Try.ntmps42
      go_wp2_with fail
      refine wp_region_lex (by kernel_rfl) (by kernel_rfl) ?_
      go_wp2_with fail
      refine (H.out _ (Mod.drew (Mod.refl [] w))).mono ?_
      rintro e w' ⟨rfl, rfl⟩
      go_wp2_with fail
      refine ⟨by kernel_rfl, ?_⟩
      go_wp2_with fail
      go_ret
      refine ⟨?_, (Mod.refl [] w).drew⟩
      show Ending.returned (.bool (k == key)) = _
      congr 2
      rw [Bool.eq_iff_iff]; simp
    · rw [if_neg h0] at hk; cases hk
def KeyPost (k : Option (List UInt8)) (w : World) (e : Ending) (w' : World) : Prop :=
  e = .returned (.tuple (match k with | none => #[.string ⟨#[]⟩, .bool false] | some k => #[.string ⟨k.toArray⟩, .bool true])) ∧ Mod [] w w'
set_option maxRecDepth 4000 in
theorem key_any (h : Sto w g b1 b2 b3 S fl bs nx) (i : Int) : Calls Try.prog 23 #[.pointer (some ⟨g, 0, none⟩), .int .i64 i] w (KeyPost (keyOf S i) w) := by
  have H := Lib.hid (fun W (hM : Mod [] w W) => has_any (h.mod hM (by simp)) i)
  rw [hasK_key] at H
  have c0 := h.blk.cell (i := 0) rfl
  have c1 := h.blk.cell (i := 1) rfl
  cases hk : keyOf S i with
  | none =>
    rw [hk] at H
    clear h
    go_enter Try.func23, Try.ntmps23
    go_wp2_with fail
    refine (H.out _ (Mod.refl [] w)).mono ?_
    rintro e w' ⟨rfl, rfl⟩
    go_wp2_with fail
    go_ret2
    exact ⟨rfl, Mod.refl [] w⟩
  | some k =>
    rw [hk] at H
    unfold keyOf at hk
    by_cases h0 : 0 ≤ i
    · rw [if_pos h0] at hk
      obtain ⟨j, rfl⟩ : ∃ j : Nat, i = j := ⟨i.toNat, by omega⟩
      rw [Int.toNat_natCast] at hk
      have hk : S[j]? = some (some k) := by
        cases e : S[j]? with
        | none => rw [e] at hk; simp at hk
        | some x => rw [e] at hk; simp at hk; rw [hk]
      have hj : j < S.length := (List.getElem?_eq_some_iff.1 hk).1
      have ck := h.sizes.cell (szs_get hk)
      have hkl := (h.key j k hk).1
      have hfew := h.few
      have SL := Lib.hid (h.keySl hk (64 * S.length - 64 * j) (by omega) (by unfold maxLen; omega))
      have cv := run_str (P := Try.prog) (SL.out.mod (Mod.drew (Mod.refl [] w)) (by simp)) Try.underlying30 Try.underlying5 Try.underlying9
      rw [show Value.slice (some ⟨b1, 64 * j, none⟩) k.length (64 * S.length - 64 * j) = Value.slice (some ⟨b1, j * 64, none⟩) k.length (64 * S.length - j * 64) by rw [show 64 * j = j * 64 by omega]] at cv
      simp only [szOf] at ck
      clear h hk
      go_enter Try.func23, Try.ntmps23
      go_wp2_with fail
      refine (H.out _ (Mod.refl [] w)).mono ?_
      rintro e w' ⟨rfl, rfl⟩
      go_wp2_with fail
      refine wp_region_lex (by kernel_rfl) (by kernel_rfl) ?_
      go_wp2_with fail
      refine ⟨by kernel_rfl, ?_⟩
      go_wp2_with fail
      go_ret2
      exact ⟨rfl, (Mod.refl [] w).drew⟩
    · rw [if_neg h0] at hk; cases hk
end
end Go.Proofs.Ytajadfoannmaiaa.Keys
