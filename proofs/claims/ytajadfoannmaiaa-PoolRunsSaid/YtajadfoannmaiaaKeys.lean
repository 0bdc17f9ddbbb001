/- keys.Store: what it holds; Len, Used, has. -/
import Derived.Test.YtajadfoannmaiaaHash6
namespace Go.Proofs.Ytajadfoannmaiaa.Keys
open Go Go.RowKit Go.YtajadfoannmaiaaMem Go.YtajadfoannmaiaaLex
set_option linter.unusedVariables false
set_option linter.unusedSimpArgs false

def headOf (fl : List Nat) : Int := match fl with | [] => -1 | i :: _ => i
/-- A place's size. -/
def szOf (k : Option (List UInt8)) : Int := match k with | none => -1 | some k => k.length
def szs (S : List (Option (List UInt8))) : List Value := S.map fun k => .int .i8 (szOf k)
def nxs (nx : List Int) : List Value := nx.map fun x => .int .i32 x
def used (S : List (Option (List UInt8))) : Nat := S.countP Option.isSome
/-- A store at block g, with its bytes, sizes, nexts at b1, b2, b3: its places' keys S, the free places fl in their order. -/
structure Sto (w : World) (g b1 b2 b3 : Nat) (S : List (Option (List UInt8))) (fl : List Nat) (bs : List UInt8) (nx : List Int) : Prop where
  blk : Blk w g 82 [.slice (some ⟨b1, 0, none⟩) (64 * S.length) (64 * S.length), .slice (some ⟨b2, 0, none⟩) S.length S.length, .slice (some ⟨b3, 0, none⟩) S.length S.length, .int .i32 (headOf fl), .int .i64 (used S : Nat)]
  bytes : Blk w b1 5 (vb bs)
  sizes : Blk w b2 83 (szs S)
  nexts : Blk w b3 21 (nxs nx)
  len : bs.length = 64 * S.length
  nlen : nx.length = S.length
  few : S.length ≤ 2000
  key : ∀ (i : Nat) (k : List UInt8), S[i]? = some (some k) → k.length ≤ 64 ∧ (bs.drop (64 * i)).take k.length = k
  free : ∀ (j i : Nat), fl[j]? = some i → S[i]? = some none ∧ nx[i]? = some (headOf (fl.drop (j + 1)))
  nodup : fl.Nodup
  all : ∀ (i : Nat), S[i]? = some none → i ∈ fl
  ne : g ≠ b1 ∧ g ≠ b2 ∧ g ≠ b3 ∧ b1 ≠ b2 ∧ b1 ≠ b3 ∧ b2 ≠ b3
theorem Sto.mod {S0 : List Nat} {w w' : World} {g b1 b2 b3 : Nat} {S : List (Option (List UInt8))} {fl : List Nat} {bs : List UInt8} {nx : List Int} (h : Sto w g b1 b2 b3 S fl bs nx) (hm : Mod S0 w w') (h0 : g ∉ S0 ∧ b1 ∉ S0 ∧ b2 ∉ S0 ∧ b3 ∉ S0) : Sto w' g b1 b2 b3 S fl bs nx :=
  ⟨hm.blk h.blk h0.1, hm.blk h.bytes h0.2.1, hm.blk h.sizes h0.2.2.1, hm.blk h.nexts h0.2.2.2, h.len, h.nlen, h.few, h.key, h.free, h.nodup, h.all, h.ne⟩
theorem szs_get {S : List (Option (List UInt8))} {i : Nat} {k : Option (List UInt8)} (h : S[i]? = some k) : (szs S)[i]? = some (.int .i8 (szOf k)) := by simp [szs, h]
/-- Has a place a key? -/
def hasK (S : List (Option (List UInt8))) (i : Int) : Bool := decide (0 ≤ i) && match S[i.toNat]? with | some (some _) => true | _ => false

section
variable {w : World} {g b1 b2 b3 : Nat} {S : List (Option (List UInt8))} {fl : List Nat} {bs : List UInt8} {nx : List Int}
theorem len_any (h : Sto w g b1 b2 b3 S fl bs nx) : Calls Try.prog 35 #[.pointer (some ⟨g, 0, none⟩)] w fun e w' => e = .returned (.int .i64 S.length) ∧ w = w' := by
  have c1 := h.blk.cell (i := 1) rfl
  clear h
  go_enter Try.func35, Try.ntmps35
  go_wp2_with fail
  go_ret
  exact ⟨rfl, rfl⟩
theorem used_any (h : Sto w g b1 b2 b3 S fl bs nx) : Calls Try.prog 31 #[.pointer (some ⟨g, 0, none⟩)] w fun e w' => e = .returned (.int .i64 (used S : Nat)) ∧ w = w' := by
  have c4 := h.blk.cell (i := 4) rfl
  clear h
  generalize used S = u at *
  go_enter Try.func31, Try.ntmps31
  go_wp2_with fail
  go_ret
  exact ⟨rfl, rfl⟩
set_option maxRecDepth 4000 in
theorem has_any (h : Sto w g b1 b2 b3 S fl bs nx) (i : Int) : Calls Try.prog 38 #[.pointer (some ⟨g, 0, none⟩), .int .i64 i] w fun e w' => e = .returned (.bool (hasK S i)) ∧ w = w' := by
  have L := Lib.hid (len_any h)
  have c1 := h.blk.cell (i := 1) rfl
  by_cases h0 : 0 ≤ i
  · have d0 : decide ((0 : Int) ≤ i) = true := by simp; omega
    by_cases h1 : i < S.length
    · have d1 : decide (i < (S.length : Int)) = true := by simp; omega
      obtain ⟨j, rfl⟩ : ∃ j : Nat, i = j := ⟨i.toNat, by omega⟩
      obtain ⟨k, hk⟩ : ∃ k, S[j]? = some k := ⟨_, List.getElem?_eq_getElem (show j < S.length by omega)⟩
      have ck := h.sizes.cell (szs_get hk)
      have hjl : j < S.length := by omega
      have hr : hasK S j = decide (0 ≤ szOf k) := by
        unfold hasK
        rw [d0, Int.toNat_natCast, hk]
        cases k with
        | none => rfl
        | some k => show true = _; simp [szOf]
      rw [hr]
      generalize szOf k = z at *
      clear h hk hr
      go_enter Try.func38, Try.ntmps38
      go_wp2_with fail
      refine L.out.mono ?_
      rintro e w' ⟨rfl, rfl⟩
      go_wp2_with fail
      go_ret
      exact ⟨rfl, rfl⟩
    · have d1 : decide (i < (S.length : Int)) = false := by simp; omega
      have hr : hasK S i = false := by
        unfold hasK
        rw [List.getElem?_eq_none (by omega), Bool.and_false]
      rw [hr]
      clear h hr
      go_enter Try.func38, Try.ntmps38
      go_wp2_with fail
      refine L.out.mono ?_
      rintro e w' ⟨rfl, rfl⟩
      go_wp2_with fail
      go_ret
      exact ⟨rfl, rfl⟩
  · have d0 : decide ((0 : Int) ≤ i) = false := by simp; omega
    have hr : hasK S i = false := by unfold hasK; rw [d0]; rfl
    rw [hr]
    clear h hr
    go_enter Try.func38, Try.ntmps38
    go_wp2_with fail
    go_ret
    exact ⟨rfl, rfl⟩
end
end Go.Proofs.Ytajadfoannmaiaa.Keys
