/- index.Index: what is free and what is used; the store's own Is and Used. -/
import Derived.Test.YtajadfoannmaiaaIndex5
namespace Go.Proofs.Ytajadfoannmaiaa.Index
open Go Go.RowKit Go.YtajadfoannmaiaaMem Go.YtajadfoannmaiaaLex Go.Proofs.Ytajadfoannmaiaa.Hash Go.Proofs.Ytajadfoannmaiaa.Keys Go.Proofs.Ytajadfoannmaiaa.Probe
set_option linter.unusedVariables false
set_option linter.unusedSimpArgs false

/-- All is below n, and each place is free or used. -/
def Whole (n : Nat) (S : List (Option (List UInt8))) (fl : List Nat) : Prop := S.length = n ∧ fl.length + used S = n
theorem IdxAt.free0 {w : World} {x g : Nat} {L : List Nat} {r : Row} {S : List (Option (List UInt8))} {j : Nat} {fl : List Nat} (h : IdxAt w x g L r S (j :: fl)) : S[j]? = some none := by
  obtain ⟨b1, b2, b3, t, bs, nx, T, rfl, h⟩ := h
  exact (h.sto.free 0 j rfl).1
theorem IdxAt.short {w : World} {x g : Nat} {L : List Nat} {r : Row} {S : List (Option (List UInt8))} {fl : List Nat} (h : IdxAt w x g L r S fl) {p : Nat} {k : List UInt8} (hp : S[p]? = some (some k)) : k.length ≤ 64 := by
  obtain ⟨b1, b2, b3, t, bs, nx, T, rfl, h⟩ := h
  exact (h.sto.key p k hp).1
theorem IdxAt.few {w : World} {x g : Nat} {L : List Nat} {r : Row} {S : List (Option (List UInt8))} {fl : List Nat} (h : IdxAt w x g L r S fl) : S.length ≤ 2000 := by
  obtain ⟨b1, b2, b3, t, bs, nx, T, rfl, h⟩ := h
  exact h.sto.few
theorem whole_emp (n : Nat) : Whole n (emp n) (List.range n) := by
  refine ⟨by simp [emp], ?_⟩
  have : used (emp n) = 0 := by unfold used emp; rw [List.countP_eq_zero]; intro x hx; rw [List.eq_of_mem_replicate hx]; simp
  rw [this, List.length_range, Nat.add_zero]
theorem whole_set {n : Nat} {S : List (Option (List UInt8))} {j : Nat} {fl : List Nat} {key : List UInt8} (h : Whole n S (j :: fl)) (hj : S[j]? = some none) : Whole n (S.set j (some key)) fl ∧ used (S.set j (some key)) = used S + 1 := by
  have h1 := used_set_some S j key hj
  obtain ⟨h2, h3⟩ := h
  simp only [List.length_cons] at h3
  exact ⟨⟨by rw [List.length_set]; exact h2, by omega⟩, h1⟩
theorem whole_del {n : Nat} {S : List (Option (List UInt8))} {p : Nat} {fl : List Nat} {key : List UInt8} (h : Whole n S fl) (hp : S[p]? = some (some key)) : Whole n (S.set p none) (p :: fl) ∧ used (S.set p none) = used S - 1 ∧ 1 ≤ used S := by
  have h1 := used_set_none S p key hp
  obtain ⟨h2, h3⟩ := h
  exact ⟨⟨by rw [List.length_set]; exact h2, by simp only [List.length_cons]; omega⟩, by omega, by omega⟩

section
variable {w : World} {x g : Nat} {L : List Nat} {r : Row} {S : List (Option (List UInt8))} {fl : List Nat}
theorem is_at (h : IdxAt w x g L r S fl) (i : Int) (key : List UInt8) : Calls Try.prog 42 #[.pointer (some ⟨g, 0, none⟩), .int .i64 i, .string ⟨key.toArray⟩] w fun e w' => e = .returned (.bool (decide (Keys.keyOf S i = some key))) ∧ Mod [] w w' := by
  obtain ⟨b1, b2, b3, t, bs, nx, T, rfl, h⟩ := h
  exact is_any h.sto i key
theorem used_at (h : IdxAt w x g L r S fl) : Calls Try.prog 31 #[.pointer (some ⟨g, 0, none⟩)] w fun e w' => e = .returned (.int .i64 (used S : Nat)) ∧ w = w' := by
  obtain ⟨b1, b2, b3, t, bs, nx, T, rfl, h⟩ := h
  exact used_any h.sto
end
theorem putS_there {S : List (Option (List UInt8))} {fl : List Nat} {key : List UInt8} {p : Nat} (h : placeOf S key = some p) : putS S fl key = (-1, S, fl) := by unfold putS; rw [h]
theorem putS_no {S : List (Option (List UInt8))} {fl : List Nat} {key : List UInt8} (h : placeOf S key = none) (h2 : fl.length = 0 ∨ 64 < key.length) : putS S fl key = (-1, S, fl) := by
  unfold putS; rw [h]
  cases fl with
  | nil => rfl
  | cons f0 fl' =>
    simp only [List.length_cons] at h2
    simp only
    rw [if_neg (by omega)]
theorem putS_yes {S : List (Option (List UInt8))} {f0 : Nat} {fl' : List Nat} {key : List UInt8} (h : placeOf S key = none) (h2 : key.length ≤ 64) : putS S (f0 :: fl') key = ((f0 : Int), S.set f0 (some key), fl') := by
  unfold putS; rw [h]; simp only; rw [if_pos h2]
end Go.Proofs.Ytajadfoannmaiaa.Index
