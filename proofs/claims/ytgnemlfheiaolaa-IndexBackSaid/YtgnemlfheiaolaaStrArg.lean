/- A slice of texts as an argument. Over any program. -/
import Derived.Test.YtgnemlfheiaolaaRowsArg
namespace Go.YtgnemlfheiaolaaMem
set_option linter.unusedVariables false
set_option linter.unusedSimpArgs false
open Go Go.ChangeShapes Go.WideShapes Go.ChangeAt Go.RowKit

variable {H : Type} {enc : TypeId × Value → H} {P : Program} {w : World} {base : Nat} {sp : Nat → Bool} {held : Bool}

/-- Texts that came in, in a row. -/
def InT (w : World) (a : Option Addr) (l : List (List UInt8)) : Prop :=
  ∀ i q, l[i]? = some q → ∃ b off, a = some ⟨b, off, none⟩ ∧ b < w.heap.size ∧ w.cell? ⟨b, off + i, none⟩ = some (.string ⟨q.toArray⟩)
theorem open_texts {r : Reach} {b0 : Nat} {t e : TypeId} {v : Value} {d : DataW H} {ps : List MemPlace} (ht : P.underlying t = some (.slice e)) (he : P.underlying e = some .string) (hc : P.cellsOf e = 1)
    (hval : Value.okWide P w r b0 t v) (h : DataW.Trod enc P w base sp held t v d ps) :
    ∃ (a : Option Addr) (c : Nat) (l : List (List UInt8)), v = .slice a l.length c ∧ l.length ≤ maxLen ∧ InT w a l := by
  obtain ⟨a, len, cap, rfl⟩ := okWide_slice ht hval
  obtain ⟨fuel, hf⟩ := h
  rcases Deep.open_slice ht hf with ⟨hcs, _⟩ | ⟨x, l, c, m, n, D, Pl, hcs, hb, hl, hm, hz, _, hx⟩
  · simp [Value.cells] at hcs
    obtain ⟨rfl, rfl, rfl⟩ := hcs
    exact ⟨_, _, [], rfl, by unfold maxLen; simp, fun i q hi => by simp at hi⟩
  · simp [Value.cells] at hcs
    obtain ⟨rfl, rfl, rfl⟩ := hcs
    have hlm : len ≤ m := by rw [hz]; split <;> omega
    have each : ∀ i, i < len → ∃ q : List UInt8, ∃ b off, some x = some ⟨b, off, none⟩ ∧ b < w.heap.size ∧ w.cell? ⟨b, off + i, none⟩ = some (.string ⟨q.toArray⟩) := by
      intro i hi
      obtain ⟨b, off, spot⟩ := x
      obtain ⟨cs, g, gt⟩ := hx i (by omega)
      obtain ⟨_, hlen, hcell⟩ := World.cells?_some g
      rw [hc] at hlen hcell g
      match cs, hlen with
      | [v0], _ =>
        have h0 := hcell 0 (by omega)
        rw [Nat.mul_one] at h0
        simp only [List.getElem?_cons_zero] at h0
        have hsp : spot = none := by
          obtain ⟨cs0, g0, _⟩ := hx 0 (by omega)
          obtain ⟨_, hlen0, hcell0⟩ := World.cells?_some g0
          rw [hc] at hlen0 hcell0
          have h1 := hcell0 0 (by omega)
          rw [List.getElem?_eq_getElem (by omega)] at h1
          have := World.cell?_spot h1
          simpa [Addr.add] using this
        subst hsp
        obtain ⟨s, rfl⟩ := string_at he gt
        rw [add_eq, add_eq, Nat.add_zero] at h0
        exact ⟨s, b, off, rfl, cell_lt h0, h0⟩
    have : Inhabited (List UInt8) := ⟨[]⟩
    obtain ⟨q, hq⟩ := Deep.choose_lt each
    refine ⟨some x, cap, (List.range len).map q, by simp, by simp; omega, fun i y hi => ?_⟩
    rw [List.getElem?_map] at hi
    by_cases hin : i < len
    · rw [List.getElem?_range hin] at hi
      simp at hi; subst hi
      exact hq i hin
    · rw [List.getElem?_eq_none (by simpa using hin)] at hi; cases hi
end Go.YtgnemlfheiaolaaMem
