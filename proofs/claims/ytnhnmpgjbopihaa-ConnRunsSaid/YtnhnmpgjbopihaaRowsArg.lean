/- A slice of structs as an argument: the cells of each element, and the reading of each of its fields. Over any program. -/
import Derived.Test.YtnhnmpgjbopihaaArg
import Derived.Deep.Slices
namespace Go.YtnhnmpgjbopihaaMem
set_option linter.unusedVariables false
set_option linter.unusedSimpArgs false
open Go Go.ChangeShapes Go.WideShapes Go.ChangeAt Go.RowKit

variable {H : Type} {enc : TypeId × Value → H} {P : Program} {w : World} {base : Nat} {sp : Nat → Bool} {held : Bool}

theorem sl_rows {r : Reach} {b0 : Nat} {t e : TypeId} {fs : Array Field} {v : Value} {d : DataW H} {ps : List MemPlace} (ht : P.underlying t = some (.slice e)) (he : P.underlying e = some (.struct fs)) (hc : 0 < P.cellsOf e)
    (hval : Value.okWide P w r b0 t v) (h : DataW.Trod enc P w base sp held t v d ps) :
    ∃ a n c, v = .slice a n c ∧ n ≤ maxLen ∧ ∀ i, i < n → ∃ (b off : Nat) (cs : List Value) (m : Nat), a = some ⟨b, off, none⟩ ∧ b < w.heap.size ∧ cs.length = P.cellsOf e ∧
      (∀ j u, cs[j]? = some u → w.cell? ⟨b, off + (i * P.cellsOf e + j), none⟩ = some u) ∧
      ∀ (j : Nat) (f : Field), fs[j]? = some f → ∃ y, DataW.trod enc P w base sp held m f.type ((cs.drop f.offset).take (P.cellsOf f.type)) = some y := by
  obtain ⟨a, len, cap, rfl⟩ := okWide_slice ht hval
  obtain ⟨fuel, hf⟩ := h
  rcases Deep.open_slice ht hf with ⟨hcs, _⟩ | ⟨x, l, c, m, n, D, Pl, hcs, hb, hl, hm, hz, _, hx⟩
  · simp [Value.cells] at hcs
    obtain ⟨rfl, rfl, rfl⟩ := hcs
    exact ⟨_, _, _, rfl, by unfold maxLen; omega, fun i hi => by omega⟩
  · simp [Value.cells] at hcs
    obtain ⟨rfl, rfl, rfl⟩ := hcs
    refine ⟨_, _, _, rfl, by omega, fun i hi => ?_⟩
    have hlm : len ≤ m := by rw [hz]; split <;> omega
    obtain ⟨b, off, spot⟩ := x
    have hsp : spot = none := by
      obtain ⟨cs0, g0, _⟩ := hx 0 (by omega)
      obtain ⟨_, hlen, hcell⟩ := World.cells?_some g0
      have h0 := hcell 0 hc
      rw [List.getElem?_eq_getElem (by omega)] at h0
      have := World.cell?_spot h0
      simpa [Addr.add] using this
    subst hsp
    obtain ⟨cs, g, gt⟩ := hx i (by omega)
    obtain ⟨_, hlen, hcell⟩ := World.cells?_some g
    obtain ⟨xs, k, _, _, _, hxl, hg⟩ := DataW.trod_struct he gt
    have hcl : ∀ j u, cs[j]? = some u → w.cell? ⟨b, off + (i * P.cellsOf e + j), none⟩ = some u := fun j u hu => by
      have hj : j < P.cellsOf e := by have := (List.getElem?_eq_some_iff.1 hu).1; omega
      have h1 := hcell j hj
      rw [add_eq, add_eq, hu] at h1
      rw [← Nat.add_assoc]; exact h1
    refine ⟨b, off, cs, k, rfl, ?_, hlen, hcl, fun j f hj => ?_⟩
    · have h0 := hcl 0 (cs[0]'(by omega)) (List.getElem?_eq_getElem (by omega))
      exact cell_lt h0
    · have hjl : j < fs.size := (Array.getElem?_eq_some_iff.1 hj).1
      have := hg j f hj
      rw [List.getElem?_eq_getElem (show j < xs.length by omega)] at this
      exact ⟨_, this⟩
end Go.YtnhnmpgjbopihaaMem
