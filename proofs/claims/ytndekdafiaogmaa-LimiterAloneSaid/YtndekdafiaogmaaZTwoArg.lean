/- Arrays of two slices of whole numbers as arguments. Over any program. -/
import Derived.Test.YtndekdafiaogmaaZArg
section
namespace Go.YtndekdafiaogmaaMem
set_option linter.unusedVariables false
set_option linter.unusedSimpArgs false
open Go Go.ChangeShapes Go.WideShapes Go.ChangeAt Go.RowKit

theorem open_two {H : Type} {enc : TypeId × Value → H} {P : Program} {w : World} {base : Nat} {sp : Nat → Bool} {held : Bool} {r : Reach} {b0 : Nat} {t s e : TypeId} {k : IntKind} {v : Value} {d : DataW H} {ps : List MemPlace} (ht : P.underlying t = some (.array 2 s)) (hs : P.underlying s = some (.slice e)) (he : P.underlying e = some (.int k)) (hc : P.cellsOf e = 1) (hcs : P.cellsOf s = 1) (hct : P.cellsOf t = 2)
    (hv : Value.okWide P w r b0 t v) (h : DataW.Trod enc P w base sp held t v d ps) :
    ∃ (v0 v1 : Value) (z0 z1 : List Int), v = .agg #[v0, v1] ∧ (Sl w v0 (z0.map (Value.int k)) ∧ ∀ n ∈ z0, (Lit.int k n).wf = true) ∧ (Sl w v1 (z1.map (Value.int k)) ∧ ∀ n ∈ z1, (Lit.int k n).wf = true) := by
  obtain ⟨cs, rfl, hsz⟩ := okWide_array ht hv
  obtain ⟨fuel, hf⟩ := h
  have hf' : DataW.trod enc P w base sp held fuel t cs.toList = some (d, ps) := hf
  obtain ⟨xs, m, _, _, _, hxl, hi⟩ := DataW.trod_array ht hf'
  rw [hct] at hsz
  obtain ⟨v0, v1, rfl⟩ : ∃ v0 v1, cs = #[v0, v1] := by
    obtain ⟨l⟩ := cs
    match l, hsz with
    | [a, b], _ => exact ⟨a, b, rfl⟩
  have h0 := hi 0 (by omega)
  have h1 := hi 1 (by omega)
  rw [hcs, List.getElem?_eq_getElem (show 0 < xs.length by omega)] at h0
  rw [hcs, List.getElem?_eq_getElem (show 1 < xs.length by omega)] at h1
  obtain ⟨z0, g0⟩ := sl_ints_at hs he hc (show DataW.trod enc P w base sp held m s [v0] = some xs[0] from h0)
  obtain ⟨z1, g1⟩ := sl_ints_at hs he hc (show DataW.trod enc P w base sp held m s [v1] = some xs[1] from h1)
  exact ⟨v0, v1, z0, z1, rfl, g0, g1⟩
end Go.YtndekdafiaogmaaMem
end
