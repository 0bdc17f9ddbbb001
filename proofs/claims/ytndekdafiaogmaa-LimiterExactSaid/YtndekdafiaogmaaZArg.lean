/- What the arguments of a law read as: rows of whole numbers as lists. Over any program. | A slice of structs as an argument: the cells of each element, and the reading of each of its fields. Over any program. | Arrays of whole numbers as arguments; structs of an int and a text. Over any program. | A slice of structs as an argument, each told by a plain value. Over any program. -/
import Derived.Test.YtndekdafiaogmaaZLow
import Derived.ProofKit
import Derived.OpenShut
import Derived.ShutString
import Derived.ChangeOld
import Derived.Deep.SlicePairs
import Derived.Deep.Slices
set_option linter.unusedSimpArgs false
set_option linter.unusedVariables false
section
namespace Go.YtndekdafiaogmaaMem
open Go Go.ChangeShapes Go.WideShapes Go.ChangeAt Go.RowKit
variable {H : Type} {enc : TypeId × Value → H} {P : Program} {w : World} {base : Nat} {sp : Nat → Bool} {held : Bool}
theorem sl_ints {r : Reach} {b0 : Nat} {t e : TypeId} {k : IntKind} {v : Value} {d : DataW H} {ps : List MemPlace} (ht : P.underlying t = some (.slice e)) (he : P.underlying e = some (.int k)) (hc : P.cellsOf e = 1)
  (hval : Value.okWide P w r b0 t v) (h : DataW.Trod enc P w base sp held t v d ps) : ∃ zs : List Int, Sl w v (zs.map (Value.int k)) ∧ ∀ n ∈ zs, (Lit.int k n).wf = true := by
 obtain ⟨a, len, cap, rfl⟩ := okWide_slice ht hval
 obtain ⟨fuel, hf⟩ := h
 rcases open_ints ht he hc hf with ⟨hcs, _⟩ | ⟨x, l, c, zs, hcs, _, hl, hm, hz, _, hcell, hwz⟩
 ·simp [Value.cells] at hcs
  obtain ⟨rfl, rfl, rfl⟩ := hcs
  exact ⟨[], .inl ⟨rfl, _, _, rfl⟩, by simp⟩
 ·simp [Value.cells] at hcs
  obtain ⟨rfl, rfl, rfl⟩ := hcs
  have hlz : len ≤ zs.length := by rw [hz]; split <;> omega
  by_cases h0 : len = 0
  ·subst h0; exact ⟨[], .inl ⟨rfl, _, _, rfl⟩, by simp⟩
  ·refine ⟨zs.take len, .inr ?_, fun n hn => hwz n (List.mem_of_mem_take hn)⟩
   obtain ⟨b, off, spot⟩ := x
   have c0 := hcell 0 (by omega)
   have hsp : spot = none := by simpa [Addr.add] using World.cell?_spot c0
   subst hsp
   have hlen : ((zs.take len).map (Value.int k)).length = len := by simp; omega
   refine ⟨b, off, cap, by rw [hlen], by rw [hlen]; exact hl, hm, ?_, fun i u hu => ?_⟩
   ·rw [add_eq] at c0; exact cell_lt c0
   ·have hi : i < len := by
     have := (List.getElem?_eq_some_iff.1 hu).1; rw [hlen] at this; exact this
    have := hcell i (by omega)
    rw [add_eq] at this
    rw [this]
    rw [List.getElem?_map, List.getElem?_take_of_lt hi, List.getElem?_eq_getElem (by omega)] at hu
    simp at hu
    rw [← hu]
    simp [List.getD_eq_getElem?_getD, List.getElem?_eq_getElem (show i < zs.length by omega)]
theorem int_at {t : TypeId} {k : IntKind} {v : Value} {fuel : Nat} {x : DataW H × List MemPlace} (ht : P.underlying t = some (.int k)) (hf : DataW.trod enc P w base sp held fuel t [v] = some x) :
  ∃ z : Int, v = .int k z ∧ (Lit.int k z).wf = true := by
 obtain ⟨n, hn, _, hw⟩ := DataW.trod_int ht hf
 simp at hn
 exact ⟨n, hn, hw⟩
structure Pair (w : World) (a : Option Addr) (i : Nat) (b off : Nat) (v : Value) (bs : List UInt8) (z : Int) : Prop where
 ha : a = some ⟨b, off, none⟩
 lt : b < w.heap.size
 c0 : w.cell? ⟨b, off + i * 2, none⟩ = some v
 c1 : w.cell? ⟨b, off + i * 2 + 1, none⟩ = some (.int .i64 z)
 sl : Sl w v (vb bs)
 wf : (Lit.int .i64 z).wf = true
theorem open_flds {r : Reach} {b0 : Nat} {t : TypeId} {fs : Array Field} {v : Value} {d : DataW H} {ps : List MemPlace} (hs : P.underlying t = some (.struct fs)) (hv : Value.okWide P w r b0 t v) (h : DataW.Trod enc P w base sp held t v d ps) :
  ∃ cs : Array Value, v = .agg cs ∧ cs.size = P.cellsOf t ∧ ∃ n : Nat, ∀ (j : Nat) (f : Field), fs[j]? = some f → ∃ y, DataW.trod enc P w base sp held n f.type ((cs.toList.drop f.offset).take (P.cellsOf f.type)) = some y := by
 obtain ⟨cs, rfl, hsz⟩ := okWide_struct hs hv
 obtain ⟨fuel, hf⟩ := h
 obtain ⟨xs, n, _, _, _, hlen, hg⟩ := DataW.trod_struct hs hf
 refine ⟨cs, rfl, hsz, n, fun j f hj => ?_⟩
 have hjl : j < fs.size := (Array.getElem?_eq_some_iff.1 hj).1
 have := hg j f hj
 rw [List.getElem?_eq_getElem (show j < xs.length by omega)] at this
 exact ⟨_, by simpa [Value.cells] using this⟩
theorem string_at {t : TypeId} {v : Value} {fuel : Nat} {x : DataW H × List MemPlace} (ht : P.underlying t = some .string) (hf : DataW.trod enc P w base sp held fuel t [v] = some x) :
  ∃ s : List UInt8, v = .string ⟨s.toArray⟩ := by
 have hh := DataW.trod_string ht hf
 obtain ⟨s, hs, _⟩ := hh
 simp only [List.cons.injEq, and_true] at hs
 exact ⟨s.data.toList, by rw [hs]⟩
end Go.YtndekdafiaogmaaMem
end
section
namespace Go.YtndekdafiaogmaaMem
open Go Go.ChangeShapes Go.WideShapes Go.ChangeAt Go.RowKit
variable {H : Type} {enc : TypeId × Value → H} {P : Program} {w : World} {base : Nat} {sp : Nat → Bool} {held : Bool}
theorem sl_rows {r : Reach} {b0 : Nat} {t e : TypeId} {fs : Array Field} {v : Value} {d : DataW H} {ps : List MemPlace} (ht : P.underlying t = some (.slice e)) (he : P.underlying e = some (.struct fs)) (hc : 0 < P.cellsOf e)
  (hval : Value.okWide P w r b0 t v) (h : DataW.Trod enc P w base sp held t v d ps) :
  ∃ a n c, v = .slice a n c ∧ n ≤ maxLen ∧ ∀ i, i < n → ∃ (b off : Nat) (cs : List Value) (m : Nat), a = some ⟨b, off, none⟩ ∧ b < w.heap.size ∧ cs.length = P.cellsOf e ∧
   (∀ j u, cs[j]? = some u → w.cell? ⟨b, off + (i * P.cellsOf e + j), none⟩ = some u) ∧
   ∀ (j : Nat) (f : Field), fs[j]? = some f → ∃ y, DataW.trod enc P w base sp held m f.type ((cs.drop f.offset).take (P.cellsOf f.type)) = some y := by
 obtain ⟨a, len, cap, rfl⟩ := okWide_slice ht hval
 obtain ⟨fuel, hf⟩ := h
 rcases Deep.open_slice ht hf with ⟨hcs, _⟩ | ⟨x, l, c, m, n, D, Pl, hcs, hb, hl, hm, hz, _, hx⟩
 ·simp [Value.cells] at hcs
  obtain ⟨rfl, rfl, rfl⟩ := hcs
  exact ⟨_, _, _, rfl, by unfold maxLen; omega, fun i hi => by omega⟩
 ·simp [Value.cells] at hcs
  obtain ⟨rfl, rfl, rfl⟩ := hcs
  refine ⟨_, _, _, rfl, by omega, fun i hi => ?_⟩
  have hlm : len ≤ m := by rw [hz]; split <;> omega
  obtain ⟨b, off, spot⟩ := x
  have hsp : spot = none := by
   obtain ⟨cs0, g0, _⟩ := hx 0 (by omega)
   obtain ⟨_, hlen, hcell⟩ := World.cells?_some g0
   have h0 := hcell 0 hc
   rw [List.getElem?_eq_getElem (by omega)] at h0
   have := World.cell?_spot h0
   simpa [Addr.add] using this
  subst hsp
  obtain ⟨cs, g, gt⟩ := hx i (by omega)
  obtain ⟨_, hlen, hcell⟩ := World.cells?_some g
  obtain ⟨xs, k, _, _, _, hxl, hg⟩ := DataW.trod_struct he gt
  have hcl : ∀ j u, cs[j]? = some u → w.cell? ⟨b, off + (i * P.cellsOf e + j), none⟩ = some u := fun j u hu => by
   have hj : j < P.cellsOf e := by have := (List.getElem?_eq_some_iff.1 hu).1; omega
   have h1 := hcell j hj
   rw [add_eq, add_eq, hu] at h1
   rw [← Nat.add_assoc]; exact h1
  refine ⟨b, off, cs, k, rfl, ?_, hlen, hcl, fun j f hj => ?_⟩
  ·have h0 := hcl 0 (cs[0]'(by omega)) (List.getElem?_eq_getElem (by omega))
   exact cell_lt h0
  ·have hjl : j < fs.size := (Array.getElem?_eq_some_iff.1 hj).1
   have := hg j f hj
   rw [List.getElem?_eq_getElem (show j < xs.length by omega)] at this
   exact ⟨_, this⟩
end Go.YtndekdafiaogmaaMem
end
section
namespace Go.YtndekdafiaogmaaMem
open Go Go.ChangeShapes Go.WideShapes Go.ChangeAt Go.RowKit
variable {H : Type} {enc : TypeId × Value → H} {P : Program} {w : World} {base : Nat} {sp : Nat → Bool} {held : Bool}
end Go.YtndekdafiaogmaaMem
end
section
namespace Go.YtndekdafiaogmaaMem
open Go Go.ChangeShapes Go.WideShapes Go.ChangeAt Go.RowKit
def InRow {α : Type} (w : World) (a : Option Addr) (k : Nat) (enc : α → List Value) (l : List α) : Prop :=
 ∀ i q, l[i]? = some q → ∃ b off, a = some ⟨b, off, none⟩ ∧ b < w.heap.size ∧ ∀ j u, (enc q)[j]? = some u → w.cell? ⟨b, off + i * k + j, none⟩ = some u
variable {H : Type} {enc : TypeId × Value → H} {P : Program} {w : World} {base : Nat} {sp : Nat → Bool} {held : Bool}
theorem open_enc {α : Type} [Inhabited α] (tell : α → List Value) (ok : α → Prop) {r : Reach} {b0 : Nat} {t e : TypeId} {fs : Array Field} {k : Nat} {v : Value} {d : DataW H} {ps : List MemPlace} (ht : P.underlying t = some (.slice e)) (he : P.underlying e = some (.struct fs))
  (ce : P.cellsOf e = k) (hk : 0 < k) (hval : Value.okWide P w r b0 t v) (h : DataW.Trod enc P w base sp held t v d ps)
  (each : ∀ (cs : List Value) (m : Nat), cs.length = k → (∀ (j : Nat) (f : Field), fs[j]? = some f → ∃ y, DataW.trod enc P w base sp held m f.type ((cs.drop f.offset).take (P.cellsOf f.type)) = some y) → ∃ q, cs = tell q ∧ ok q) :
  ∃ (a : Option Addr) (c : Nat) (l : List α), v = .slice a l.length c ∧ l.length ≤ maxLen ∧ InRow w a k tell l ∧ ∀ q ∈ l, ok q := by
 obtain ⟨a, n, c, rfl, hn, hx⟩ := sl_rows ht he (by rw [ce]; omega) hval h
 have each' : ∀ i, i < n → ∃ q : α, (∃ b off, a = some ⟨b, off, none⟩ ∧ b < w.heap.size ∧ ∀ j u, (tell q)[j]? = some u → w.cell? ⟨b, off + i * k + j, none⟩ = some u) ∧ ok q := by
  intro i hi
  obtain ⟨b, off, cs, m, ha, hb, hlen, hcell, hf⟩ := hx i hi
  rw [ce] at hlen hcell
  obtain ⟨q, rfl, hq⟩ := each cs m hlen hf
  exact ⟨q, ⟨b, off, ha, hb, fun j u hu => by rw [Nat.add_assoc]; exact hcell j u hu⟩, hq⟩
 obtain ⟨q, hq⟩ := Deep.choose_lt each'
 refine ⟨a, c, (List.range n).map q, by simp, by simpa using hn, fun i x hi => ?_, fun x hx => ?_⟩
 ·rw [List.getElem?_map] at hi
  by_cases hin : i < n
  ·rw [List.getElem?_range hin] at hi
   simp at hi; subst hi
   exact (hq i hin).1
  ·rw [List.getElem?_eq_none (by simpa using hin)] at hi; cases hi
 ·obtain ⟨i, hi, rfl⟩ := List.mem_map.1 hx
  exact (hq i (List.mem_range.1 hi)).2
structure KTA where
 kind : Int
 key : List UInt8
 at_ : Int
deriving Inhabited
def KTA.cells (q : KTA) : List Value := [.int .i64 q.kind, .string ⟨q.key.toArray⟩, .int .i64 q.at_]
def KTA.ok (q : KTA) : Prop := (Lit.int .i64 q.kind).wf = true ∧ (Lit.int .i64 q.at_).wf = true
end Go.YtndekdafiaogmaaMem
end
