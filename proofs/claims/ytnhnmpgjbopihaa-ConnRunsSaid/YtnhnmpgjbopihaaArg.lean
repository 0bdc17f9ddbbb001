/- What the arguments of a law read as: rows of whole numbers as lists. Over any program. -/
import Derived.Test.YtnhnmpgjbopihaaMem
import Derived.ProofKit
import Derived.OpenShut
import Derived.ShutString
import Derived.ChangeOld
import Derived.Deep.SlicePairs
namespace Go.YtnhnmpgjbopihaaMem
set_option linter.unusedVariables false
set_option linter.unusedSimpArgs false
open Go Go.ChangeShapes Go.WideShapes Go.ChangeAt Go.RowKit

variable {H : Type} {enc : TypeId × Value → H} {P : Program} {w : World} {base : Nat} {sp : Nat → Bool} {held : Bool}

theorem sl_ints {r : Reach} {b0 : Nat} {t e : TypeId} {k : IntKind} {v : Value} {d : DataW H} {ps : List MemPlace} (ht : P.underlying t = some (.slice e)) (he : P.underlying e = some (.int k)) (hc : P.cellsOf e = 1)
    (hval : Value.okWide P w r b0 t v) (h : DataW.Trod enc P w base sp held t v d ps) : ∃ zs : List Int, Sl w v (zs.map (Value.int k)) ∧ ∀ n ∈ zs, (Lit.int k n).wf = true := by
  obtain ⟨a, len, cap, rfl⟩ := okWide_slice ht hval
  obtain ⟨fuel, hf⟩ := h
  rcases open_ints ht he hc hf with ⟨hcs, _⟩ | ⟨x, l, c, zs, hcs, _, hl, hm, hz, _, hcell, hwz⟩
  · simp [Value.cells] at hcs
    obtain ⟨rfl, rfl, rfl⟩ := hcs
    exact ⟨[], .inl ⟨rfl, _, _, rfl⟩, by simp⟩
  · simp [Value.cells] at hcs
    obtain ⟨rfl, rfl, rfl⟩ := hcs
    have hlz : len ≤ zs.length := by rw [hz]; split <;> omega
    by_cases h0 : len = 0
    · subst h0; exact ⟨[], .inl ⟨rfl, _, _, rfl⟩, by simp⟩
    · refine ⟨zs.take len, .inr ?_, fun n hn => hwz n (List.mem_of_mem_take hn)⟩
      obtain ⟨b, off, spot⟩ := x
      have c0 := hcell 0 (by omega)
      have hsp : spot = none := by simpa [Addr.add] using World.cell?_spot c0
      subst hsp
      have hlen : ((zs.take len).map (Value.int k)).length = len := by simp; omega
      refine ⟨b, off, cap, by rw [hlen], by rw [hlen]; exact hl, hm, ?_, fun i u hu => ?_⟩
      · rw [add_eq] at c0; exact cell_lt c0
      · have hi : i < len := by
          have := (List.getElem?_eq_some_iff.1 hu).1; rw [hlen] at this; exact this
        have := hcell i (by omega)
        rw [add_eq] at this
        rw [this]
        rw [List.getElem?_map, List.getElem?_take_of_lt hi, List.getElem?_eq_getElem (by omega)] at hu
        simp at hu
        rw [← hu]
        simp [List.getD_eq_getElem?_getD, List.getElem?_eq_getElem (show i < zs.length by omega)]

theorem wf_u8_of {n : Int} (h : (Lit.int .u8 n).wf = true) : 0 ≤ n ∧ n < 256 := by
  have : 0 ≤ n ∧ n ≤ 255 := by simpa [Lit.wf, IntKind.min, IntKind.max, IntKind.signed, IntKind.bits] using h
  omega
theorem wf_i64_of {n : Int} (h : (Lit.int .i64 n).wf = true) : -9223372036854775808 ≤ n ∧ n ≤ 9223372036854775807 := by
  simpa [Lit.wf, IntKind.min, IntKind.max, IntKind.signed, IntKind.bits] using h

theorem sl_bytes {r : Reach} {b0 : Nat} {t e : TypeId} {v : Value} {d : DataW H} {ps : List MemPlace} (ht : P.underlying t = some (.slice e)) (he : P.underlying e = some (.int .u8)) (hc : P.cellsOf e = 1)
    (hval : Value.okWide P w r b0 t v) (h : DataW.Trod enc P w base sp held t v d ps) : ∃ bs : List UInt8, Sl w v (vb bs) := by
  obtain ⟨zs, hs, hw⟩ := sl_ints ht he hc hval h
  refine ⟨zs.map fun n => UInt8.ofNat n.toNat, ?_⟩
  have e : vb (zs.map fun n => UInt8.ofNat n.toNat) = zs.map (Value.int .u8) := by
    unfold vb
    rw [List.map_map]
    refine List.map_congr_left fun n hn => ?_
    have := wf_u8_of (hw n hn)
    simp only [Function.comp, UInt8.toNat_ofNat']
    congr 1
    omega
  rw [e]; exact hs

/-- A row of whole numbers known by its cell (a field's, an element's). -/
theorem sl_ints_at {t e : TypeId} {k : IntKind} {v : Value} {fuel : Nat} {x : DataW H × List MemPlace} (ht : P.underlying t = some (.slice e)) (he : P.underlying e = some (.int k)) (hc : P.cellsOf e = 1)
    (hf : DataW.trod enc P w base sp held fuel t [v] = some x) : ∃ zs : List Int, Sl w v (zs.map (Value.int k)) ∧ ∀ n ∈ zs, (Lit.int k n).wf = true := by
  rcases open_ints ht he hc hf with ⟨hcs, _⟩ | ⟨x, l, c, zs, hcs, _, hl, hm, hz, _, hcell, hwz⟩
  · simp at hcs
    subst hcs
    exact ⟨[], .inl ⟨rfl, _, _, rfl⟩, by simp⟩
  · simp at hcs
    subst hcs
    have hlz : l ≤ zs.length := by rw [hz]; split <;> omega
    by_cases h0 : l = 0
    · subst h0; exact ⟨[], .inl ⟨rfl, _, _, rfl⟩, by simp⟩
    · refine ⟨zs.take l, .inr ?_, fun n hn => hwz n (List.mem_of_mem_take hn)⟩
      obtain ⟨b, off, spot⟩ := x
      have c0 := hcell 0 (by omega)
      have hsp : spot = none := by simpa [Addr.add] using World.cell?_spot c0
      subst hsp
      have hlen : ((zs.take l).map (Value.int k)).length = l := by simp; omega
      refine ⟨b, off, c, by rw [hlen], by rw [hlen]; exact hl, hm, ?_, fun i u hu => ?_⟩
      · rw [add_eq] at c0; exact cell_lt c0
      · have hi : i < l := by
          have := (List.getElem?_eq_some_iff.1 hu).1; rw [hlen] at this; exact this
        have := hcell i (by omega)
        rw [add_eq] at this
        rw [this]
        rw [List.getElem?_map, List.getElem?_take_of_lt hi, List.getElem?_eq_getElem (by omega)] at hu
        simp at hu
        rw [← hu]
        simp [List.getD_eq_getElem?_getD, List.getElem?_eq_getElem (show i < zs.length by omega)]

theorem vb_of_wf (zs : List Int) (hw : ∀ n ∈ zs, (Lit.int .u8 n).wf = true) : vb (zs.map fun n => UInt8.ofNat n.toNat) = zs.map (Value.int .u8) := by
  unfold vb
  rw [List.map_map]
  refine List.map_congr_left fun n hn => ?_
  have := wf_u8_of (hw n hn)
  simp only [Function.comp, UInt8.toNat_ofNat']
  congr 1
  omega
theorem sl_bytes_at {t e : TypeId} {v : Value} {fuel : Nat} {x : DataW H × List MemPlace} (ht : P.underlying t = some (.slice e)) (he : P.underlying e = some (.int .u8)) (hc : P.cellsOf e = 1)
    (hf : DataW.trod enc P w base sp held fuel t [v] = some x) : ∃ bs : List UInt8, Sl w v (vb bs) := by
  obtain ⟨zs, hs, hw⟩ := sl_ints_at ht he hc hf
  exact ⟨_, by rw [vb_of_wf zs hw]; exact hs⟩
theorem int_at {t : TypeId} {k : IntKind} {v : Value} {fuel : Nat} {x : DataW H × List MemPlace} (ht : P.underlying t = some (.int k)) (hf : DataW.trod enc P w base sp held fuel t [v] = some x) :
    ∃ z : Int, v = .int k z ∧ (Lit.int k z).wf = true := by
  obtain ⟨n, hn, _, hw⟩ := DataW.trod_int ht hf
  simp at hn
  exact ⟨n, hn, hw⟩

/-- The i-th of a row of pairs (a row of bytes, a number), two cells each. -/
structure Pair (w : World) (a : Option Addr) (i : Nat) (b off : Nat) (v : Value) (bs : List UInt8) (z : Int) : Prop where
  ha : a = some ⟨b, off, none⟩
  lt : b < w.heap.size
  c0 : w.cell? ⟨b, off + i * 2, none⟩ = some v
  c1 : w.cell? ⟨b, off + i * 2 + 1, none⟩ = some (.int .i64 z)
  sl : Sl w v (vb bs)
  wf : (Lit.int .i64 z).wf = true

theorem sl_pairs {r : Reach} {b0 : Nat} {t e te : TypeId} {f0 f1 : Field} {v : Value} {d : DataW H} {ps : List MemPlace} (ht : P.underlying t = some (.slice e)) (he : P.underlying e = some (.struct #[f0, f1]))
    (ce : P.cellsOf e = 2) (o0 : f0.offset = 0) (o1 : f1.offset = 1) (c0 : P.cellsOf f0.type = 1) (c1 : P.cellsOf f1.type = 1)
    (h0 : P.underlying f0.type = some (.slice te)) (h1 : P.underlying te = some (.int .u8)) (h2 : P.cellsOf te = 1) (h3 : P.underlying f1.type = some (.int .i64))
    (hval : Value.okWide P w r b0 t v) (h : DataW.Trod enc P w base sp held t v d ps) :
    ∃ a n c, v = .slice a n c ∧ n ≤ maxLen ∧ ∀ i, i < n → ∃ b off u bs z, Pair w a i b off u bs z := by
  obtain ⟨a, len, cap, rfl⟩ := okWide_slice ht hval
  obtain ⟨fuel, hf⟩ := h
  rcases Deep.open_slice_pairs ht he ce o0 o1 c0 c1 hf with ⟨hcs, _⟩ | ⟨x, l, c, m, n, V0, V1, D0, D1, P0, P1, hcs, _, hl, hm, hz, _, hcell⟩
  · simp [Value.cells] at hcs
    obtain ⟨rfl, rfl, rfl⟩ := hcs
    exact ⟨_, _, _, rfl, by unfold maxLen; omega, fun i hi => by omega⟩
  · simp [Value.cells] at hcs
    obtain ⟨rfl, rfl, rfl⟩ := hcs
    refine ⟨_, _, _, rfl, by omega, fun i hi => ?_⟩
    have hlm : len ≤ m := by rw [hz]; split <;> omega
    obtain ⟨g0, g1, t0, t1⟩ := hcell i (by omega)
    obtain ⟨b, off, spot⟩ := x
    have hsp : spot = none := by
      have := World.cell?_spot (hcell 0 (by omega)).1
      simpa [Addr.add] using this
    subst hsp
    rw [add_eq] at g0 g1
    obtain ⟨bs, hbs⟩ := sl_bytes_at h0 h1 h2 t0
    obtain ⟨z, hz1, hz2⟩ := int_at h3 t1
    exact ⟨b, off, V0 i, bs, z, rfl, cell_lt g0, g0, by rw [← hz1]; exact g1, hbs, hz2⟩

/-- A struct handed over by its value: its cells, and each field's reading. -/
theorem open_flds {r : Reach} {b0 : Nat} {t : TypeId} {fs : Array Field} {v : Value} {d : DataW H} {ps : List MemPlace} (hs : P.underlying t = some (.struct fs)) (hv : Value.okWide P w r b0 t v) (h : DataW.Trod enc P w base sp held t v d ps) :
    ∃ cs : Array Value, v = .agg cs ∧ cs.size = P.cellsOf t ∧ ∃ n : Nat, ∀ (j : Nat) (f : Field), fs[j]? = some f → ∃ y, DataW.trod enc P w base sp held n f.type ((cs.toList.drop f.offset).take (P.cellsOf f.type)) = some y := by
  obtain ⟨cs, rfl, hsz⟩ := okWide_struct hs hv
  obtain ⟨fuel, hf⟩ := h
  obtain ⟨xs, n, _, _, _, hlen, hg⟩ := DataW.trod_struct hs hf
  refine ⟨cs, rfl, hsz, n, fun j f hj => ?_⟩
  have hjl : j < fs.size := (Array.getElem?_eq_some_iff.1 hj).1
  have := hg j f hj
  rw [List.getElem?_eq_getElem (show j < xs.length by omega)] at this
  exact ⟨_, by simpa [Value.cells] using this⟩
theorem string_at {t : TypeId} {v : Value} {fuel : Nat} {x : DataW H × List MemPlace} (ht : P.underlying t = some .string) (hf : DataW.trod enc P w base sp held fuel t [v] = some x) :
    ∃ s : List UInt8, v = .string ⟨s.toArray⟩ := by
  have hh := DataW.trod_string ht hf
  obtain ⟨s, hs, _⟩ := hh
  simp only [List.cons.injEq, and_true] at hs
  exact ⟨s.data.toList, by rw [hs]⟩
end Go.YtnhnmpgjbopihaaMem
