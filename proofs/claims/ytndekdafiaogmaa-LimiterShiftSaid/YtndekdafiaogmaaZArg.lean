/- What the arguments of a law read as: rows of whole numbers as lists. Over any program. | A slice of structs as an argument: the cells of each element, and the reading of each of its fields. Over any program. | Arrays of whole numbers as arguments; structs of an int and a text. Over any program. | A slice of structs as an argument, each told by a plain value. Over any program. -/
import Derived.Test.YtndekdafiaogmaaZLow
import Derived.ProofKit
import Derived.OpenShut
import Derived.ShutString
import Derived.ChangeOld
import Derived.Deep.SlicePairs
import Derived.Deep.Slices
section
namespace Go.YtndekdafiaogmaaMem
set_option linter.unusedVariables false
set_option linter.unusedSimpArgs false
open Go Go.ChangeShapes Go.WideShapes Go.ChangeAt Go.RowKit

variable {H : Type} {enc : TypeId × Value → H} {P : Program} {w : World} {base : Nat} {sp : Nat → Bool} {held : Bool}

theorem sl_ints {r : Reach} {b0 : Nat} {t e : TypeId} {k : IntKind} {v : Value} {d : DataW H} {ps : List MemPlace} (ht : P.underlying t = some (.slice e)) (he : P.underlying e = some (.int k)) (hc : P.cellsOf e = 1)
    (hval : Value.okWide P w r b0 t v) (h : DataW.Trod enc P w base sp held t v d ps) : ∃ zs : List Int, Sl w v (zs.map (Value.int k)) ∧ ∀ n ∈ zs, (Lit.int k n).wf = true := by
  obtain ⟨a, len, cap, rfl⟩ := okWide_slice ht hval
  obtain ⟨fuel, hf⟩ := h
  rcases open_ints ht he hc hf with ⟨hcs, _⟩ | ⟨x, l, c, zs, hcs, _, hl, hm, hz, _, hcell, hwz⟩
  · simp [Value.cells] at hcs
    obtain ⟨rfl, rfl, rfl⟩ := hcs
    exact ⟨[], .inl ⟨rfl, _, _, rfl⟩, by simp⟩
  · simp [Value.cells] at hcs
    obtain ⟨rfl, rfl, rfl⟩ := hcs
    have hlz : len ≤ zs.length := by rw [hz]; split <;> omega
    by_cases h0 : len = 0
    · subst h0; exact ⟨[], .inl ⟨rfl, _, _, rfl⟩, by simp⟩
    · refine ⟨zs.take len, .inr ?_, fun n hn => hwz n (List.mem_of_mem_take hn)⟩
      obtain ⟨b, off, spot⟩ := x
      have c0 := hcell 0 (by omega)
      have hsp : spot = none := by simpa [Addr.add] using World.cell?_spot c0
      subst hsp
      have hlen : ((zs.take len).map (Value.int k)).length = len := by simp; omega
      refine ⟨b, off, cap, by rw [hlen], by rw [hlen]; exact hl, hm, ?_, fun i u hu => ?_⟩
      · rw [add_eq] at c0; exact cell_lt c0
      · have hi : i < len := by
          have := (List.getElem?_eq_some_iff.1 hu).1; rw [hlen] at this; exact this
        have := hcell i (by omega)
        rw [add_eq] at this
        rw [this]
        rw [List.getElem?_map, List.getElem?_take_of_lt hi, List.getElem?_eq_getElem (by omega)] at hu
        simp at hu
        rw [← hu]
        simp [List.getD_eq_getElem?_getD, List.getElem?_eq_getElem (show i < zs.length by omega)]

theorem wf_u8_of {n : Int} (h : (Lit.int .u8 n).wf = true) : 0 ≤ n ∧ n < 256 := by
  have : 0 ≤ n ∧ n ≤ 255 := by simpa [Lit.wf, IntKind.min, IntKind.max, IntKind.signed, IntKind.bits] using h
  omega
theorem wf_i64_of {n : Int} (h : (Lit.int .i64 n).wf = true) : -9223372036854775808 ≤ n ∧ n ≤ 9223372036854775807 := by
  simpa [Lit.wf, IntKind.min, IntKind.max, IntKind.signed, IntKind.bits] using h

theorem sl_bytes {r : Reach} {b0 : Nat} {t e : TypeId} {v : Value} {d : DataW H} {ps : List MemPlace} (ht : P.underlying t = some (.slice e)) (he : P.underlying e = some (.int .u8)) (hc : P.cellsOf e = 1)
    (hval : Value.okWide P w r b0 t v) (h : DataW.Trod enc P w base sp held t v d ps) : ∃ bs : List UInt8, Sl w v (vb bs) := by
  obtain ⟨zs, hs, hw⟩ := sl_ints ht he hc hval h
  refine ⟨zs.map fun n => UInt8.ofNat n.toNat, ?_⟩
  have e : vb (zs.map fun n => UInt8.ofNat n.toNat) = zs.map (Value.int .u8) := by
    unfold vb
    rw [List.map_map]
    refine List.map_congr_left fun n hn => ?_
    have := wf_u8_of (hw n hn)
    simp only [Function.comp, UInt8.toNat_ofNat']
    congr 1
    omega
  rw [e]; exact hs

/-- A row of whole numbers known by its cell (a field's, an element's). -/
theorem sl_ints_at {t e : TypeId} {k : IntKind} {v : Value} {fuel : Nat} {x : DataW H × List MemPlace} (ht : P.underlying t = some (.slice e)) (he : P.underlying e = some (.int k)) (hc : P.cellsOf e = 1)
    (hf : DataW.trod enc P w base sp held fuel t [v] = some x) : ∃ zs : List Int, Sl w v (zs.map (Value.int k)) ∧ ∀ n ∈ zs, (Lit.int k n).wf = true := by
  rcases open_ints ht he hc hf with ⟨hcs, _⟩ | ⟨x, l, c, zs, hcs, _, hl, hm, hz, _, hcell, hwz⟩
  · simp at hcs
    subst hcs
    exact ⟨[], .inl ⟨rfl, _, _, rfl⟩, by simp⟩
  · simp at hcs
    subst hcs
    have hlz : l ≤ zs.length := by rw [hz]; split <;> omega
    by_cases h0 : l = 0
    · subst h0; exact ⟨[], .inl ⟨rfl, _, _, rfl⟩, by simp⟩
    · refine ⟨zs.take l, .inr ?_, fun n hn => hwz n (List.mem_of_mem_take hn)⟩
      obtain ⟨b, off, spot⟩ := x
      have c0 := hcell 0 (by omega)
      have hsp : spot = none := by simpa [Addr.add] using World.cell?_spot c0
      subst hsp
      have hlen : ((zs.take l).map (Value.int k)).length = l := by simp; omega
      refine ⟨b, off, c, by rw [hlen], by rw [hlen]; exact hl, hm, ?_, fun i u hu => ?_⟩
      · rw [add_eq] at c0; exact cell_lt c0
      · have hi : i < l := by
          have := (List.getElem?_eq_some_iff.1 hu).1; rw [hlen] at this; exact this
        have := hcell i (by omega)
        rw [add_eq] at this
        rw [this]
        rw [List.getElem?_map, List.getElem?_take_of_lt hi, List.getElem?_eq_getElem (by omega)] at hu
        simp at hu
        rw [← hu]
        simp [List.getD_eq_getElem?_getD, List.getElem?_eq_getElem (show i < zs.length by omega)]

theorem vb_of_wf (zs : List Int) (hw : ∀ n ∈ zs, (Lit.int .u8 n).wf = true) : vb (zs.map fun n => UInt8.ofNat n.toNat) = zs.map (Value.int .u8) := by
  unfold vb
  rw [List.map_map]
  refine List.map_congr_left fun n hn => ?_
  have := wf_u8_of (hw n hn)
  simp only [Function.comp, UInt8.toNat_ofNat']
  congr 1
  omega
theorem sl_bytes_at {t e : TypeId} {v : Value} {fuel : Nat} {x : DataW H × List MemPlace} (ht : P.underlying t = some (.slice e)) (he : P.underlying e = some (.int .u8)) (hc : P.cellsOf e = 1)
    (hf : DataW.trod enc P w base sp held fuel t [v] = some x) : ∃ bs : List UInt8, Sl w v (vb bs) := by
  obtain ⟨zs, hs, hw⟩ := sl_ints_at ht he hc hf
  exact ⟨_, by rw [vb_of_wf zs hw]; exact hs⟩
theorem int_at {t : TypeId} {k : IntKind} {v : Value} {fuel : Nat} {x : DataW H × List MemPlace} (ht : P.underlying t = some (.int k)) (hf : DataW.trod enc P w base sp held fuel t [v] = some x) :
    ∃ z : Int, v = .int k z ∧ (Lit.int k z).wf = true := by
  obtain ⟨n, hn, _, hw⟩ := DataW.trod_int ht hf
  simp at hn
  exact ⟨n, hn, hw⟩

/-- The i-th of a row of pairs (a row of bytes, a number), two cells each. -/
structure Pair (w : World) (a : Option Addr) (i : Nat) (b off : Nat) (v : Value) (bs : List UInt8) (z : Int) : Prop where
  ha : a = some ⟨b, off, none⟩
  lt : b < w.heap.size
  c0 : w.cell? ⟨b, off + i * 2, none⟩ = some v
  c1 : w.cell? ⟨b, off + i * 2 + 1, none⟩ = some (.int .i64 z)
  sl : Sl w v (vb bs)
  wf : (Lit.int .i64 z).wf = true

theorem sl_pairs {r : Reach} {b0 : Nat} {t e te : TypeId} {f0 f1 : Field} {v : Value} {d : DataW H} {ps : List MemPlace} (ht : P.underlying t = some (.slice e)) (he : P.underlying e = some (.struct #[f0, f1]))
    (ce : P.cellsOf e = 2) (o0 : f0.offset = 0) (o1 : f1.offset = 1) (c0 : P.cellsOf f0.type = 1) (c1 : P.cellsOf f1.type = 1)
    (h0 : P.underlying f0.type = some (.slice te)) (h1 : P.underlying te = some (.int .u8)) (h2 : P.cellsOf te = 1) (h3 : P.underlying f1.type = some (.int .i64))
    (hval : Value.okWide P w r b0 t v) (h : DataW.Trod enc P w base sp held t v d ps) :
    ∃ a n c, v = .slice a n c ∧ n ≤ maxLen ∧ ∀ i, i < n → ∃ b off u bs z, Pair w a i b off u bs z := by
  obtain ⟨a, len, cap, rfl⟩ := okWide_slice ht hval
  obtain ⟨fuel, hf⟩ := h
  rcases Deep.open_slice_pairs ht he ce o0 o1 c0 c1 hf with ⟨hcs, _⟩ | ⟨x, l, c, m, n, V0, V1, D0, D1, P0, P1, hcs, _, hl, hm, hz, _, hcell⟩
  · simp [Value.cells] at hcs
    obtain ⟨rfl, rfl, rfl⟩ := hcs
    exact ⟨_, _, _, rfl, by unfold maxLen; omega, fun i hi => by omega⟩
  · simp [Value.cells] at hcs
    obtain ⟨rfl, rfl, rfl⟩ := hcs
    refine ⟨_, _, _, rfl, by omega, fun i hi => ?_⟩
    have hlm : len ≤ m := by rw [hz]; split <;> omega
    obtain ⟨g0, g1, t0, t1⟩ := hcell i (by omega)
    obtain ⟨b, off, spot⟩ := x
    have hsp : spot = none := by
      have := World.cell?_spot (hcell 0 (by omega)).1
      simpa [Addr.add] using this
    subst hsp
    rw [add_eq] at g0 g1
    obtain ⟨bs, hbs⟩ := sl_bytes_at h0 h1 h2 t0
    obtain ⟨z, hz1, hz2⟩ := int_at h3 t1
    exact ⟨b, off, V0 i, bs, z, rfl, cell_lt g0, g0, by rw [← hz1]; exact g1, hbs, hz2⟩

/-- A struct handed over by its value: its cells, and each field's reading. -/
theorem open_flds {r : Reach} {b0 : Nat} {t : TypeId} {fs : Array Field} {v : Value} {d : DataW H} {ps : List MemPlace} (hs : P.underlying t = some (.struct fs)) (hv : Value.okWide P w r b0 t v) (h : DataW.Trod enc P w base sp held t v d ps) :
    ∃ cs : Array Value, v = .agg cs ∧ cs.size = P.cellsOf t ∧ ∃ n : Nat, ∀ (j : Nat) (f : Field), fs[j]? = some f → ∃ y, DataW.trod enc P w base sp held n f.type ((cs.toList.drop f.offset).take (P.cellsOf f.type)) = some y := by
  obtain ⟨cs, rfl, hsz⟩ := okWide_struct hs hv
  obtain ⟨fuel, hf⟩ := h
  obtain ⟨xs, n, _, _, _, hlen, hg⟩ := DataW.trod_struct hs hf
  refine ⟨cs, rfl, hsz, n, fun j f hj => ?_⟩
  have hjl : j < fs.size := (Array.getElem?_eq_some_iff.1 hj).1
  have := hg j f hj
  rw [List.getElem?_eq_getElem (show j < xs.length by omega)] at this
  exact ⟨_, by simpa [Value.cells] using this⟩
theorem string_at {t : TypeId} {v : Value} {fuel : Nat} {x : DataW H × List MemPlace} (ht : P.underlying t = some .string) (hf : DataW.trod enc P w base sp held fuel t [v] = some x) :
    ∃ s : List UInt8, v = .string ⟨s.toArray⟩ := by
  have hh := DataW.trod_string ht hf
  obtain ⟨s, hs, _⟩ := hh
  simp only [List.cons.injEq, and_true] at hs
  exact ⟨s.data.toList, by rw [hs]⟩
end Go.YtndekdafiaogmaaMem
end

section
namespace Go.YtndekdafiaogmaaMem
set_option linter.unusedVariables false
set_option linter.unusedSimpArgs false
open Go Go.ChangeShapes Go.WideShapes Go.ChangeAt Go.RowKit

variable {H : Type} {enc : TypeId × Value → H} {P : Program} {w : World} {base : Nat} {sp : Nat → Bool} {held : Bool}

theorem sl_rows {r : Reach} {b0 : Nat} {t e : TypeId} {fs : Array Field} {v : Value} {d : DataW H} {ps : List MemPlace} (ht : P.underlying t = some (.slice e)) (he : P.underlying e = some (.struct fs)) (hc : 0 < P.cellsOf e)
    (hval : Value.okWide P w r b0 t v) (h : DataW.Trod enc P w base sp held t v d ps) :
    ∃ a n c, v = .slice a n c ∧ n ≤ maxLen ∧ ∀ i, i < n → ∃ (b off : Nat) (cs : List Value) (m : Nat), a = some ⟨b, off, none⟩ ∧ b < w.heap.size ∧ cs.length = P.cellsOf e ∧
      (∀ j u, cs[j]? = some u → w.cell? ⟨b, off + (i * P.cellsOf e + j), none⟩ = some u) ∧
      ∀ (j : Nat) (f : Field), fs[j]? = some f → ∃ y, DataW.trod enc P w base sp held m f.type ((cs.drop f.offset).take (P.cellsOf f.type)) = some y := by
  obtain ⟨a, len, cap, rfl⟩ := okWide_slice ht hval
  obtain ⟨fuel, hf⟩ := h
  rcases Deep.open_slice ht hf with ⟨hcs, _⟩ | ⟨x, l, c, m, n, D, Pl, hcs, hb, hl, hm, hz, _, hx⟩
  · simp [Value.cells] at hcs
    obtain ⟨rfl, rfl, rfl⟩ := hcs
    exact ⟨_, _, _, rfl, by unfold maxLen; omega, fun i hi => by omega⟩
  · simp [Value.cells] at hcs
    obtain ⟨rfl, rfl, rfl⟩ := hcs
    refine ⟨_, _, _, rfl, by omega, fun i hi => ?_⟩
    have hlm : len ≤ m := by rw [hz]; split <;> omega
    obtain ⟨b, off, spot⟩ := x
    have hsp : spot = none := by
      obtain ⟨cs0, g0, _⟩ := hx 0 (by omega)
      obtain ⟨_, hlen, hcell⟩ := World.cells?_some g0
      have h0 := hcell 0 hc
      rw [List.getElem?_eq_getElem (by omega)] at h0
      have := World.cell?_spot h0
      simpa [Addr.add] using this
    subst hsp
    obtain ⟨cs, g, gt⟩ := hx i (by omega)
    obtain ⟨_, hlen, hcell⟩ := World.cells?_some g
    obtain ⟨xs, k, _, _, _, hxl, hg⟩ := DataW.trod_struct he gt
    have hcl : ∀ j u, cs[j]? = some u → w.cell? ⟨b, off + (i * P.cellsOf e + j), none⟩ = some u := fun j u hu => by
      have hj : j < P.cellsOf e := by have := (List.getElem?_eq_some_iff.1 hu).1; omega
      have h1 := hcell j hj
      rw [add_eq, add_eq, hu] at h1
      rw [← Nat.add_assoc]; exact h1
    refine ⟨b, off, cs, k, rfl, ?_, hlen, hcl, fun j f hj => ?_⟩
    · have h0 := hcl 0 (cs[0]'(by omega)) (List.getElem?_eq_getElem (by omega))
      exact cell_lt h0
    · have hjl : j < fs.size := (Array.getElem?_eq_some_iff.1 hj).1
      have := hg j f hj
      rw [List.getElem?_eq_getElem (show j < xs.length by omega)] at this
      exact ⟨_, this⟩
end Go.YtndekdafiaogmaaMem
end

section
namespace Go.YtndekdafiaogmaaMem
set_option linter.unusedVariables false
set_option linter.unusedSimpArgs false
open Go Go.ChangeShapes Go.WideShapes Go.ChangeAt Go.RowKit

variable {H : Type} {enc : TypeId × Value → H} {P : Program} {w : World} {base : Nat} {sp : Nat → Bool} {held : Bool}

theorem okWide_array {r : Reach} {b0 : Nat} {t : TypeId} {n : Nat} {e : TypeId} {v : Value} (ht : P.underlying t = some (.array n e)) (h : Value.okWide P w r b0 t v) : ∃ cs, v = .agg cs ∧ cs.size = P.cellsOf t := by
  simp only [Value.okWide, ht] at h
  obtain ⟨cs, h1, h2, _⟩ := h
  exact ⟨cs, h1, h2⟩
/-- An array's cells, by its reading. -/
theorem array_each {t : TypeId} {n : Nat} {e : TypeId} {k : IntKind} {fuel : Nat} {cs : List Value} {x : DataW H × List MemPlace} (ht : P.underlying t = some (.array n e)) (he : P.underlying e = some (.int k)) (hc : P.cellsOf e = 1)
    (h : DataW.trod enc P w base sp held fuel t cs = some x) (hl : cs.length = n) : ∃ zs : List Int, cs = zs.map (Value.int k) ∧ ∀ z ∈ zs, (Lit.int k z).wf = true := by
  obtain ⟨xs, m, _, _, _, hxl, hi⟩ := DataW.trod_array ht h
  have each : ∀ i, i < n → ∃ z : Int, cs[i]? = some (.int k z) ∧ (Lit.int k z).wf = true := fun i hin => by
    have h1 := hi i hin
    rw [hc, Nat.mul_one, List.getElem?_eq_getElem (show i < xs.length by omega)] at h1
    have h2 : (cs.drop i).take 1 = [cs[i]'(by omega)] := by
      rw [List.drop_eq_getElem_cons (by omega), List.take_succ_cons, List.take_zero]
    rw [h2] at h1
    obtain ⟨z, hz, hw⟩ := int_at he h1
    exact ⟨z, by rw [List.getElem?_eq_getElem (by omega), hz], hw⟩
  have : Inhabited Int := ⟨0⟩
  obtain ⟨q, hq⟩ := Deep.choose_lt each
  refine ⟨(List.range n).map q, ?_, fun z hz => ?_⟩
  · apply List.ext_getElem?
    intro i
    by_cases hin : i < n
    · rw [(hq i hin).1, List.getElem?_map, List.getElem?_map, List.getElem?_range hin]; rfl
    · rw [List.getElem?_eq_none (by omega), List.getElem?_eq_none (by simp; omega)]
  · obtain ⟨i, hi, rfl⟩ := List.mem_map.1 hz
    exact (hq i (List.mem_range.1 hi)).2
theorem wf_u64_of {n : Int} (h : (Lit.int .u64 n).wf = true) : 0 ≤ n ∧ n < 18446744073709551616 := by
  have : 0 ≤ n ∧ n ≤ 18446744073709551615 := by simpa [Lit.wf, IntKind.min, IntKind.max, IntKind.signed, IntKind.bits] using h
  omega
/-- An array of 64-bit numbers. -/
theorem open_u64s {r : Reach} {b0 : Nat} {t : TypeId} {n : Nat} {e : TypeId} {v : Value} {d : DataW H} {ps : List MemPlace} (ht : P.underlying t = some (.array n e)) (he : P.underlying e = some (.int .u64)) (hc : P.cellsOf e = 1) (hct : P.cellsOf t = n)
    (hv : Value.okWide P w r b0 t v) (h : DataW.Trod enc P w base sp held t v d ps) :
    ∃ l : List Nat, v = .agg (l.map fun x : Nat => Value.int .u64 (x : Int)).toArray ∧ l.length = n ∧ ∀ x ∈ l, x < 18446744073709551616 := by
  obtain ⟨cs, rfl, hsz⟩ := okWide_array ht hv
  obtain ⟨fuel, hf⟩ := h
  have hf' : DataW.trod enc P w base sp held fuel t cs.toList = some (d, ps) := hf
  obtain ⟨zs, hz, hw⟩ := array_each ht he hc hf' (by simp; omega)
  have hzl : zs.length = n := by have := congrArg List.length hz; simp at this; omega
  refine ⟨zs.map Int.toNat, ?_, by simpa using hzl, fun x hx => ?_⟩
  · congr 1
    rw [← Array.toArray_toList (xs := cs), hz]
    congr 1
    rw [List.map_map]
    refine List.map_congr_left fun z hm => ?_
    have := wf_u64_of (hw z hm)
    simp only [Function.comp]
    rw [Int.toNat_of_nonneg this.1]
  · obtain ⟨z, hm, rfl⟩ := List.mem_map.1 hx
    have := wf_u64_of (hw z hm)
    omega
/-- An array of arrays of 64-bit numbers. -/
theorem open_u64ss {r : Reach} {b0 : Nat} {t s : TypeId} {m n : Nat} {e : TypeId} {v : Value} {d : DataW H} {ps : List MemPlace} (ht : P.underlying t = some (.array m s)) (hs : P.underlying s = some (.array n e)) (he : P.underlying e = some (.int .u64)) (hc : P.cellsOf e = 1) (hcs : P.cellsOf s = n) (hct : P.cellsOf t = m * n)
    (hv : Value.okWide P w r b0 t v) (h : DataW.Trod enc P w base sp held t v d ps) :
    ∃ l : List Nat, v = .agg (l.map fun x : Nat => Value.int .u64 (x : Int)).toArray ∧ l.length = m * n ∧ ∀ x ∈ l, x < 18446744073709551616 := by
  obtain ⟨cs, rfl, hsz⟩ := okWide_array ht hv
  obtain ⟨fuel, hf⟩ := h
  have hf' : DataW.trod enc P w base sp held fuel t cs.toList = some (d, ps) := hf
  obtain ⟨xs, k, _, _, _, hxl, hi⟩ := DataW.trod_array ht hf'
  have each : ∀ j, j < m * n → ∃ z : Int, cs.toList[j]? = some (.int .u64 z) ∧ (Lit.int .u64 z).wf = true := fun j hj => by
    have hn0 : 0 < n := by rcases Nat.eq_zero_or_pos n with h | h; subst h; simp at hj; exact h
    have him : j / n < m := by rw [Nat.div_lt_iff_lt_mul hn0]; exact hj
    have h1 := hi (j / n) him
    rw [hcs, List.getElem?_eq_getElem (show j / n < xs.length by omega)] at h1
    have hdm := Nat.div_add_mod j n
    have hmod := Nat.mod_lt j hn0
    have hlen : ((cs.toList.drop (j / n * n)).take n).length = n := by
      rw [List.length_take, List.length_drop]
      have : j / n * n + n ≤ m * n := by rw [← Nat.succ_mul]; exact Nat.mul_le_mul_right _ him
      simp; omega
    obtain ⟨zs, hz, hw⟩ := array_each hs he hc h1 hlen
    have hzl : zs.length = n := by have := congrArg List.length hz; rw [hlen] at this; simpa using this.symm
    have hg : ((cs.toList.drop (j / n * n)).take n)[j % n]? = cs.toList[j]? := by
      rw [List.getElem?_take_of_lt hmod, List.getElem?_drop]
      congr 1
      rw [Nat.mul_comm]; exact hdm
    refine ⟨zs[j % n]'(by omega), ?_, hw _ (List.getElem_mem _)⟩
    rw [← hg, hz, List.getElem?_map, List.getElem?_eq_getElem (by omega)]; rfl
  have : Inhabited Int := ⟨0⟩
  obtain ⟨q, hq⟩ := Deep.choose_lt each
  refine ⟨(List.range (m * n)).map fun i => (q i).toNat, ?_, by simp, fun x hx => ?_⟩
  · congr 1
    rw [← Array.toArray_toList (xs := cs)]
    congr 1
    apply List.ext_getElem?
    intro i
    by_cases hin : i < m * n
    · have := wf_u64_of (hq i hin).2
      rw [(hq i hin).1, List.getElem?_map, List.getElem?_map, List.getElem?_range hin]
      simp only [Option.map_some]
      rw [Int.toNat_of_nonneg this.1]
    · rw [List.getElem?_eq_none (by simp; omega), List.getElem?_eq_none (by simp; omega)]
  · obtain ⟨i, hi, rfl⟩ := List.mem_map.1 hx
    have := wf_u64_of (hq i (List.mem_range.1 hi)).2
    omega

/-- Structs of a number and a text that came in, in a row. -/
def InKT (w : World) (a : Option Addr) (l : List (Int × List UInt8)) : Prop :=
  ∀ i q, l[i]? = some q → ∃ b off, a = some ⟨b, off, none⟩ ∧ b < w.heap.size ∧ w.cell? ⟨b, off + i * 2, none⟩ = some (.int .i64 q.1) ∧ w.cell? ⟨b, off + i * 2 + 1, none⟩ = some (.string ⟨q.2.toArray⟩)
theorem open_kts {r : Reach} {b0 : Nat} {t e : TypeId} {f0 f1 : Field} {v : Value} {d : DataW H} {ps : List MemPlace} (ht : P.underlying t = some (.slice e)) (he : P.underlying e = some (.struct #[f0, f1]))
    (ce : P.cellsOf e = 2) (o0 : f0.offset = 0) (o1 : f1.offset = 1) (c0 : P.cellsOf f0.type = 1) (c1 : P.cellsOf f1.type = 1) (h0 : P.underlying f0.type = some (.int .i64)) (h1 : P.underlying f1.type = some .string)
    (hval : Value.okWide P w r b0 t v) (h : DataW.Trod enc P w base sp held t v d ps) :
    ∃ (a : Option Addr) (c : Nat) (l : List (Int × List UInt8)), v = .slice a l.length c ∧ l.length ≤ maxLen ∧ InKT w a l ∧ ∀ q ∈ l, (Lit.int .i64 q.1).wf = true := by
  obtain ⟨a, n, c, rfl, hn, hx⟩ := sl_rows ht he (by rw [ce]; omega) hval h
  have each : ∀ i, i < n → ∃ q : Int × List UInt8, (∃ b off, a = some ⟨b, off, none⟩ ∧ b < w.heap.size ∧ w.cell? ⟨b, off + i * 2, none⟩ = some (.int .i64 q.1) ∧ w.cell? ⟨b, off + i * 2 + 1, none⟩ = some (.string ⟨q.2.toArray⟩)) ∧ (Lit.int .i64 q.1).wf = true := by
    intro i hi
    obtain ⟨b, off, cs, m, ha, hb, hlen, hcell, hf⟩ := hx i hi
    rw [ce] at hlen hcell
    match cs, hlen with
    | [v0, v1], _ =>
      obtain ⟨y0, g0⟩ := hf 0 f0 rfl
      obtain ⟨y1, g1⟩ := hf 1 f1 rfl
      rw [o0, c0] at g0
      rw [o1, c1] at g1
      simp only [List.drop_succ_cons, List.drop_zero, List.take_succ_cons, List.take_zero] at g0 g1
      obtain ⟨z, rfl, w0⟩ := int_at h0 g0
      obtain ⟨s, rfl⟩ := string_at h1 g1
      exact ⟨(z, s), ⟨b, off, ha, hb, hcell 0 _ rfl, by rw [Nat.add_assoc]; exact hcell 1 _ rfl⟩, w0⟩
  have : Inhabited (Int × List UInt8) := ⟨(0, [])⟩
  obtain ⟨q, hq⟩ := Deep.choose_lt each
  refine ⟨a, c, (List.range n).map q, by simp, by simpa using hn, fun i x hi => ?_, fun x hx => ?_⟩
  · rw [List.getElem?_map] at hi
    by_cases hin : i < n
    · rw [List.getElem?_range hin] at hi
      simp at hi; subst hi
      exact (hq i hin).1
    · rw [List.getElem?_eq_none (by simpa using hin)] at hi; cases hi
  · obtain ⟨i, hi, rfl⟩ := List.mem_map.1 hx
    exact (hq i (List.mem_range.1 hi)).2
end Go.YtndekdafiaogmaaMem
end

section
namespace Go.YtndekdafiaogmaaMem
set_option linter.unusedVariables false
set_option linter.unusedSimpArgs false
open Go Go.ChangeShapes Go.WideShapes Go.ChangeAt Go.RowKit

/-- Structs that came in, in a row of k cells each. -/
def InRow {α : Type} (w : World) (a : Option Addr) (k : Nat) (enc : α → List Value) (l : List α) : Prop :=
  ∀ i q, l[i]? = some q → ∃ b off, a = some ⟨b, off, none⟩ ∧ b < w.heap.size ∧ ∀ j u, (enc q)[j]? = some u → w.cell? ⟨b, off + i * k + j, none⟩ = some u

variable {H : Type} {enc : TypeId × Value → H} {P : Program} {w : World} {base : Nat} {sp : Nat → Bool} {held : Bool}

theorem open_enc {α : Type} [Inhabited α] (tell : α → List Value) (ok : α → Prop) {r : Reach} {b0 : Nat} {t e : TypeId} {fs : Array Field} {k : Nat} {v : Value} {d : DataW H} {ps : List MemPlace} (ht : P.underlying t = some (.slice e)) (he : P.underlying e = some (.struct fs))
    (ce : P.cellsOf e = k) (hk : 0 < k) (hval : Value.okWide P w r b0 t v) (h : DataW.Trod enc P w base sp held t v d ps)
    (each : ∀ (cs : List Value) (m : Nat), cs.length = k → (∀ (j : Nat) (f : Field), fs[j]? = some f → ∃ y, DataW.trod enc P w base sp held m f.type ((cs.drop f.offset).take (P.cellsOf f.type)) = some y) → ∃ q, cs = tell q ∧ ok q) :
    ∃ (a : Option Addr) (c : Nat) (l : List α), v = .slice a l.length c ∧ l.length ≤ maxLen ∧ InRow w a k tell l ∧ ∀ q ∈ l, ok q := by
  obtain ⟨a, n, c, rfl, hn, hx⟩ := sl_rows ht he (by rw [ce]; omega) hval h
  have each' : ∀ i, i < n → ∃ q : α, (∃ b off, a = some ⟨b, off, none⟩ ∧ b < w.heap.size ∧ ∀ j u, (tell q)[j]? = some u → w.cell? ⟨b, off + i * k + j, none⟩ = some u) ∧ ok q := by
    intro i hi
    obtain ⟨b, off, cs, m, ha, hb, hlen, hcell, hf⟩ := hx i hi
    rw [ce] at hlen hcell
    obtain ⟨q, rfl, hq⟩ := each cs m hlen hf
    exact ⟨q, ⟨b, off, ha, hb, fun j u hu => by rw [Nat.add_assoc]; exact hcell j u hu⟩, hq⟩
  obtain ⟨q, hq⟩ := Deep.choose_lt each'
  refine ⟨a, c, (List.range n).map q, by simp, by simpa using hn, fun i x hi => ?_, fun x hx => ?_⟩
  · rw [List.getElem?_map] at hi
    by_cases hin : i < n
    · rw [List.getElem?_range hin] at hi
      simp at hi; subst hi
      exact (hq i hin).1
    · rw [List.getElem?_eq_none (by simpa using hin)] at hi; cases hi
  · obtain ⟨i, hi, rfl⟩ := List.mem_map.1 hx
    exact (hq i (List.mem_range.1 hi)).2

/-- A kind, a key, a time. -/
structure KTA where
  kind : Int
  key : List UInt8
  at_ : Int
deriving Inhabited
def KTA.cells (q : KTA) : List Value := [.int .i64 q.kind, .string ⟨q.key.toArray⟩, .int .i64 q.at_]
def KTA.ok (q : KTA) : Prop := (Lit.int .i64 q.kind).wf = true ∧ (Lit.int .i64 q.at_).wf = true
theorem open_ktas {r : Reach} {b0 : Nat} {t e : TypeId} {f0 f1 f2 : Field} {v : Value} {d : DataW H} {ps : List MemPlace} (ht : P.underlying t = some (.slice e)) (he : P.underlying e = some (.struct #[f0, f1, f2]))
    (ce : P.cellsOf e = 3) (o0 : f0.offset = 0) (o1 : f1.offset = 1) (o2 : f2.offset = 2) (c0 : P.cellsOf f0.type = 1) (c1 : P.cellsOf f1.type = 1) (c2 : P.cellsOf f2.type = 1) (h0 : P.underlying f0.type = some (.int .i64)) (h1 : P.underlying f1.type = some .string) (h2 : P.underlying f2.type = some (.int .i64))
    (hval : Value.okWide P w r b0 t v) (h : DataW.Trod enc P w base sp held t v d ps) :
    ∃ (a : Option Addr) (c : Nat) (l : List KTA), v = .slice a l.length c ∧ l.length ≤ maxLen ∧ InRow w a 3 KTA.cells l ∧ ∀ q ∈ l, q.ok := by
  refine open_enc KTA.cells KTA.ok ht he ce (by omega) hval h fun cs m hlen hf => ?_
  match cs, hlen with
  | [v0, v1, v2], _ =>
    obtain ⟨y0, g0⟩ := hf 0 f0 rfl
    obtain ⟨y1, g1⟩ := hf 1 f1 rfl
    obtain ⟨y2, g2⟩ := hf 2 f2 rfl
    rw [o0, c0] at g0
    rw [o1, c1] at g1
    rw [o2, c2] at g2
    simp only [List.drop_succ_cons, List.drop_zero, List.take_succ_cons, List.take_zero] at g0 g1 g2
    obtain ⟨z, rfl, w0⟩ := int_at h0 g0
    obtain ⟨s, rfl⟩ := string_at h1 g1
    obtain ⟨z2, rfl, w2⟩ := int_at h2 g2
    exact ⟨⟨z, s, z2⟩, rfl, w0, w2⟩
end Go.YtndekdafiaogmaaMem
end
