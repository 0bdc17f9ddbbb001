/- Arrays of whole numbers as arguments; structs of an int and a text. Over any program. -/
import Derived.Test.YtajadfoannmaiaaRowsArg
namespace Go.YtajadfoannmaiaaMem
set_option linter.unusedVariables false
set_option linter.unusedSimpArgs false
open Go Go.ChangeShapes Go.WideShapes Go.ChangeAt Go.RowKit

variable {H : Type} {enc : TypeId × Value → H} {P : Program} {w : World} {base : Nat} {sp : Nat → Bool} {held : Bool}

theorem okWide_array {r : Reach} {b0 : Nat} {t : TypeId} {n : Nat} {e : TypeId} {v : Value} (ht : P.underlying t = some (.array n e)) (h : Value.okWide P w r b0 t v) : ∃ cs, v = .agg cs ∧ cs.size = P.cellsOf t := by
  simp only [Value.okWide, ht] at h
  obtain ⟨cs, h1, h2, _⟩ := h
  exact ⟨cs, h1, h2⟩
/-- An array's cells, by its reading. -/
theorem array_each {t : TypeId} {n : Nat} {e : TypeId} {k : IntKind} {fuel : Nat} {cs : List Value} {x : DataW H × List MemPlace} (ht : P.underlying t = some (.array n e)) (he : P.underlying e = some (.int k)) (hc : P.cellsOf e = 1)
    (h : DataW.trod enc P w base sp held fuel t cs = some x) (hl : cs.length = n) : ∃ zs : List Int, cs = zs.map (Value.int k) ∧ ∀ z ∈ zs, (Lit.int k z).wf = true := by
  obtain ⟨xs, m, _, _, _, hxl, hi⟩ := DataW.trod_array ht h
  have each : ∀ i, i < n → ∃ z : Int, cs[i]? = some (.int k z) ∧ (Lit.int k z).wf = true := fun i hin => by
    have h1 := hi i hin
    rw [hc, Nat.mul_one, List.getElem?_eq_getElem (show i < xs.length by omega)] at h1
    have h2 : (cs.drop i).take 1 = [cs[i]'(by omega)] := by
      rw [List.drop_eq_getElem_cons (by omega), List.take_succ_cons, List.take_zero]
    rw [h2] at h1
    obtain ⟨z, hz, hw⟩ := int_at he h1
    exact ⟨z, by rw [List.getElem?_eq_getElem (by omega), hz], hw⟩
  have : Inhabited Int := ⟨0⟩
  obtain ⟨q, hq⟩ := Deep.choose_lt each
  refine ⟨(List.range n).map q, ?_, fun z hz => ?_⟩
  · apply List.ext_getElem?
    intro i
    by_cases hin : i < n
    · rw [(hq i hin).1, List.getElem?_map, List.getElem?_map, List.getElem?_range hin]; rfl
    · rw [List.getElem?_eq_none (by omega), List.getElem?_eq_none (by simp; omega)]
  · obtain ⟨i, hi, rfl⟩ := List.mem_map.1 hz
    exact (hq i (List.mem_range.1 hi)).2
theorem wf_u64_of {n : Int} (h : (Lit.int .u64 n).wf = true) : 0 ≤ n ∧ n < 18446744073709551616 := by
  have : 0 ≤ n ∧ n ≤ 18446744073709551615 := by simpa [Lit.wf, IntKind.min, IntKind.max, IntKind.signed, IntKind.bits] using h
  omega
/-- An array of 64-bit numbers. -/
theorem open_u64s {r : Reach} {b0 : Nat} {t : TypeId} {n : Nat} {e : TypeId} {v : Value} {d : DataW H} {ps : List MemPlace} (ht : P.underlying t = some (.array n e)) (he : P.underlying e = some (.int .u64)) (hc : P.cellsOf e = 1) (hct : P.cellsOf t = n)
    (hv : Value.okWide P w r b0 t v) (h : DataW.Trod enc P w base sp held t v d ps) :
    ∃ l : List Nat, v = .agg (l.map fun x : Nat => Value.int .u64 (x : Int)).toArray ∧ l.length = n ∧ ∀ x ∈ l, x < 18446744073709551616 := by
  obtain ⟨cs, rfl, hsz⟩ := okWide_array ht hv
  obtain ⟨fuel, hf⟩ := h
  have hf' : DataW.trod enc P w base sp held fuel t cs.toList = some (d, ps) := hf
  obtain ⟨zs, hz, hw⟩ := array_each ht he hc hf' (by simp; omega)
  have hzl : zs.length = n := by have := congrArg List.length hz; simp at this; omega
  refine ⟨zs.map Int.toNat, ?_, by simpa using hzl, fun x hx => ?_⟩
  · congr 1
    rw [← Array.toArray_toList (xs := cs), hz]
    congr 1
    rw [List.map_map]
    refine List.map_congr_left fun z hm => ?_
    have := wf_u64_of (hw z hm)
    simp only [Function.comp]
    rw [Int.toNat_of_nonneg this.1]
  · obtain ⟨z, hm, rfl⟩ := List.mem_map.1 hx
    have := wf_u64_of (hw z hm)
    omega
/-- An array of arrays of 64-bit numbers. -/
theorem open_u64ss {r : Reach} {b0 : Nat} {t s : TypeId} {m n : Nat} {e : TypeId} {v : Value} {d : DataW H} {ps : List MemPlace} (ht : P.underlying t = some (.array m s)) (hs : P.underlying s = some (.array n e)) (he : P.underlying e = some (.int .u64)) (hc : P.cellsOf e = 1) (hcs : P.cellsOf s = n) (hct : P.cellsOf t = m * n)
    (hv : Value.okWide P w r b0 t v) (h : DataW.Trod enc P w base sp held t v d ps) :
    ∃ l : List Nat, v = .agg (l.map fun x : Nat => Value.int .u64 (x : Int)).toArray ∧ l.length = m * n ∧ ∀ x ∈ l, x < 18446744073709551616 := by
  obtain ⟨cs, rfl, hsz⟩ := okWide_array ht hv
  obtain ⟨fuel, hf⟩ := h
  have hf' : DataW.trod enc P w base sp held fuel t cs.toList = some (d, ps) := hf
  obtain ⟨xs, k, _, _, _, hxl, hi⟩ := DataW.trod_array ht hf'
  have each : ∀ j, j < m * n → ∃ z : Int, cs.toList[j]? = some (.int .u64 z) ∧ (Lit.int .u64 z).wf = true := fun j hj => by
    have hn0 : 0 < n := by rcases Nat.eq_zero_or_pos n with h | h; subst h; simp at hj; exact h
    have him : j / n < m := by rw [Nat.div_lt_iff_lt_mul hn0]; exact hj
    have h1 := hi (j / n) him
    rw [hcs, List.getElem?_eq_getElem (show j / n < xs.length by omega)] at h1
    have hdm := Nat.div_add_mod j n
    have hmod := Nat.mod_lt j hn0
    have hlen : ((cs.toList.drop (j / n * n)).take n).length = n := by
      rw [List.length_take, List.length_drop]
      have : j / n * n + n ≤ m * n := by rw [← Nat.succ_mul]; exact Nat.mul_le_mul_right _ him
      simp; omega
    obtain ⟨zs, hz, hw⟩ := array_each hs he hc h1 hlen
    have hzl : zs.length = n := by have := congrArg List.length hz; rw [hlen] at this; simpa using this.symm
    have hg : ((cs.toList.drop (j / n * n)).take n)[j % n]? = cs.toList[j]? := by
      rw [List.getElem?_take_of_lt hmod, List.getElem?_drop]
      congr 1
      rw [Nat.mul_comm]; exact hdm
    refine ⟨zs[j % n]'(by omega), ?_, hw _ (List.getElem_mem _)⟩
    rw [← hg, hz, List.getElem?_map, List.getElem?_eq_getElem (by omega)]; rfl
  have : Inhabited Int := ⟨0⟩
  obtain ⟨q, hq⟩ := Deep.choose_lt each
  refine ⟨(List.range (m * n)).map fun i => (q i).toNat, ?_, by simp, fun x hx => ?_⟩
  · congr 1
    rw [← Array.toArray_toList (xs := cs)]
    congr 1
    apply List.ext_getElem?
    intro i
    by_cases hin : i < m * n
    · have := wf_u64_of (hq i hin).2
      rw [(hq i hin).1, List.getElem?_map, List.getElem?_map, List.getElem?_range hin]
      simp only [Option.map_some]
      rw [Int.toNat_of_nonneg this.1]
    · rw [List.getElem?_eq_none (by simp; omega), List.getElem?_eq_none (by simp; omega)]
  · obtain ⟨i, hi, rfl⟩ := List.mem_map.1 hx
    have := wf_u64_of (hq i (List.mem_range.1 hi)).2
    omega

/-- Structs of a number and a text that came in, in a row. -/
def InKT (w : World) (a : Option Addr) (l : List (Int × List UInt8)) : Prop :=
  ∀ i q, l[i]? = some q → ∃ b off, a = some ⟨b, off, none⟩ ∧ b < w.heap.size ∧ w.cell? ⟨b, off + i * 2, none⟩ = some (.int .i64 q.1) ∧ w.cell? ⟨b, off + i * 2 + 1, none⟩ = some (.string ⟨q.2.toArray⟩)
theorem open_kts {r : Reach} {b0 : Nat} {t e : TypeId} {f0 f1 : Field} {v : Value} {d : DataW H} {ps : List MemPlace} (ht : P.underlying t = some (.slice e)) (he : P.underlying e = some (.struct #[f0, f1]))
    (ce : P.cellsOf e = 2) (o0 : f0.offset = 0) (o1 : f1.offset = 1) (c0 : P.cellsOf f0.type = 1) (c1 : P.cellsOf f1.type = 1) (h0 : P.underlying f0.type = some (.int .i64)) (h1 : P.underlying f1.type = some .string)
    (hval : Value.okWide P w r b0 t v) (h : DataW.Trod enc P w base sp held t v d ps) :
    ∃ (a : Option Addr) (c : Nat) (l : List (Int × List UInt8)), v = .slice a l.length c ∧ l.length ≤ maxLen ∧ InKT w a l ∧ ∀ q ∈ l, (Lit.int .i64 q.1).wf = true := by
  obtain ⟨a, n, c, rfl, hn, hx⟩ := sl_rows ht he (by rw [ce]; omega) hval h
  have each : ∀ i, i < n → ∃ q : Int × List UInt8, (∃ b off, a = some ⟨b, off, none⟩ ∧ b < w.heap.size ∧ w.cell? ⟨b, off + i * 2, none⟩ = some (.int .i64 q.1) ∧ w.cell? ⟨b, off + i * 2 + 1, none⟩ = some (.string ⟨q.2.toArray⟩)) ∧ (Lit.int .i64 q.1).wf = true := by
    intro i hi
    obtain ⟨b, off, cs, m, ha, hb, hlen, hcell, hf⟩ := hx i hi
    rw [ce] at hlen hcell
    match cs, hlen with
    | [v0, v1], _ =>
      obtain ⟨y0, g0⟩ := hf 0 f0 rfl
      obtain ⟨y1, g1⟩ := hf 1 f1 rfl
      rw [o0, c0] at g0
      rw [o1, c1] at g1
      simp only [List.drop_succ_cons, List.drop_zero, List.take_succ_cons, List.take_zero] at g0 g1
      obtain ⟨z, rfl, w0⟩ := int_at h0 g0
      obtain ⟨s, rfl⟩ := string_at h1 g1
      exact ⟨(z, s), ⟨b, off, ha, hb, hcell 0 _ rfl, by rw [Nat.add_assoc]; exact hcell 1 _ rfl⟩, w0⟩
  have : Inhabited (Int × List UInt8) := ⟨(0, [])⟩
  obtain ⟨q, hq⟩ := Deep.choose_lt each
  refine ⟨a, c, (List.range n).map q, by simp, by simpa using hn, fun i x hi => ?_, fun x hx => ?_⟩
  · rw [List.getElem?_map] at hi
    by_cases hin : i < n
    · rw [List.getElem?_range hin] at hi
      simp at hi; subst hi
      exact (hq i hin).1
    · rw [List.getElem?_eq_none (by simpa using hin)] at hi; cases hi
  · obtain ⟨i, hi, rfl⟩ := List.mem_map.1 hx
    exact (hq i (List.mem_range.1 hi)).2
end Go.YtajadfoannmaiaaMem
