/- A slice of structs as an argument, each told by a plain value. Over any program. -/
import Derived.Test.YtajadfoannmaiaaArrArg
namespace Go.YtajadfoannmaiaaMem
set_option linter.unusedVariables false
set_option linter.unusedSimpArgs false
open Go Go.ChangeShapes Go.WideShapes Go.ChangeAt Go.RowKit

/-- Structs that came in, in a row of k cells each. -/
def InRow {α : Type} (w : World) (a : Option Addr) (k : Nat) (enc : α → List Value) (l : List α) : Prop :=
  ∀ i q, l[i]? = some q → ∃ b off, a = some ⟨b, off, none⟩ ∧ b < w.heap.size ∧ ∀ j u, (enc q)[j]? = some u → w.cell? ⟨b, off + i * k + j, none⟩ = some u

variable {H : Type} {enc : TypeId × Value → H} {P : Program} {w : World} {base : Nat} {sp : Nat → Bool} {held : Bool}

theorem open_enc {α : Type} [Inhabited α] (tell : α → List Value) (ok : α → Prop) {r : Reach} {b0 : Nat} {t e : TypeId} {fs : Array Field} {k : Nat} {v : Value} {d : DataW H} {ps : List MemPlace} (ht : P.underlying t = some (.slice e)) (he : P.underlying e = some (.struct fs))
    (ce : P.cellsOf e = k) (hk : 0 < k) (hval : Value.okWide P w r b0 t v) (h : DataW.Trod enc P w base sp held t v d ps)
    (each : ∀ (cs : List Value) (m : Nat), cs.length = k → (∀ (j : Nat) (f : Field), fs[j]? = some f → ∃ y, DataW.trod enc P w base sp held m f.type ((cs.drop f.offset).take (P.cellsOf f.type)) = some y) → ∃ q, cs = tell q ∧ ok q) :
    ∃ (a : Option Addr) (c : Nat) (l : List α), v = .slice a l.length c ∧ l.length ≤ maxLen ∧ InRow w a k tell l ∧ ∀ q ∈ l, ok q := by
  obtain ⟨a, n, c, rfl, hn, hx⟩ := sl_rows ht he (by rw [ce]; omega) hval h
  have each' : ∀ i, i < n → ∃ q : α, (∃ b off, a = some ⟨b, off, none⟩ ∧ b < w.heap.size ∧ ∀ j u, (tell q)[j]? = some u → w.cell? ⟨b, off + i * k + j, none⟩ = some u) ∧ ok q := by
    intro i hi
    obtain ⟨b, off, cs, m, ha, hb, hlen, hcell, hf⟩ := hx i hi
    rw [ce] at hlen hcell
    obtain ⟨q, rfl, hq⟩ := each cs m hlen hf
    exact ⟨q, ⟨b, off, ha, hb, fun j u hu => by rw [Nat.add_assoc]; exact hcell j u hu⟩, hq⟩
  obtain ⟨q, hq⟩ := Deep.choose_lt each'
  refine ⟨a, c, (List.range n).map q, by simp, by simpa using hn, fun i x hi => ?_, fun x hx => ?_⟩
  · rw [List.getElem?_map] at hi
    by_cases hin : i < n
    · rw [List.getElem?_range hin] at hi
      simp at hi; subst hi
      exact (hq i hin).1
    · rw [List.getElem?_eq_none (by simpa using hin)] at hi; cases hi
  · obtain ⟨i, hi, rfl⟩ := List.mem_map.1 hx
    exact (hq i (List.mem_range.1 hi)).2

/-- A kind, a key, a time. -/
structure KTA where
  kind : Int
  key : List UInt8
  at_ : Int
deriving Inhabited
def KTA.cells (q : KTA) : List Value := [.int .i64 q.kind, .string ⟨q.key.toArray⟩, .int .i64 q.at_]
def KTA.ok (q : KTA) : Prop := (Lit.int .i64 q.kind).wf = true ∧ (Lit.int .i64 q.at_).wf = true
theorem open_ktas {r : Reach} {b0 : Nat} {t e : TypeId} {f0 f1 f2 : Field} {v : Value} {d : DataW H} {ps : List MemPlace} (ht : P.underlying t = some (.slice e)) (he : P.underlying e = some (.struct #[f0, f1, f2]))
    (ce : P.cellsOf e = 3) (o0 : f0.offset = 0) (o1 : f1.offset = 1) (o2 : f2.offset = 2) (c0 : P.cellsOf f0.type = 1) (c1 : P.cellsOf f1.type = 1) (c2 : P.cellsOf f2.type = 1) (h0 : P.underlying f0.type = some (.int .i64)) (h1 : P.underlying f1.type = some .string) (h2 : P.underlying f2.type = some (.int .i64))
    (hval : Value.okWide P w r b0 t v) (h : DataW.Trod enc P w base sp held t v d ps) :
    ∃ (a : Option Addr) (c : Nat) (l : List KTA), v = .slice a l.length c ∧ l.length ≤ maxLen ∧ InRow w a 3 KTA.cells l ∧ ∀ q ∈ l, q.ok := by
  refine open_enc KTA.cells KTA.ok ht he ce (by omega) hval h fun cs m hlen hf => ?_
  match cs, hlen with
  | [v0, v1, v2], _ =>
    obtain ⟨y0, g0⟩ := hf 0 f0 rfl
    obtain ⟨y1, g1⟩ := hf 1 f1 rfl
    obtain ⟨y2, g2⟩ := hf 2 f2 rfl
    rw [o0, c0] at g0
    rw [o1, c1] at g1
    rw [o2, c2] at g2
    simp only [List.drop_succ_cons, List.drop_zero, List.take_succ_cons, List.take_zero] at g0 g1 g2
    obtain ⟨z, rfl, w0⟩ := int_at h0 g0
    obtain ⟨s, rfl⟩ := string_at h1 g1
    obtain ⟨z2, rfl, w2⟩ := int_at h2 g2
    exact ⟨⟨z, s, z2⟩, rfl, w0, w2⟩
end Go.YtajadfoannmaiaaMem
