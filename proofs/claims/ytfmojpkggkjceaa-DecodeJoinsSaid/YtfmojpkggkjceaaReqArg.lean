/- A slice of requests as an argument. -/
import Derived.Test.YtfmojpkggkjceaaRowsArg
import Derived.Test.YtfmojpkggkjceaaFrameA
namespace Go.Proofs.Ytfmojpkggkjceaa.Frame
open Go Go.RowKit Go.YtfmojpkggkjceaaMem Go.ChangeShapes Go.WideShapes Go.ChangeAt
set_option linter.unusedVariables false
set_option linter.unusedSimpArgs false

/-- Requests that came in. -/
def InQ (w : World) (a : Option Addr) (l : List Req) : Prop :=
  ∀ i q, l[i]? = some q → ∃ b off, a = some ⟨b, off, none⟩ ∧ b < w.heap.size ∧ ∀ j u, q.cells[j]? = some u → w.cell? ⟨b, off + i * 5 + j, none⟩ = some u

theorem open_reqs {H : Type} {enc : TypeId × Value → H} {w : World} {base : Nat} {sp : Nat → Bool} {held : Bool} {r : Reach} {b0 : Nat} {v : Value} {d : DataW H} {ps : List MemPlace}
    (hv : Value.okWide Try.prog w r b0 43 v) (h : DataW.Trod enc Try.prog w base sp held 43 v d ps) :
    ∃ (a : Option Addr) (c : Nat) (l : List Req), v = .slice a l.length c ∧ l.length ≤ maxLen ∧ InQ w a l ∧ ∀ q, q ∈ l → q.cost < 4294967296 := by
  have hc : Try.prog.cellsOf 32 = 5 := by kernel_rfl
  have ci : Try.prog.cellsOf 3 = 1 := by kernel_rfl
  have cu : Try.prog.cellsOf 30 = 1 := by kernel_rfl
  have cst : Try.prog.cellsOf 9 = 1 := by kernel_rfl
  obtain ⟨a, n, c, rfl, hn, hx⟩ := sl_rows Try.underlying43 Try.underlying32 (by rw [hc]; omega) hv h
  have each : ∀ i, i < n → ∃ q : Req, (∃ b off, a = some ⟨b, off, none⟩ ∧ b < w.heap.size ∧ ∀ j u, q.cells[j]? = some u → w.cell? ⟨b, off + i * 5 + j, none⟩ = some u) ∧ q.cost < 4294967296 := by
    intro i hi
    obtain ⟨b, off, cs, m, ha, hb, hlen, hcell, hf⟩ := hx i hi
    rw [hc] at hlen hcell
    match cs, hlen with
    | [v0, v1, v2, v3, v4], _ =>
      obtain ⟨y0, h0⟩ := hf 0 _ rfl
      obtain ⟨y1, h1⟩ := hf 1 _ rfl
      obtain ⟨y2, h2⟩ := hf 2 _ rfl
      obtain ⟨y3, h3⟩ := hf 3 _ rfl
      obtain ⟨y4, h4⟩ := hf 4 _ rfl
      have h0 : DataW.trod enc Try.prog w base sp held m 3 (([v0, v1, v2, v3, v4].drop 0).take (Try.prog.cellsOf 3)) = some y0 := h0
      have h1 : DataW.trod enc Try.prog w base sp held m 3 (([v0, v1, v2, v3, v4].drop 1).take (Try.prog.cellsOf 3)) = some y1 := h1
      have h2 : DataW.trod enc Try.prog w base sp held m 30 (([v0, v1, v2, v3, v4].drop 2).take (Try.prog.cellsOf 30)) = some y2 := h2
      have h3 : DataW.trod enc Try.prog w base sp held m 9 (([v0, v1, v2, v3, v4].drop 3).take (Try.prog.cellsOf 9)) = some y3 := h3
      have h4 : DataW.trod enc Try.prog w base sp held m 3 (([v0, v1, v2, v3, v4].drop 4).take (Try.prog.cellsOf 3)) = some y4 := h4
      rw [ci] at h0 h1 h4
      rw [cu] at h2
      rw [cst] at h3
      simp only [List.drop_succ_cons, List.drop_zero, List.take_succ_cons, List.take_zero] at h0 h1 h2 h3 h4
      obtain ⟨op, rfl, w0⟩ := int_at Try.underlying3 h0
      obtain ⟨rule, rfl, w1⟩ := int_at Try.underlying3 h1
      obtain ⟨cost, rfl, w2⟩ := int_at Try.underlying30 h2
      obtain ⟨key, rfl⟩ := string_at Try.underlying9 h3
      obtain ⟨k, rfl, w4⟩ := int_at Try.underlying3 h4
      have hw : 0 ≤ cost ∧ cost ≤ 4294967295 := by simpa [Lit.wf, IntKind.min, IntKind.max, IntKind.signed, IntKind.bits] using w2
      refine ⟨⟨op, rule, cost.toNat, key, k⟩, ⟨b, off, ha, hb, fun j u hu => by rw [Nat.add_assoc]; refine hcell j u ?_; simp only [Req.cells] at hu; rw [Int.toNat_of_nonneg hw.1] at hu; exact hu⟩, by show cost.toNat < _; omega⟩
  have : Inhabited Req := ⟨⟨0, 0, 0, [], 0⟩⟩
  obtain ⟨q, hq⟩ := Deep.choose_lt each
  refine ⟨a, c, (List.range n).map q, by simp, by simpa using hn, fun i x hi => ?_, fun x hx => ?_⟩
  · rw [List.getElem?_map] at hi
    by_cases hin : i < n
    · rw [List.getElem?_range hin] at hi
      simp at hi; subst hi
      exact (hq i hin).1
    · rw [List.getElem?_eq_none (by simpa using hin)] at hi; cases hi
  · obtain ⟨i, hi, rfl⟩ := List.mem_map.1 hx
    exact (hq i (List.mem_range.1 hi)).2
end Go.Proofs.Ytfmojpkggkjceaa.Frame
