/- A slice of counts as an argument; its numbers are as they may be. -/
import Derived.Test.YtpjmoomjbcplgaaRowsArg
import Derived.Test.YtpjmoomjbcplgaaFrameList
namespace Go.Proofs.Ytpjmoomjbcplgaa.Frame
open Go Go.RowKit Go.YtpjmoomjbcplgaaMem Go.ChangeShapes Go.WideShapes Go.ChangeAt
set_option linter.unusedVariables false
set_option linter.unusedSimpArgs false

theorem open_counts2 {H : Type} {enc : TypeId × Value → H} {w : World} {base : Nat} {sp : Nat → Bool} {held : Bool} {r : Reach} {b0 : Nat} {v : Value} {d : DataW H} {ps : List MemPlace}
    (hv : Value.okWide Try.prog w r b0 31 v) (h : DataW.Trod enc Try.prog w base sp held 31 v d ps) :
    ∃ (a : Option Addr) (c : Nat) (l : List Cnt), v = .slice a l.length c ∧ l.length ≤ maxLen ∧ InC w a l ∧ ∀ q, q ∈ l → (Lit.int .i64 q.n).wf = true ∧ (Lit.int .i64 q.e).wf = true := by
  have hc : Try.prog.cellsOf 34 = 3 := by kernel_rfl
  have ci : Try.prog.cellsOf 2 = 1 := by kernel_rfl
  have cst : Try.prog.cellsOf 9 = 1 := by kernel_rfl
  obtain ⟨a, n, c, rfl, hn, hx⟩ := sl_rows Try.underlying31 Try.underlying34 (by rw [hc]; omega) hv h
  have each : ∀ i, i < n → ∃ q : Cnt, ((Lit.int .i64 q.n).wf = true ∧ (Lit.int .i64 q.e).wf = true) ∧ ∃ b off, a = some ⟨b, off, none⟩ ∧ b < w.heap.size ∧ ∀ j u, q.cells[j]? = some u → w.cell? ⟨b, off + i * 3 + j, none⟩ = some u := by
    intro i hi
    obtain ⟨b, off, cs, m, ha, hb, hlen, hcell, hf⟩ := hx i hi
    rw [hc] at hlen hcell
    match cs, hlen with
    | [v0, v1, v2], _ =>
      obtain ⟨y0, h0⟩ := hf 0 _ rfl
      obtain ⟨y1, h1⟩ := hf 1 _ rfl
      obtain ⟨y2, h2⟩ := hf 2 _ rfl
      have h0 : DataW.trod enc Try.prog w base sp held m 9 (([v0, v1, v2].drop 0).take (Try.prog.cellsOf 9)) = some y0 := h0
      have h1 : DataW.trod enc Try.prog w base sp held m 2 (([v0, v1, v2].drop 1).take (Try.prog.cellsOf 2)) = some y1 := h1
      have h2 : DataW.trod enc Try.prog w base sp held m 2 (([v0, v1, v2].drop 2).take (Try.prog.cellsOf 2)) = some y2 := h2
      rw [ci] at h1 h2
      rw [cst] at h0
      simp only [List.drop_succ_cons, List.drop_zero, List.take_succ_cons, List.take_zero] at h0 h1 h2
      obtain ⟨key, rfl⟩ := string_at Try.underlying9 h0
      obtain ⟨n, rfl, w1⟩ := int_at Try.underlying2 h1
      obtain ⟨e, rfl, w2⟩ := int_at Try.underlying2 h2
      exact ⟨⟨key, n, e⟩, ⟨w1, w2⟩, b, off, ha, hb, fun j u hu => by rw [Nat.add_assoc]; exact hcell j u hu⟩
  have : Inhabited Cnt := ⟨⟨[], 0, 0⟩⟩
  obtain ⟨q, hq⟩ := Deep.choose_lt each
  refine ⟨a, c, (List.range n).map q, by simp, by simpa using hn, fun i x hi => ?_, fun x hx => ?_⟩
  rotate_left
  · obtain ⟨i, hi, rfl⟩ := List.mem_map.1 hx
    exact (hq i (List.mem_range.1 hi)).1
  rw [List.getElem?_map] at hi
  by_cases hin : i < n
  · rw [List.getElem?_range hin] at hi
    simp at hi; subst hi
    exact (hq i hin).2
  · rw [List.getElem?_eq_none (by simpa using hin)] at hi; cases hi
end Go.Proofs.Ytpjmoomjbcplgaa.Frame
