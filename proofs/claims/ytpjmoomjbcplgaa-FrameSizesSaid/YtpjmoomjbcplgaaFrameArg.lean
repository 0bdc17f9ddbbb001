/- frame: a request as an argument. -/
import Derived.Test.YtpjmoomjbcplgaaFrameA
import Derived.Test.YtpjmoomjbcplgaaArg
namespace Go.Proofs.Ytpjmoomjbcplgaa.Frame
open Go Go.RowKit Go.YtpjmoomjbcplgaaMem Go.ChangeShapes Go.WideShapes Go.ChangeAt
set_option linter.unusedVariables false
set_option linter.unusedSimpArgs false

theorem open_req {H : Type} {enc : TypeId × Value → H} {w : World} {base : Nat} {sp : Nat → Bool} {held : Bool} {r : Reach} {b0 : Nat} {v : Value} {d : DataW H} {ps : List MemPlace}
    (hv : Value.okWide Try.prog w r b0 24 v) (h : DataW.Trod enc Try.prog w base sp held 24 v d ps) :
    ∃ q : Req, v = q.val ∧ q.cost < 4294967296 ∧ (Lit.int .i64 q.op).wf = true ∧ (Lit.int .i64 q.rule).wf = true ∧ (Lit.int .i64 q.k).wf = true := by
  obtain ⟨cs, rfl, hsz, n, hf⟩ := open_flds Try.underlying24 hv h
  have hc : Try.prog.cellsOf 24 = 5 := by kernel_rfl
  have ci : Try.prog.cellsOf 3 = 1 := by kernel_rfl
  have cu : Try.prog.cellsOf 22 = 1 := by kernel_rfl
  have cst : Try.prog.cellsOf 9 = 1 := by kernel_rfl
  rw [hc] at hsz
  obtain ⟨l⟩ := cs
  match l, hsz with
  | [v0, v1, v2, v3, v4], _ =>
    obtain ⟨y0, h0⟩ := hf 0 _ rfl
    obtain ⟨y1, h1⟩ := hf 1 _ rfl
    obtain ⟨y2, h2⟩ := hf 2 _ rfl
    obtain ⟨y3, h3⟩ := hf 3 _ rfl
    obtain ⟨y4, h4⟩ := hf 4 _ rfl
    simp only [ci, cu, cst, List.drop_succ_cons, List.drop_zero, List.take_succ_cons, List.take_zero] at h0 h1 h2 h3 h4
    obtain ⟨op, rfl, w0⟩ := int_at Try.underlying3 h0
    obtain ⟨rule, rfl, w1⟩ := int_at Try.underlying3 h1
    obtain ⟨cost, rfl, w2⟩ := int_at Try.underlying22 h2
    obtain ⟨key, rfl⟩ := string_at Try.underlying9 h3
    obtain ⟨k, rfl, w4⟩ := int_at Try.underlying3 h4
    have hw : 0 ≤ cost ∧ cost ≤ 4294967295 := by simpa [Lit.wf, IntKind.min, IntKind.max, IntKind.signed, IntKind.bits] using w2
    refine ⟨⟨op, rule, cost.toNat, key, k⟩, ?_, by show cost.toNat < _; omega, w0, w1, w4⟩
    simp only [Req.val]
    rw [Int.toNat_of_nonneg hw.1]
end Go.Proofs.Ytpjmoomjbcplgaa.Frame
