/- frame: an answer and totals as arguments. -/
import Derived.Test.YtpjmoomjbcplgaaFrameA
import Derived.Test.YtpjmoomjbcplgaaArg
namespace Go.Proofs.Ytpjmoomjbcplgaa.Frame
open Go Go.RowKit Go.YtpjmoomjbcplgaaMem Go.ChangeShapes Go.WideShapes Go.ChangeAt
set_option linter.unusedVariables false
set_option linter.unusedSimpArgs false

theorem open_ans {H : Type} {enc : TypeId × Value → H} {w : World} {base : Nat} {sp : Nat → Bool} {held : Bool} {r : Reach} {b0 : Nat} {v : Value} {d : DataW H} {ps : List MemPlace}
    (hv : Value.okWide Try.prog w r b0 43 v) (h : DataW.Trod enc Try.prog w base sp held 43 v d ps) :
    ∃ a b c : Int, v = .agg #[.int .i64 a, .int .i64 b, .int .i64 c] ∧ (Lit.int .i64 a).wf = true ∧ (Lit.int .i64 b).wf = true ∧ (Lit.int .i64 c).wf = true := by
  obtain ⟨cs, rfl, hsz, n, hf⟩ := open_flds Try.underlying43 hv h
  have hc : Try.prog.cellsOf 43 = 3 := by kernel_rfl
  have ci : Try.prog.cellsOf 3 = 1 := by kernel_rfl
  have cl : Try.prog.cellsOf 2 = 1 := by kernel_rfl
  rw [hc] at hsz
  obtain ⟨l⟩ := cs
  match l, hsz with
  | [v0, v1, v2], _ =>
    obtain ⟨y0, h0⟩ := hf 0 _ rfl
    obtain ⟨y1, h1⟩ := hf 1 _ rfl
    obtain ⟨y2, h2⟩ := hf 2 _ rfl
    simp only [ci, cl, List.drop_succ_cons, List.drop_zero, List.take_succ_cons, List.take_zero] at h0 h1 h2
    obtain ⟨a, rfl, w0⟩ := int_at Try.underlying3 h0
    obtain ⟨b, rfl, w1⟩ := int_at Try.underlying2 h1
    obtain ⟨c, rfl, w2⟩ := int_at Try.underlying2 h2
    exact ⟨a, b, c, rfl, w0, w1, w2⟩
theorem open_tot {H : Type} {enc : TypeId × Value → H} {w : World} {base : Nat} {sp : Nat → Bool} {held : Bool} {r : Reach} {b0 : Nat} {v : Value} {d : DataW H} {ps : List MemPlace}
    (hv : Value.okWide Try.prog w r b0 40 v) (h : DataW.Trod enc Try.prog w base sp held 40 v d ps) :
    ∃ a b c d e : Int, v = .agg #[.int .i64 a, .int .i64 b, .int .i64 c, .int .i64 d, .int .i64 e] ∧ (Lit.int .i64 a).wf = true ∧ (Lit.int .i64 b).wf = true ∧ (Lit.int .i64 c).wf = true ∧ (Lit.int .i64 d).wf = true ∧ (Lit.int .i64 e).wf = true := by
  obtain ⟨cs, rfl, hsz, n, hf⟩ := open_flds Try.underlying40 hv h
  have hc : Try.prog.cellsOf 40 = 5 := by kernel_rfl
  have ci : Try.prog.cellsOf 3 = 1 := by kernel_rfl
  have cl : Try.prog.cellsOf 2 = 1 := by kernel_rfl
  rw [hc] at hsz
  obtain ⟨l⟩ := cs
  match l, hsz with
  | [v0, v1, v2, v3, v4], _ =>
    obtain ⟨y0, h0⟩ := hf 0 _ rfl
    obtain ⟨y1, h1⟩ := hf 1 _ rfl
    obtain ⟨y2, h2⟩ := hf 2 _ rfl
    obtain ⟨y3, h3⟩ := hf 3 _ rfl
    obtain ⟨y4, h4⟩ := hf 4 _ rfl
    simp only [ci, cl, List.drop_succ_cons, List.drop_zero, List.take_succ_cons, List.take_zero] at h0 h1 h2 h3 h4
    obtain ⟨a, rfl, w0⟩ := int_at Try.underlying2 h0
    obtain ⟨b, rfl, w1⟩ := int_at Try.underlying2 h1
    obtain ⟨c, rfl, w2⟩ := int_at Try.underlying2 h2
    obtain ⟨d, rfl, w3⟩ := int_at Try.underlying3 h3
    obtain ⟨e, rfl, w4⟩ := int_at Try.underlying2 h4
    exact ⟨a, b, c, d, e, rfl, w0, w1, w2, w3, w4⟩
end Go.Proofs.Ytpjmoomjbcplgaa.Frame
