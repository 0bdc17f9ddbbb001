/- conn's laws: calls as an argument; more of the model's accept. -/
import Derived.Test.YtnhnmpgjbopihaaConnMdl
import Derived.Test.YtnhnmpgjbopihaaRowsArg
import Derived.Test.YtnhnmpgjbopihaaArg
namespace Go.Proofs.Ytnhnmpgjbopihaa.Conn
open Go Go.RowKit Go.YtnhnmpgjbopihaaMem Go.YtnhnmpgjbopihaaLex Go.Proofs.Ytnhnmpgjbopihaa.Frame Go.Proofs.Ytnhnmpgjbopihaa.Out
open Go.ChangeShapes Go.WideShapes Go.ChangeAt
set_option linter.unusedVariables false
set_option linter.unusedSimpArgs false

structure CallV where
  kind : Int
  n : Int
  data : List UInt8
/-- Calls that came in. -/
def InCalls (w : World) (a : Option Addr) (l : List CallV) : Prop :=
  ∀ i q, l[i]? = some q → ∃ b off x p, a = some ⟨b, off, none⟩ ∧ b < w.heap.size ∧ w.cell? ⟨b, off + i * 3, none⟩ = some (.int .i64 q.kind) ∧ w.cell? ⟨b, off + i * 3 + 1, none⟩ = some (.int .i64 q.n) ∧ w.cell? ⟨b, off + i * 3 + 2, none⟩ = some (.slice x q.data.length p) ∧ InB w w.heap.size (.slice x q.data.length p) q.data
theorem open_calls16 {H : Type} {enc : TypeId × Value → H} {w : World} {base : Nat} {sp : Nat → Bool} {held : Bool} {r : Reach} {b0 : Nat} {v : Value} {d : DataW H} {ps : List MemPlace}
    (hv : Value.okWide Try.prog w r b0 54 v) (h : DataW.Trod enc Try.prog w base sp held 54 v d ps) :
    ∃ (a : Option Addr) (c : Nat) (l : List CallV), v = .slice a l.length c ∧ l.length ≤ maxLen ∧ InCalls w a l ∧ ∀ q, q ∈ l → (Lit.int .i64 q.kind).wf = true ∧ (Lit.int .i64 q.n).wf = true := by
  have hc : Try.prog.cellsOf 59 = 3 := by kernel_rfl
  have ci : Try.prog.cellsOf 3 = 1 := by kernel_rfl
  have cb : Try.prog.cellsOf 22 = 1 := by kernel_rfl
  have c8 : Try.prog.cellsOf 5 = 1 := by kernel_rfl
  obtain ⟨a, n, c, rfl, hn, hx⟩ := sl_rows Try.underlying54 Try.underlying59 (by rw [hc]; omega) hv h
  have each : ∀ i, i < n → ∃ q : CallV, (∃ b off x p, a = some ⟨b, off, none⟩ ∧ b < w.heap.size ∧ w.cell? ⟨b, off + i * 3, none⟩ = some (.int .i64 q.kind) ∧ w.cell? ⟨b, off + i * 3 + 1, none⟩ = some (.int .i64 q.n) ∧ w.cell? ⟨b, off + i * 3 + 2, none⟩ = some (.slice x q.data.length p) ∧ InB w w.heap.size (.slice x q.data.length p) q.data) ∧ (Lit.int .i64 q.kind).wf = true ∧ (Lit.int .i64 q.n).wf = true := by
    intro i hi
    obtain ⟨b, off, cs, m, ha, hb, hlen, hcell, hf⟩ := hx i hi
    rw [hc] at hlen hcell
    match cs, hlen with
    | [v0, v1, v2], _ =>
      obtain ⟨y0, h0⟩ := hf 0 _ rfl
      obtain ⟨y1, h1⟩ := hf 1 _ rfl
      obtain ⟨y2, h2⟩ := hf 2 _ rfl
      have h0 : DataW.trod enc Try.prog w base sp held m 3 (([v0, v1, v2].drop 0).take (Try.prog.cellsOf 3)) = some y0 := h0
      have h1 : DataW.trod enc Try.prog w base sp held m 3 (([v0, v1, v2].drop 1).take (Try.prog.cellsOf 3)) = some y1 := h1
      have h2 : DataW.trod enc Try.prog w base sp held m 22 (([v0, v1, v2].drop 2).take (Try.prog.cellsOf 22)) = some y2 := h2
      rw [ci] at h0 h1
      rw [cb] at h2
      simp only [List.drop_succ_cons, List.drop_zero, List.take_succ_cons, List.take_zero] at h0 h1 h2
      obtain ⟨kind, rfl, w0⟩ := int_at Try.underlying3 h0
      obtain ⟨k, rfl, w1⟩ := int_at Try.underlying3 h1
      obtain ⟨data, s2⟩ := sl_bytes_at Try.underlying22 Try.underlying5 c8 h2
      have sI := InB.of s2
      obtain ⟨x, p, rfl⟩ := sI.slice
      have cell : ∀ j u, [Value.int .i64 kind, .int .i64 k, .slice x data.length p][j]? = some u → w.cell? ⟨b, off + i * 3 + j, none⟩ = some u := fun j u hu => by rw [Nat.add_assoc]; exact hcell j u hu
      exact ⟨⟨kind, k, data⟩, ⟨b, off, x, p, ha, hb, cell 0 _ rfl, cell 1 _ rfl, cell 2 _ rfl, sI⟩, w0, w1⟩
  have : Inhabited CallV := ⟨⟨0, 0, []⟩⟩
  obtain ⟨q, hq⟩ := Deep.choose_lt each
  refine ⟨a, c, (List.range n).map q, by simp, by simpa using hn, fun i x hi => ?_, fun x hx => ?_⟩
  · rw [List.getElem?_map] at hi
    by_cases hin : i < n
    · rw [List.getElem?_range hin] at hi
      simp at hi; subst hi
      exact (hq i hin).1
    · rw [List.getElem?_eq_none (by simpa using hin)] at hi; cases hi
  · obtain ⟨i, hi, rfl⟩ := List.mem_map.1 hx
    exact (hq i (List.mem_range.1 hi)).2

theorem mdl_shut {w : World} {mb B : Nat} {vi vo : Value} {inn out : List UInt8} {er : Bool} (h : Mdl w mb B vi vo inn out er false) (a : Option Addr) (n c : Nat) (rules N : Int) :
    Calls Try.prog 19 #[.pointer (some ⟨mb, 0, none⟩), .slice a n c, .int .i64 rules, .int .i64 N] w fun e w' => e = .returned (.tuple #[.int .i64 0, .slice none 0 0]) ∧ w = w' := by
  have c3 := h.blk.cell (i := 3) rfl
  clear h
  go_enter Try.func19, Try.ntmps19
  go_wp2_with fail
  go_ret2
  exact ⟨rfl, rfl⟩
theorem mdl_any {w : World} {mb B N K : Nat} {rules : Int} {vi vo val : Value} {inn bs : List UInt8} (s0 : CS) (hD : Mdl w mb B vi vo inn s0.out (decide (s0.err ≠ 0)) true) (hin : s0.err = 0 → inn = s0.pend) (hq0 : s0.reqs = [])
    (hp0 : s0.pend.length ≤ 100) (ho0 : s0.out.length ≤ N) (hN : N ≤ 1000) (hl : bs.length ≤ 100000) (hI : InB w K val bs) (hK : K ≤ mb) :
    Calls Try.prog 19 #[.pointer (some ⟨mb, 0, none⟩), val, .int .i64 rules, .int .i64 N] w (MAccPost w mb B vi vo (crun rules N s0 bs)) := by
  rcases hI with ⟨rfl, a, c, rfl⟩ | ⟨b, off, cap, rfl, h1, h2, h3, h4⟩
  · have HD := Lib.hid hD
    have c3 := hD.blk.cell (i := 3) rfl
    clear hD
    go_enter Try.func19, Try.ntmps19
    go_wp2_with fail
    refine wp_loop_once ?_
    go_wp2_with fail
    go_ret2
    refine ⟨_, vi, vo, inn, rfl, ?_, HD.out, hin, Mod.refl _ w, fun b h => .inl h, fun b h => .inl h⟩
    show OwnQ w _ _ s0.reqs
    rw [hq0]; exact OwnQ.nil w _
  · exact mdl_accept s0 hD hin hq0 hp0 ho0 hN hl (by omega) h4

theorem cstep_reqs {rules : Int} {N : Nat} {p : List UInt8} {e : Nat} {o : List UInt8} {R r : List Req} {c : UInt8} : cstep rules N ⟨p, e, o, R ++ r⟩ c = (cstep rules N ⟨p, e, o, r⟩ c).map fun s => ⟨s.pend, s.err, s.out, R ++ s.reqs⟩ := by
  simp only [cstep]
  split
  · rfl
  · split
    · split <;> rfl
    · split
      · split
        · rfl
        · simp
      · rfl
theorem crun_reqs {rules : Int} {N : Nat} : ∀ (bs : List UInt8) (s : CS) (R : List Req), crun rules N ⟨s.pend, s.err, s.out, R ++ s.reqs⟩ bs = ((crun rules N s bs).1, ⟨(crun rules N s bs).2.pend, (crun rules N s bs).2.err, (crun rules N s bs).2.out, R ++ (crun rules N s bs).2.reqs⟩)
  | [], s, R => rfl
  | c :: cs, s, R => by
    unfold crun
    rw [cstep_reqs]
    cases h : cstep rules N ⟨s.pend, s.err, s.out, s.reqs⟩ c with
    | none => rfl
    | some t =>
      simp only [Option.map]
      rw [crun_reqs cs t R]
end Go.Proofs.Ytnhnmpgjbopihaa.Conn
