/- summary's laws: fit, row, light; Bytes; nil. -/
import Derived.Test.YtpobjhmfidebbaaSum8
import Derived.Test.YtpobjhmfidebbaaEncArg
namespace Go.Proofs.Ytpobjhmfidebbaa.Sum
open Go Go.RowKit Go.YtpobjhmfidebbaaMem Go.YtpobjhmfidebbaaLex Go.YtpobjhmfidebbaaRange Go.Proofs.Ytpobjhmfidebbaa.Hash Go.Proofs.Ytpobjhmfidebbaa.Keys Go.Proofs.Ytpobjhmfidebbaa.Index
set_option linter.unusedVariables false
set_option linter.unusedSimpArgs false

set_option maxRecDepth 4000 in
set_option maxHeartbeats 1600000 in
theorem fit_any (w : World) : Calls Try.prog 11 #[] w fun e w' => e = .returned (.bool true) ∧ Mod [] w w' := by
  have N0 := Lib.hid (fun W : World => new_any 1 (by omega) (by omega) ⟨1, 1, 0⟩ ⟨by decide, by decide, by decide⟩ W)
  have F1 := Lib.hid (fun (W : World) (B : SB) (h : SumAt W B 1 [] 0) => offer_any h (by omega) (by simp) (by simp) (by omega) [97] (by simp) 3 (by omega))
  have o1 : offer 1 ([], 0) [97] 3 = ([⟨[97], 3, 0⟩], 3) := by decide
  rw [o1] at F1
  have F2 := Lib.hid (fun (W : World) (B : SB) (h : SumAt W B 1 [⟨[97], 3, 0⟩] 3) => offer_any h (by omega) (by simp) (by simp) (by omega) [98] (by simp) 1 (by omega))
  have o2 : offer 1 ([⟨[97], 3, 0⟩], 3) [98] 1 = ([⟨[98], 4, 3⟩], 4) := by decide
  rw [o2] at F2
  have F3 := Lib.hid (fun (W : World) (B : SB) (h : SumAt W B 1 [⟨[98], 4, 3⟩] 4) => count_any h [98] (by simp))
  have o3 : countE [⟨[98], 4, 3⟩] [98] = (4, 3, true) := by decide
  rw [o3] at F3
  clear o1 o2 o3
  go_enter Try.func11, Try.ntmps11
  go_wp2_with fail
  refine (N0.out _).mono ?_
  rintro e1 w1 ⟨B, rfl, hA, hB, hM⟩
  have A1 := Lib.hid hA
  have M1 := Lib.hid hM
  have BL := Lib.hid hB
  clear hA hM hB
  go_wp2_with fail
  refine (F1.out _ B A1.out).mono ?_
  rintro e2 w2 ⟨⟨v2, rfl⟩, hA, hM⟩
  have A2 := Lib.hid hA
  have M2 := Lib.hid (M1.out.trans' hM (fun b hb => .inr (BL.out b hb)))
  clear hA hM
  go_wp2_with fail
  refine (F2.out _ B A2.out).mono ?_
  rintro e3 w3 ⟨⟨v3, rfl⟩, hA, hM⟩
  have A3 := Lib.hid hA
  have M3 := Lib.hid (M2.out.trans' hM (fun b hb => .inr (BL.out b hb)))
  clear hA hM
  go_wp2_with fail
  refine (F3.out _ B A3.out).mono ?_
  rintro e4 w4 ⟨rfl, hM⟩
  have A4 := Lib.hid (A3.out.mod hM (by simp))
  have M4 := Lib.hid (M3.out.trans hM)
  have TT := Lib.hid (total_any A4.out)
  clear hM
  go_wp2_with fail
  refine TT.out.mono ?_
  rintro e5 w5 ⟨rfl, rfl⟩
  go_wp2_with fail
  go_ret
  exact ⟨rfl, M4.out⟩
/-- The function that a law's three draws give. -/
def v3 (a b c : Nat) : Value := .agg #[.int .u64 (a : Int), .int .u64 (b : Int), .int .u64 (c : Int)]
def RowPost (l : List Nat) (w : World) (e : Ending) (w' : World) : Prop :=
  e = .returned (.agg #[.int .u64 ((rowOf l).x : Int), .int .u64 ((rowOf l).a : Int), .int .u64 ((rowOf l).b : Int)]) ∧ Mod [] w w'
set_option maxRecDepth 4000 in
theorem row_any (a b c : Nat) (ha : a < 18446744073709551616) (hb : b < 18446744073709551616) (hc : c < 18446744073709551616) (w : World) :
    Calls Try.prog 14 #[v3 a b c] w (RowPost [a, b, c] w) := by
  unfold v3 RowPost
  have HB := Lib.hid (Blk.new w [.int .u64 (a : Int), .int .u64 (b : Int), .int .u64 (c : Int)] 23)
  have R : Hid (∀ W, Mod [] (w.alloc (.cells #[.int .u64 (a : Int), .int .u64 (b : Int), .int .u64 (c : Int)] 23)) W → Calls Try.prog 27 #[.slice (some ⟨w.heap.size, 0, none⟩) 3 3, .int .i64 1] W (RowsPost [a, b, c] W)) := Lib.hid fun W hM => by
    refine rows_one (l := [a, b, c]) (.inr ⟨w.heap.size, 0, 3, rfl, by simp [v64], by unfold maxLen; omega, hM.lt (by simp), fun i u hu => ?_⟩) (fun x hx => by simp at hx; omega)
    rw [Nat.zero_add]
    exact (hM.blk HB.out (by simp)).cell (by exact hu)
  obtain ⟨r, hr⟩ : ∃ r, rowOf [a, b, c] = r := ⟨_, rfl⟩
  unfold RowsPost at R
  rw [hr] at R ⊢
  have k0 := HB.out.cell (i := 0) rfl
  clear hr
  obtain ⟨rx, ra, rb⟩ := r
  simp only at *
  go_enter Try.func14, Try.ntmps14
  go_wp2_with fail
  refine (R.out _ ((Mod.refl [] _).alloc _)).mono ?_
  rintro e1 w1 ⟨g, cp, rfl, hg, hgl, hc1, hc2, hcell, hM1⟩
  have M1 := Lib.hid hM1
  have q0 := hcell 0 _ rfl
  have q1 := hcell 1 _ rfl
  have q2 := hcell 2 _ rfl
  have B2 := Blk.new (w.alloc (.cells #[.int .u64 (a : Int), .int .u64 (b : Int), .int .u64 (c : Int)] 23)) [.int .u64 0, .int .u64 0, .int .u64 0] 30
  rw [show (w.alloc (.cells #[.int .u64 (a : Int), .int .u64 (b : Int), .int .u64 (c : Int)] 23)).heap.size = w.heap.size + 1 by simp] at B2
  have B3 := hM1.blk B2 (by simp)
  have r0 := B3.cell (i := 0) rfl
  have r1 := B3.cell (i := 1) rfl
  have r2 := B3.cell (i := 2) rfl
  have f0 := B3.free 0
  have f1 := B3.free 1
  have f2 := B3.free 2
  have HB3 := Lib.hid B3
  clear hM1 hcell B2 B3
  go_wp2_with fail
  have B4 := ((HB3.out.set 0 (.int .u64 (rx : Int))).set 1 (.int .u64 (ra : Int))).set 2 (.int .u64 (rb : Int))
  refine bodyPost_ret (v := .agg #[.int .u64 (rx : Int), .int .u64 (ra : Int), .int .u64 (rb : Int)]) (results_cell_row (p := 2) (ty := 30) rfl _ _ (w.heap.size + 1) 30 #[.int .u64 (rx : Int), .int .u64 (ra : Int), .int .u64 (rb : Int)] (0, 0) _ rfl B4 Try.underlying30 rfl (by kernel_rfl)) rfl ⟨rfl, ?_⟩
  have MA := ((Mod.refl [] w).alloc (.cells #[.int .u64 (a : Int), .int .u64 (b : Int), .int .u64 (c : Int)] 23)).alloc (.cells #[.int .u64 0, .int .u64 0, .int .u64 0] 30)
  have hs : w.heap.size ≤ w.heap.size + 1 := by omega
  exact (((MA.trans M1.out).setCell (p := ⟨w.heap.size + 1, 0, none⟩) (.inr hs) _).setCell (p := ⟨w.heap.size + 1, 1, none⟩) (.inr hs) _).setCell (p := ⟨w.heap.size + 1, 2, none⟩) (.inr hs) _

/-- A key and a weight. -/
structure KW where
  key : List UInt8
  w : Int
deriving Inhabited
def KW.cells (q : KW) : List Value := [.string ⟨q.key.toArray⟩, .int .i64 q.w]
def KW.ok (q : KW) : Prop := (Lit.int .i64 q.w).wf = true
open Go.ChangeShapes Go.WideShapes Go.ChangeAt in
theorem open_kws {H : Type} {enc : TypeId × Value → H} {P : Program} {w : World} {base : Nat} {sp : Nat → Bool} {held : Bool} {r : Reach} {b0 : Nat} {t e : TypeId} {f0 f1 : Field} {v : Value} {d : DataW H} {ps : List MemPlace} (ht : P.underlying t = some (.slice e)) (he : P.underlying e = some (.struct #[f0, f1]))
    (ce : P.cellsOf e = 2) (o0 : f0.offset = 0) (o1 : f1.offset = 1) (c0 : P.cellsOf f0.type = 1) (c1 : P.cellsOf f1.type = 1) (h0 : P.underlying f0.type = some .string) (h1 : P.underlying f1.type = some (.int .i64))
    (hval : Value.okWide P w r b0 t v) (h : DataW.Trod enc P w base sp held t v d ps) :
    ∃ (a : Option Addr) (c : Nat) (l : List KW), v = .slice a l.length c ∧ l.length ≤ maxLen ∧ InRow w a 2 KW.cells l ∧ ∀ q ∈ l, q.ok := by
  refine open_enc KW.cells KW.ok ht he ce (by omega) hval h fun cs m hlen hf => ?_
  match cs, hlen with
  | [v0, v1], _ =>
    obtain ⟨y0, g0⟩ := hf 0 f0 rfl
    obtain ⟨y1, g1⟩ := hf 1 f1 rfl
    rw [o0, c0] at g0
    rw [o1, c1] at g1
    simp only [List.drop_succ_cons, List.drop_zero, List.take_succ_cons, List.take_zero] at g0 g1
    obtain ⟨s, rfl⟩ := string_at h0 g0
    obtain ⟨z, rfl, w1⟩ := int_at h1 g1
    exact ⟨⟨s, z⟩, rfl, w1⟩
/-- Are calls few, with short keys? -/
def lightB (l : List KW) : Bool := decide (l.length ≤ 150) && l.all fun q => decide (q.key.length ≤ 100)
set_option maxRecDepth 4000 in
set_option maxHeartbeats 1600000 in
theorem light_any {w : World} {a : Option Addr} {l : List KW} (hP : InRow w a 2 KW.cells l) (hm : l.length ≤ maxLen) (c : Nat) :
    Calls Try.prog 12 #[.slice a l.length c] w fun e w' => e = .returned (.bool (lightB l)) ∧ Mod [] w w' := by
  unfold maxLen at hm
  by_cases h150 : l.length ≤ 150
  · have d1 : decide ((150 : Int) < (l.length : Int)) = false := by simp; omega
    have hb : lightB l = l.all fun q => decide (q.key.length ≤ 100) := by unfold lightB; simp [h150]
    rw [hb]
    have HP := Lib.hid hP
    clear hP hb
    go_enter Try.func12, Try.ntmps12
    go_wp2_with fail
    go_loopw [10] (fun i wr => ∃ j : Nat, j ≤ l.length ∧ i = .int .i64 (j : Int) ∧ (∀ q ∈ l.take j, q.key.length ≤ 100) ∧ Mod [] w wr) (fun i _ => l.length - (intOf i).toNat)
    case atStart => exact ⟨0, Nat.zero_le _, rfl, by simp, Mod.refl _ _⟩
    case round =>
      obtain ⟨j, hj, rfl, hq, hM⟩ := hrel
      have MR := Lib.hid hM
      have HQ := Lib.hid hq
      by_cases hlt : j < l.length
      · obtain ⟨q, hg⟩ : ∃ q, l[j]? = some q := ⟨_, List.getElem?_eq_getElem hlt⟩
        obtain ⟨b, off, rfl, hb, hcell⟩ := HP.out j q hg
        obtain ⟨key, z⟩ := q
        have c0 := (hM.cell (a := ⟨b, off + j * 2, none⟩) hb (by simp)).trans (hcell 0 _ rfl)
        have c1 := (hM.cell (a := ⟨b, off + j * 2 + 1, none⟩) hb (by simp)).trans (hcell 1 _ rfl)
        simp only at c0 c1
        have HG := Lib.hid hg
        have hsz : (ByteArray.mk key.toArray).size = key.length := by simp [ByteArray.size]
        have A1 := Lib.hid ((Mod.refl [] wr).alloc (.cells #[.string ⟨key.toArray⟩, .int .i64 z] 34))
        clear hg hcell hM hq
        by_cases h100 : key.length ≤ 100
        · have d2 : decide ((100 : Int) < (key.length : Int)) = false := by simp; omega
          have d3 : decide (100 < key.length) = false := by simp; omega
          have hkl : key.length < 1000 := by omega
          go_wp2_with fail
          go_roundw
          case rel =>
            refine ⟨j + 1, by omega, by go_num, fun q hq => ?_, MR.out.trans A1.out⟩
            rw [List.take_add_one, HG.out] at hq
            rcases List.mem_append.1 hq with h | h
            · exact HQ.out q h
            · simp at h; subst h; exact h100
          case measure => simp [intOf]; omega
        · have d2 : decide ((100 : Int) < (key.length : Int)) = true := by simp; omega
          have d3 : decide (100 < key.length) = true := by simp; omega
          go_wp2_with fail
          go_ret
          refine ⟨?_, MR.out.trans A1.out⟩
          have : (l.all fun q => decide (q.key.length ≤ 100)) = false := by
            rw [List.all_eq_false]
            exact ⟨_, List.mem_of_getElem? HG.out, by simpa using h100⟩
          rw [this]; rfl
      · obtain rfl : j = l.length := by omega
        clear hM hq
        go_wp2_with fail
        go_ret
        refine ⟨?_, MR.out⟩
        have : (l.all fun q => decide (q.key.length ≤ 100)) = true := by
          rw [List.all_eq_true]
          intro q hq
          have := HQ.out q (by rw [List.take_length]; exact hq)
          simpa using this
        rw [this]; rfl
  · have d1 : decide ((150 : Int) < (l.length : Int)) = true := by simp; omega
    have hb : lightB l = false := by unfold lightB; simp [h150]
    rw [hb]
    clear hP hb
    go_enter Try.func12, Try.ntmps12
    go_wp2_with fail
    go_ret
    exact ⟨rfl, Mod.refl _ _⟩
end Go.Proofs.Ytpobjhmfidebbaa.Sum
