/- frame's laws: FrameAnswers: answers come back from their bytes, each with nothing left. No condition. -/
import Derived.Test.YtpjmoomjbcplgaaReadBack
import Derived.Test.YtpjmoomjbcplgaaRefAns
import Derived.Test.YtpjmoomjbcplgaaFrameFit
import Derived.Test.YtpjmoomjbcplgaaFrameLarge
import Derived.Test.YtpjmoomjbcplgaaFrameReq
namespace Go.Proofs.Ytpjmoomjbcplgaa.Frame
open Go Go.RowKit Go.YtpjmoomjbcplgaaMem Go.YtpjmoomjbcplgaaLex
set_option linter.unusedVariables false
set_option linter.unusedSimpArgs false

set_option maxRecDepth 4000 in
set_option maxHeartbeats 6400000 in
theorem answers_main (w : World) (op : Int) (v r t a b c d e : Int) (hw : (Lit.int .i64 op).wf = true) (hv : (Lit.int .i64 v).wf = true) (hr : (Lit.int .i64 r).wf = true) (ht : (Lit.int .i64 t).wf = true) (ha : (Lit.int .i64 a).wf = true) (hb : (Lit.int .i64 b).wf = true) (hc : (Lit.int .i64 c).wf = true)
    (hd : (Lit.int .i64 d).wf = true) (he : (Lit.int .i64 e).wf = true) :
    Calls Try.prog 10 #[.int .i64 op, .agg #[.int .i64 v, .int .i64 r, .int .i64 t], .agg #[.int .i64 a, .int .i64 b, .int .i64 c, .int .i64 d, .int .i64 e]] w (TruePost w) := by
  obtain ⟨o, hoe⟩ : ∃ o, o = op % 2 + 1 := ⟨_, rfl⟩
  have hand : bits .and .i64 op 1 = o - 1 := by rw [hoe, show op % 2 + 1 - 1 = op % 2 by omega]; exact and_mask op 1 (by decide)
  have ho : o = 1 ∨ o = 2 := by omega
  have ho2 : 1 ≤ o ∧ o ≤ 2 := by omega
  obtain ⟨y, hy, hy1, hy2⟩ : ∃ y : Int, v.tmod 3 = y ∧ -3 < y ∧ y < 3 := ⟨_, rfl, Int.lt_tmod_of_pos v (by omega), Int.tmod_lt_of_pos v (by omega)⟩
  obtain ⟨m, hm, hm1, hm2⟩ : ∃ m : Int, (y + 3).tmod 3 = m ∧ 0 ≤ m ∧ m < 3 := ⟨_, rfl, by rw [Int.tmod_eq_emod_of_nonneg (by omega)]; omega, Int.tmod_lt_of_pos _ (by omega)⟩
  have HO := Lib.hid ho
  have RA := Lib.hid (ans_read (op := o) (v := m + 1) (r := r) (t := t) ho (by omega) (wf64 hr) (wf64 ht))
  have RT := Lib.hid (tot_read (rule := o) (a := a) (b := b) (c := c) (d := d) (e := e) (by omega) (wf64 ha) (wf64 hb) (wf64 hc) (wf64 hd) (wf64 he))
  have B1 := Lib.hid ((Blk.new w [.int .i64 v, .int .i64 r, .int .i64 t] 43).alloc (.cells #[.int .i64 a, .int .i64 b, .int .i64 c, .int .i64 d, .int .i64 e] 40))
  have hb2 := Blk.new (w.alloc (.cells #[.int .i64 v, .int .i64 r, .int .i64 t] 43)) [.int .i64 a, .int .i64 b, .int .i64 c, .int .i64 d, .int .i64 e] 40
  rw [show (w.alloc (.cells #[.int .i64 v, .int .i64 r, .int .i64 t] 43)).heap.size = w.heap.size + 1 by simp] at hb2
  have B2 := Lib.hid hb2
  clear hb2
  have M0 := Lib.hid (((Mod.refl [] w).alloc (.cells #[.int .i64 v, .int .i64 r, .int .i64 t] 43)).alloc (.cells #[.int .i64 a, .int .i64 b, .int .i64 c, .int .i64 d, .int .i64 e] 40))
  have HOE := Lib.hid hoe
  clear hv hr ht ha hb hc hd he hw ho hoe
  generalize hbA : frame 0xA8 ([b8 (bits .or .i64 o 128), b8 (m + 1)] ++ be 8 (u64 r) ++ be 8 (u64 t)) = bA at *
  generalize hbT : frame 0xA8 ([131, b8 o] ++ nums [a, b, c, d, e]) = bT at *
  have HBA := Lib.hid hbA
  have HBT := Lib.hid hbT
  have LA : Hid (bA.length = 22) := Lib.hid (by rw [← hbA]; simp [frame, be_length])
  have LT : Hid (bT.length = 46) := Lib.hid (by rw [← hbT]; simp [frame, nums_length])
  clear hbA hbT
  go_enter Try.func10, Try.ntmps10
  go_wp2_with fail
  refine (fit_any _).mono ?_
  rintro e1 w1 ⟨rfl, hM1⟩
  have b1 := hM1.blk B1.out (by simp)
  have k0 := b1.cell (i := 0) rfl
  have k1 := b1.cell (i := 1) rfl
  have k2 := b1.cell (i := 2) rfl
  have f0 := b1.free 0
  have BA := Lib.hid (b1.set 0 (.int .i64 (m + 1)))
  have BT := Lib.hid ((hM1.blk B2.out (by simp)).other (a := ⟨w.heap.size, 0, none⟩) (by simp) (.int .i64 (m + 1)))
  have M1 := Lib.hid ((M0.out.trans hM1).setCell (p := ⟨w.heap.size, 0, none⟩) (by simp) (.int .i64 (m + 1)))
  clear hM1 b1
  go_wp2_with fail
  clear k0 k1 k2 f0
  refine (answered_any _ o (m + 1) r t).mono ?_
  rintro e2 w2 ⟨v2, rfl, ho2, hM2⟩
  rw [HBA.out] at ho2
  obtain ⟨g2, c2, rfl, hg2, hl2, hx2⟩ := own_one ho2 (by rw [LA.out]; omega)
  clear hg2 hl2 hx2
  have O2 := Lib.hid ho2
  have BA2 := Lib.hid (hM2.blk BA.out (by simp))
  have BT2 := Lib.hid (hM2.blk BT.out (by simp))
  have M2 := Lib.hid (M1.out.trans hM2)
  clear ho2 hM2
  go_wp2_with fail
  refine (readFrame (Sl.own O2.out) (by rw [LA.out]; omega)).mono ?_
  rintro e3 w3 ⟨hM3, hcase⟩
  rcases hcase with ⟨hn, -⟩ | ⟨s3, l3, x3, n3, hs3, rfl, ho3⟩
  · rw [RA.out] at hn; cases hn
  rw [RA.out] at hs3
  injection hs3 with q1
  injection q1 with q1 q2
  injection q2 with q2 q3
  subst q1; subst q2; subst q3
  obtain ⟨a3, c3, rfl⟩ := own_slice ho3
  have O3 : Hid (OwnB w3 _ _ bA) := Lib.hid (hM3.own O2.out (fun b hb => by simp))
  have BA3 := Lib.hid (hM3.blk BA2.out (by simp))
  have BT3 := Lib.hid ((hM3.blk BT2.out (by simp)).alloc (.cells ((⟨o, 0, m + 1, r, t, 0, 0, 0, 0, 0, 0⟩ : Said).cells (.slice a3 0 c3)).toArray 55))
  have S3 := Lib.hid (Blk.new w3 ((⟨o, 0, m + 1, r, t, 0, 0, 0, 0, 0, 0⟩ : Said).cells (.slice a3 0 c3)) 55)
  have M3 := Lib.hid ((M2.out.trans hM3).alloc (.cells ((⟨o, 0, m + 1, r, t, 0, 0, 0, 0, 0, 0⟩ : Said).cells (.slice a3 0 c3)).toArray 55))
  have O3' : Hid (OwnB (w3.alloc (.cells ((⟨o, 0, m + 1, r, t, 0, 0, 0, 0, 0, 0⟩ : Said).cells (.slice a3 0 c3)).toArray 55)) _ _ bA) := Lib.hid (O3.out.alloc _)
  clear hM3 ho3
  have t0 := BT3.out.cell (i := 0) rfl
  have t1 := BT3.out.cell (i := 1) rfl
  have t2 := BT3.out.cell (i := 2) rfl
  have t3 := BT3.out.cell (i := 3) rfl
  have t4 := BT3.out.cell (i := 4) rfl
  simp only [Said.cells, List.length_nil] at t0 t1 t2 t3 t4 ⊢
  go_wp2_with fail
  clear t0 t1 t2 t3 t4
  refine (totalled_any _ o a b c d e).mono ?_
  rintro e4 w4 ⟨v4, rfl, ho4, hM4⟩
  rw [HBT.out] at ho4
  obtain ⟨g4, c4, rfl, hg4, hl4, hx4⟩ := own_one ho4 (by rw [LT.out]; omega)
  clear hg4 hl4 hx4
  have O4 := Lib.hid ho4
  have P4 : Hid (OwnB w4 _ _ bA) := Lib.hid (hM4.own O3'.out (fun b hb => by simp))
  have BA4 := Lib.hid (hM4.blk (BA3.out.alloc (.cells ((⟨o, 0, m + 1, r, t, 0, 0, 0, 0, 0, 0⟩ : Said).cells (.slice a3 0 c3)).toArray 55)) (by simp))
  have BT4 := Lib.hid (hM4.blk BT3.out (by simp))
  have S4 := Lib.hid (hM4.blk S3.out (by simp))
  have M4 := Lib.hid (M3.out.trans hM4)
  clear ho4 hM4
  go_wp2_with fail
  refine (readFrame (Sl.own O4.out) (by rw [LT.out]; omega)).mono ?_
  rintro e5 w5 ⟨hM5, hcase⟩
  rcases hcase with ⟨hn, -⟩ | ⟨s5, l5, x5, n5, hs5, rfl, ho5⟩
  · rw [RT.out] at hn; cases hn
  rw [RT.out] at hs5
  injection hs5 with q1
  injection q1 with q1 q2
  injection q2 with q2 q3
  subst q1; subst q2; subst q3
  obtain ⟨a5, c5, rfl⟩ := own_slice ho5
  have O5 : Hid (OwnB (w5.alloc (.cells ((⟨3, o, 0, 0, 0, a, b, c, d, e, 0⟩ : Said).cells (.slice a5 0 c5)).toArray 55)) _ _ bT) := Lib.hid (OwnB.alloc (hM5.own O4.out (fun b hb => by simp)) _)
  have P5 : Hid (OwnB (w5.alloc (.cells ((⟨3, o, 0, 0, 0, a, b, c, d, e, 0⟩ : Said).cells (.slice a5 0 c5)).toArray 55)) _ _ bA) := Lib.hid (OwnB.alloc (hM5.own P4.out (fun b hb => by simp)) _)
  have BA5 := Lib.hid ((hM5.blk BA4.out (by simp)).alloc (.cells ((⟨3, o, 0, 0, 0, a, b, c, d, e, 0⟩ : Said).cells (.slice a5 0 c5)).toArray 55))
  have BT5 := Lib.hid ((hM5.blk BT4.out (by simp)).alloc (.cells ((⟨3, o, 0, 0, 0, a, b, c, d, e, 0⟩ : Said).cells (.slice a5 0 c5)).toArray 55))
  have S5 := Lib.hid ((hM5.blk S4.out (by simp)).alloc (.cells ((⟨3, o, 0, 0, 0, a, b, c, d, e, 0⟩ : Said).cells (.slice a5 0 c5)).toArray 55))
  have U5 := Lib.hid (Blk.new w5 ((⟨3, o, 0, 0, 0, a, b, c, d, e, 0⟩ : Said).cells (.slice a5 0 c5)) 55)
  have M5 := Lib.hid ((M4.out.trans hM5).alloc (.cells ((⟨3, o, 0, 0, 0, a, b, c, d, e, 0⟩ : Said).cells (.slice a5 0 c5)).toArray 55))
  clear hM5 ho5
  have k0 := BA5.out.cell (i := 0) rfl
  have k1 := BA5.out.cell (i := 1) rfl
  have k2 := BA5.out.cell (i := 2) rfl
  have cv := own_str (P := Try.prog) (w := (w5.alloc (.cells ((⟨3, o, 0, 0, 0, a, b, c, d, e, 0⟩ : Said).cells (.slice a5 0 c5)).toArray 55)).drew) P5.out Try.underlying28 Try.underlying5 Try.underlying9
  simp only [Said.cells, List.length_nil] at k0 k1 k2 cv ⊢
  go_wp2_with fail
  have iscA : IsC (w5.alloc (.cells ((⟨3, o, 0, 0, 0, a, b, c, d, e, 0⟩ : Said).cells (.slice a5 0 c5)).toArray 55)).drew g2 := by
    obtain ⟨g, c, e, -, -, hx⟩ := own_one P5.out (by rw [LA.out]; omega)
    injection e with e1; injection e1 with e1; injection e1 with e1
    subst e1
    exact isC_of_cell (hx 0 _ (nb_get (by rw [LA.out]; omega)))
  have iscT : IsC (w5.alloc (.cells ((⟨3, o, 0, 0, 0, a, b, c, d, e, 0⟩ : Said).cells (.slice a5 0 c5)).toArray 55)).drew g4 := by
    obtain ⟨g, c, e, -, -, hx⟩ := own_one O5.out (by rw [LT.out]; omega)
    injection e with e1; injection e1 with e1; injection e1 with e1
    subst e1
    exact isC_of_cell (hx 0 _ (nb_get (by rw [LT.out]; omega)))
  have IA := Lib.hid iscA
  have IT := Lib.hid iscT
  clear iscA iscT
  refine wp_region_held [5, 29] [1, 30] [] (by kernel_rfl) (by kernel_rfl) ?_
  simp only [wpCut, List.take_succ_cons, List.take_zero, List.drop_succ_cons, List.drop_zero, List.cons_append, List.nil_append]
  go_wp2_with fail
  clear cv k0 k1 k2
  refine (refAnswered _ o (m + 1) r t (by omega)).mono ?_
  rintro e6 w6 ⟨v6, rfl, ho6, hM6⟩
  have hb6 : frame 0xA8 ([b8 (128 + o), b8 (m + 1)] ++ be 8 (u64 r) ++ be 8 (u64 t)) = bA := by
    rw [← HBA.out, show b8 (128 + o) = b8 (bits .or .i64 o 128) by rcases HO.out with rfl | rfl <;> decide]
  rw [hb6] at ho6
  clear hb6
  obtain ⟨a6, c6, rfl⟩ := own_slice ho6
  have O6 : Hid (OwnB w6 _ _ bT) := Lib.hid (hM6.own O5.out (fun b hb => by simp))
  have BA6 := Lib.hid (hM6.blk BA5.out (by simp))
  have BT6 := Lib.hid (hM6.blk BT5.out (by simp))
  have S6 := Lib.hid (hM6.blk S5.out (by simp))
  have U6 := Lib.hid (hM6.blk U5.out (by simp))
  have N6 := Lib.hid hM6
  have M6 := Lib.hid (M5.out.drew.trans hM6)
  have cv6 := own_str (P := Try.prog) ho6 Try.underlying28 Try.underlying5 Try.underlying9
  have cvT := own_str (P := Try.prog) O6.out Try.underlying28 Try.underlying5 Try.underlying9
  clear ho6 hM6
  have k0 := BA6.out.cell (i := 0) rfl
  have k1 := BA6.out.cell (i := 1) rfl
  have k2 := BA6.out.cell (i := 2) rfl
  have s0 := S6.out.cell (i := 0) rfl
  have s2 := S6.out.cell (i := 2) rfl
  have s3 := S6.out.cell (i := 3) rfl
  have s4 := S6.out.cell (i := 4) rfl
  have t0 := BT6.out.cell (i := 0) rfl
  have t1 := BT6.out.cell (i := 1) rfl
  have t2 := BT6.out.cell (i := 2) rfl
  have t3 := BT6.out.cell (i := 3) rfl
  have t4 := BT6.out.cell (i := 4) rfl
  have eA : ((22 : Int) == (bA.length : Int)) = true := by rw [LA.out]; rfl
  go_wp2_with fail
  refine ⟨N6.out, ?_⟩
  go_wp2_with fail
  clear cv6 cvT k0 k1 k2 s0 s2 s3 s4 t0 t1 t2 t3 t4
  refine (refTotalled _ o a b c d e).mono ?_
  rintro e7 w7 ⟨v7, rfl, ho7, hM7⟩
  rw [HBT.out] at ho7
  obtain ⟨a7, c7, rfl⟩ := own_slice ho7
  have U7 := hM7.blk U6.out (by simp)
  have BT7 := hM7.blk BT6.out (by simp)
  have N7 := Lib.hid (N6.out.trans hM7)
  have M7 := Lib.hid (M6.out.trans hM7)
  have N7' := Lib.hid hM7
  have cv7 := own_str (P := Try.prog) ho7 Try.underlying28 Try.underlying5 Try.underlying9
  have u0 := U7.cell (i := 0) rfl
  have u1 := U7.cell (i := 1) rfl
  have u5 := U7.cell (i := 5) rfl
  have u6 := U7.cell (i := 6) rfl
  have u7 := U7.cell (i := 7) rfl
  have u8 := U7.cell (i := 8) rfl
  have u9 := U7.cell (i := 9) rfl
  have t0 := BT7.cell (i := 0) rfl
  have t1 := BT7.cell (i := 1) rfl
  have t2 := BT7.cell (i := 2) rfl
  have t3 := BT7.cell (i := 3) rfl
  have t4 := BT7.cell (i := 4) rfl
  have eT : ((46 : Int) == (bT.length : Int)) = true := by rw [LT.out]; rfl
  have eA' : ((bA.length : Int) == 22) = true := by rw [LA.out]; rfl
  have eT' : ((bT.length : Int) == 46) = true := by rw [LT.out]; rfl
  have LG1 : Hid (∀ W : World, Calls Try.prog 26 #[.agg #[.int .i64 o, .int .i64 0, .int .u32 0, .string ⟨#[]⟩, .int .i64 0], .int .i64 1] W fun e w' => e = .returned (.int .i64 22) ∧ Mod [] W w') := Lib.hid fun W => by
    have h := largest_any W ⟨o, 0, 0, [], 0⟩ 1 (by show (0 : Int) ≤ 100000; omega) (by omega)
    have hl : largest ⟨o, 0, 0, [], 0⟩ 1 = 22 := by unfold largest; rw [if_neg (by show ¬ o = 3; omega), if_neg (by show ¬ o = 4; omega)]
    rw [hl] at h; exact h
  have LG2 : Hid (∀ W : World, Calls Try.prog 26 #[.agg #[.int .i64 3, .int .i64 0, .int .u32 0, .string ⟨#[]⟩, .int .i64 0], .int .i64 1] W fun e w' => e = .returned (.int .i64 46) ∧ Mod [] W w') := Lib.hid fun W => by
    have h := largest_any W ⟨3, 0, 0, [], 0⟩ 1 (by show (0 : Int) ≤ 100000; omega) (by omega)
    exact h
  clear hM7 ho7 U7 BT7
  go_wp2_with fail
  refine ⟨N7.out, ?_⟩
  go_wp2_with fail
  refine (LG1.out _).mono ?_
  rintro e8 w8 ⟨rfl, hM8⟩
  have N8 := Lib.hid (N7.out.trans hM8)
  have M8 := Lib.hid (M7.out.trans hM8)
  clear hM8 u0 u1 u5 u6 u7 u8 u9 t0 t1 t2 t3 t4 cv7
  go_wp2_with fail
  refine (LG2.out _).mono ?_
  rintro e9 w9 ⟨rfl, hM9⟩
  have M9 := Lib.hid (M8.out.trans hM9)
  clear hM9
  go_wp2_with fail
  refine ⟨by kernel_rfl, ⟨.inr ⟨by simp, IA.out⟩, .inr ⟨by simp, IT.out⟩, trivial⟩, ?_⟩
  go_wp2_with fail
  go_ret
  exact ⟨rfl, M9.out⟩
theorem answers_walk (w : World) (op : Int) (hw : (Lit.int .i64 op).wf = true) (v r t : Int) (hv : (Lit.int .i64 v).wf = true) (hr : (Lit.int .i64 r).wf = true) (ht : (Lit.int .i64 t).wf = true) (a b c d e : Int) (ha : (Lit.int .i64 a).wf = true) (hb : (Lit.int .i64 b).wf = true) (hc : (Lit.int .i64 c).wf = true)
    (hd : (Lit.int .i64 d).wf = true) (he : (Lit.int .i64 e).wf = true) :
    Calls Try.prog 10 #[.int .i64 op, .agg #[.int .i64 v, .int .i64 r, .int .i64 t], .agg #[.int .i64 a, .int .i64 b, .int .i64 c, .int .i64 d, .int .i64 e]] w (TruePost w) :=
  answers_main w op v r t a b c d e hw hv hr ht ha hb hc hd he
end Go.Proofs.Ytpjmoomjbcplgaa.Frame
