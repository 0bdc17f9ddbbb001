/- frame's laws: FrameReads: any bytes that begin with an answer are its own bytes; faults are read, too. No condition. -/
import Derived.Test.YtpjmoomjbcplgaaReadAny
import Derived.Test.YtpjmoomjbcplgaaRefAns
import Derived.Test.YtpjmoomjbcplgaaFrameFit
import Derived.Test.YtpjmoomjbcplgaaFrameReq
namespace Go.Proofs.Ytpjmoomjbcplgaa.Frame
open Go Go.RowKit Go.YtpjmoomjbcplgaaMem Go.YtpjmoomjbcplgaaLex
set_option linter.unusedVariables false
set_option linter.unusedSimpArgs false

set_option maxRecDepth 4000 in
set_option maxHeartbeats 12800000 in
theorem reads_main (w : World) (v : Value) (bs : List UInt8) (hv : Sl w v (vb bs)) (e : Int) (hl : bs.length ≤ 6000) :
    Calls Try.prog 11 #[v, .int .i64 e] w (TruePost w) := by
  obtain ⟨z, hze⟩ : ∃ z, z = e % 128 := ⟨_, rfl⟩
  have hand : bits .and .i64 e 127 = z := by rw [hze]; exact and_mask e 7 (by decide)
  have hz : 0 ≤ z ∧ z ≤ 127 := by omega
  have RF := Lib.hid (fault_read (e := z + 1) (by omega))
  generalize hbF : frame 0xA8 [255, b8 (z + 1)] = bF at *
  have HBF := Lib.hid hbF
  have LF : Hid (bF.length = 6) := Lib.hid (by rw [← hbF]; simp [frame])
  obtain ⟨a, c, rfl, hl', hA⟩ := hv.open
  have HV := Lib.hid hv
  have HA := Lib.hid hA
  rw [vb_length] at *
  have d6 : decide ((6000 : Int) < bs.length) = false := by simp; omega
  clear hbF hze hv hA hl'
  go_enter Try.func11, Try.ntmps11
  go_wp2_with fail
  refine (fit_any _).mono ?_
  rintro e1 w1 ⟨rfl, hM1⟩
  have M1 := Lib.hid hM1
  clear hM1
  go_wp2_with fail
  refine (faulted_any _ (z + 1)).mono ?_
  rintro e2 w2 ⟨v2, rfl, ho2, hM2⟩
  rw [HBF.out] at ho2
  obtain ⟨g2, c2, rfl, hg2, hl2, hx2⟩ := own_one ho2 (by rw [LF.out]; omega)
  clear hg2 hl2 hx2
  have O2 := Lib.hid ho2
  have M2 := Lib.hid (M1.out.trans hM2)
  clear ho2 hM2
  go_wp2_with fail
  refine (readFrame (Sl.own O2.out) (by rw [LF.out]; omega)).mono ?_
  rintro e3 w3 ⟨hM3, hcase⟩
  rcases hcase with ⟨hn, -⟩ | ⟨s3, l3, x3, n3, hs3, rfl, ho3⟩
  · rw [RF.out] at hn; cases hn
  rw [RF.out] at hs3
  injection hs3 with q1
  injection q1 with q1 q2
  injection q2 with q2 q3
  subst q1; subst q2; subst q3
  obtain ⟨a3, c3, rfl⟩ := own_slice ho3
  have P3 : Hid (OwnB (w3.alloc (.cells ((⟨127, 0, 0, 0, 0, 0, 0, 0, 0, 0, z + 1⟩ : Said).cells (.slice a3 0 c3)).toArray 55)) _ _ bF) := Lib.hid (OwnB.alloc (hM3.own O2.out (fun b hb => by simp)) _)
  have S3 := Lib.hid (Blk.new w3 ((⟨127, 0, 0, 0, 0, 0, 0, 0, 0, 0, z + 1⟩ : Said).cells (.slice a3 0 c3)) 55)
  have M3 := Lib.hid ((M2.out.trans hM3).alloc (.cells ((⟨127, 0, 0, 0, 0, 0, 0, 0, 0, 0, z + 1⟩ : Said).cells (.slice a3 0 c3)).toArray 55))
  have iscA : IsC (w3.alloc (.cells ((⟨127, 0, 0, 0, 0, 0, 0, 0, 0, 0, z + 1⟩ : Said).cells (.slice a3 0 c3)).toArray 55)).drew g2 := by
    obtain ⟨g, c, e, -, -, hx⟩ := own_one P3.out (by rw [LF.out]; omega)
    injection e with e1; injection e1 with e1; injection e1 with e1
    subst e1
    exact isC_of_cell (hx 0 _ (nb_get (by rw [LF.out]; omega)))
  have IA := Lib.hid iscA
  have cv := own_str (P := Try.prog) (w := (w3.alloc (.cells ((⟨127, 0, 0, 0, 0, 0, 0, 0, 0, 0, z + 1⟩ : Said).cells (.slice a3 0 c3)).toArray 55)).drew) P3.out Try.underlying28 Try.underlying5 Try.underlying9
  clear hM3 ho3 iscA
  simp only [Said.cells, List.length_nil] at cv ⊢
  go_wp2_with fail
  refine wp_region_held [4] [1] [] (by kernel_rfl) (by kernel_rfl) ?_
  simp only [wpCut, List.take_succ_cons, List.take_zero, List.drop_succ_cons, List.drop_zero]
  go_wp2_with fail
  clear cv
  refine (refFaulted _ (z + 1)).mono ?_
  rintro e4 w4 ⟨v4, rfl, ho4, hM4⟩
  rw [HBF.out] at ho4
  obtain ⟨a4, c4, rfl⟩ := own_slice ho4
  have S4 := hM4.blk S3.out (by simp)
  have M4 := Lib.hid (M3.out.drew.trans hM4)
  have N4 := Lib.hid hM4
  have cv4 := own_str (P := Try.prog) ho4 Try.underlying28 Try.underlying5 Try.underlying9
  have s0 := S4.cell (i := 0) rfl
  have s11 := S4.cell (i := 11) rfl
  clear ho4 hM4 S4
  go_wp2_with fail
  refine ⟨N4.out, ?_⟩
  go_wp2_with fail
  refine ⟨by kernel_rfl, ⟨.inr ⟨by simp, IA.out⟩, trivial⟩, ?_⟩
  go_wp2_with fail
  clear cv4 s0 s11
  refine (readFrame (HV.out.mod M4.out (by simp)) (by omega)).mono ?_
  rintro e5 w5 ⟨hM5, hcase⟩
  rcases hcase with ⟨hn, rfl⟩ | ⟨s, l, x, n, hs, rfl, ho5⟩
  · have M5 := Lib.hid ((M4.out.trans hM5).alloc (.cells ((Said.zero 0).cells (.slice none 0 0)).toArray 55))
    clear hM5 hn
    simp only [Said.cells, Said.zero]
    go_wp2_with fail
    go_ret
    exact ⟨rfl, M5.out⟩
  · obtain ⟨ht, hnl⟩ := reads_bytes hs
    have hn6 : 5 ≤ n := by obtain ⟨k, rest, h1, h2, h3, h4, h5⟩ := readF_back hs; omega
    obtain ⟨b, off, rfl, hb, hx⟩ := HA.out 0 (by omega)
    have hcb : bs.length ≤ c := by
      rcases HV.out with ⟨h0, _⟩ | ⟨b', off', cap', h1, h2, h3, h4, h5⟩
      · have h9 : bs.length = 0 := by have := congrArg List.length h0; rwa [vb_length] at this
        omega
      · injection h1 with _ _ h1; subst h1; rw [vb_length] at h2; exact h2
    have hcm : c ≤ maxLen := by
      rcases HV.out with ⟨h0, _⟩ | ⟨b', off', cap', h1, h2, h3, h4, h5⟩
      · have h9 : bs.length = 0 := by have := congrArg List.length h0; rwa [vb_length] at this
        omega
      · injection h1 with _ _ h1; subst h1; exact h3
    have hcm' : c ≤ 9223372036854775807 := by unfold maxLen at hcm; omega
    obtain ⟨op, rule, vv, rr, tt, t0, t1, t2, t3, t4, er⟩ := s
    obtain ⟨xa, xc, rfl⟩ := own_slice ho5
    have ht' : Tells bs ⟨op, rule, vv, rr, tt, t0, t1, t2, t3, t4, er⟩ l n := ht
    have LN : Hid ((bs.take n).length = n) := Lib.hid (by rw [List.length_take]; omega)
    have PB : Hid (∀ W, Mod [] w W → (convert 28 9 (.slice (some ⟨b, off, none⟩) n c)).run Try.prog W = .ok (.string ⟨(bs.take n).toArray⟩) W) := Lib.hid fun W hW => by
      have h := run_str (P := Try.prog) (Sl.part (w := W) (b := b) (off := off) (c := c) (i := 0) (m := n) (bs := bs) (hW.lt hb) (fun i u hu => (hW.cell hb (by simp)).trans (hx i u hu)) (by omega) (by omega) hcm) Try.underlying28 Try.underlying5 Try.underlying9
      rw [Nat.add_zero, List.drop_zero] at h; exact h
    have S5 := Blk.new w5 ((⟨op, rule, vv, rr, tt, t0, t1, t2, t3, t4, er⟩ : Said).cells (.slice xa l.length xc)) 55
    have M5 := Lib.hid ((M4.out.trans hM5).alloc (.cells ((⟨op, rule, vv, rr, tt, t0, t1, t2, t3, t4, er⟩ : Said).cells (.slice xa l.length xc)).toArray 55))
    have O5 := Lib.hid (OwnC.alloc ho5 (.cells ((⟨op, rule, vv, rr, tt, t0, t1, t2, t3, t4, er⟩ : Said).cells (.slice xa l.length xc)).toArray 55))
    unfold Tells at ht'
    simp only at ht'
    clear hM5 ho5 hs ht hx
    simp only [Said.cells]
    rcases ht' with ⟨hop, hby⟩ | ⟨rfl, hby⟩ | ⟨rfl, hll, hks, hby⟩ | ⟨rfl, hby⟩
    · rcases hop with rfl | rfl
      · have HB := Lib.hid hby
        clear hby
        go_wp2_with fail
        refine (answered_any _ 1 vv rr tt).mono ?_
        rintro e6 w6 ⟨v6, rfl, ho6, hM6⟩
        rw [← HB.out] at ho6
        obtain ⟨a6, c6, rfl⟩ := own_slice ho6
        rw [LN.out] at ho6 ⊢
        have M6 := Lib.hid (M5.out.trans hM6)
        have cvc := own_str (P := Try.prog) (w := w6.drew) ho6 Try.underlying28 Try.underlying5 Try.underlying9
        have cvb := PB.out w6.drew M6.out.drew
        clear ho6 hM6
        go_wp2_with fail
        refine wp_region_lex (by kernel_rfl) (by kernel_rfl) ?_
        go_wp2_with fail
        refine ⟨by kernel_rfl, ?_⟩
        go_wp2_with fail
        go_ret
        exact ⟨rfl, M6.out.drew⟩
      · have HB := Lib.hid hby
        clear hby
        go_wp2_with fail
        refine (answered_any _ 2 vv rr tt).mono ?_
        rintro e6 w6 ⟨v6, rfl, ho6, hM6⟩
        rw [← HB.out] at ho6
        obtain ⟨a6, c6, rfl⟩ := own_slice ho6
        rw [LN.out] at ho6 ⊢
        have M6 := Lib.hid (M5.out.trans hM6)
        have cvc := own_str (P := Try.prog) (w := w6.drew) ho6 Try.underlying28 Try.underlying5 Try.underlying9
        have cvb := PB.out w6.drew M6.out.drew
        clear ho6 hM6
        go_wp2_with fail
        refine wp_region_lex (by kernel_rfl) (by kernel_rfl) ?_
        go_wp2_with fail
        refine ⟨by kernel_rfl, ?_⟩
        go_wp2_with fail
        go_ret
        exact ⟨rfl, M6.out.drew⟩
    · have HB := Lib.hid hby
      clear hby
      go_wp2_with fail
      refine (totalled_any _ rule t0 t1 t2 t3 t4).mono ?_
      rintro e6 w6 ⟨v6, rfl, ho6, hM6⟩
      rw [← HB.out] at ho6
      obtain ⟨a6, c6, rfl⟩ := own_slice ho6
      rw [LN.out] at ho6 ⊢
      have M6 := Lib.hid (M5.out.trans hM6)
      have cvc := own_str (P := Try.prog) (w := w6.drew) ho6 Try.underlying28 Try.underlying5 Try.underlying9
      have cvb := PB.out w6.drew M6.out.drew
      clear ho6 hM6
      go_wp2_with fail
      refine wp_region_lex (by kernel_rfl) (by kernel_rfl) ?_
      go_wp2_with fail
      refine ⟨by kernel_rfl, ?_⟩
      go_wp2_with fail
      go_ret
      exact ⟨rfl, M6.out.drew⟩
    · have HB := Lib.hid hby
      clear hby
      go_wp2_with fail
      refine (listed_any _ rule xa xc l (own_in O5.out) hll hks).mono ?_
      rintro e6 w6 ⟨v6, rfl, ho6, hM6⟩
      rw [← HB.out] at ho6
      obtain ⟨a6, c6, rfl⟩ := own_slice ho6
      rw [LN.out] at ho6 ⊢
      have M6 := Lib.hid (M5.out.trans hM6)
      have cvc := own_str (P := Try.prog) (w := w6.drew) ho6 Try.underlying28 Try.underlying5 Try.underlying9
      have cvb := PB.out w6.drew M6.out.drew
      clear ho6 hM6
      go_wp2_with fail
      refine wp_region_lex (by kernel_rfl) (by kernel_rfl) ?_
      go_wp2_with fail
      refine ⟨by kernel_rfl, ?_⟩
      go_wp2_with fail
      go_ret
      exact ⟨rfl, M6.out.drew⟩
    · have HB := Lib.hid hby
      clear hby
      go_wp2_with fail
      refine (faulted_any _ er).mono ?_
      rintro e6 w6 ⟨v6, rfl, ho6, hM6⟩
      rw [← HB.out] at ho6
      obtain ⟨a6, c6, rfl⟩ := own_slice ho6
      rw [LN.out] at ho6 ⊢
      have M6 := Lib.hid (M5.out.trans hM6)
      have cvc := own_str (P := Try.prog) (w := w6.drew) ho6 Try.underlying28 Try.underlying5 Try.underlying9
      have cvb := PB.out w6.drew M6.out.drew
      clear ho6 hM6
      go_wp2_with fail
      refine wp_region_lex (by kernel_rfl) (by kernel_rfl) ?_
      go_wp2_with fail
      refine ⟨by kernel_rfl, ?_⟩
      go_wp2_with fail
      go_ret
      exact ⟨rfl, M6.out.drew⟩

set_option maxRecDepth 4000 in
theorem reads_walk (w : World) (v : Value) (bs : List UInt8) (hv : Sl w v (vb bs)) (e : Int) (hw : (Lit.int .i64 e).wf = true) :
    Calls Try.prog 11 #[v, .int .i64 e] w (TruePost w) := by
  by_cases hl : bs.length ≤ 6000
  · exact reads_main w v bs hv e hl
  · obtain ⟨a, c, rfl, hlm, -⟩ := hv.open
    unfold maxLen at hlm
    rw [vb_length] at *
    have hln : bs.length ≤ 9223372036854775807 := by omega
    have d6 : decide ((6000 : Int) < bs.length) = true := by simp; omega
    clear hv hlm
    go_enter Try.func11, Try.ntmps11
    go_wp2_with fail
    refine (fit_any _).mono ?_
    rintro e1 w1 ⟨rfl, hM1⟩
    go_wp2_with fail
    go_ret
    exact ⟨rfl, hM1⟩
end Go.Proofs.Ytpjmoomjbcplgaa.Frame
