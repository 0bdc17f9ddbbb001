/- frame's laws: FrameAny: any bytes begin with the request that the document says, or may go on, or have its fault. No condition. -/
import Derived.Test.YtpjmoomjbcplgaaParseBack
import Derived.Test.YtpjmoomjbcplgaaFrameLaw4
import Derived.BigQuiet
namespace Go.Proofs.Ytpjmoomjbcplgaa.Frame
open Go Go.RowKit Go.YtpjmoomjbcplgaaMem Go.YtpjmoomjbcplgaaLex
set_option linter.unusedVariables false
set_option linter.unusedSimpArgs false

theorem refParse_at {w : World} {v : Value} {bs : List UInt8} (hv : Sl w v (vb bs)) (hc : bs.length ≤ 1000000) (rules : Int) {op rule k : Int} {cost : Nat} {key : List UInt8} {n e : Nat} (h : parse bs rules = (⟨op, rule, cost, key, k⟩, n, e)) :
    Calls Try.prog 23 #[v, .int .i64 rules] w fun x w' => x = .returned (.tuple #[.agg #[.int .i64 op, .int .i64 rule, .int .u32 cost, .string ⟨key.toArray⟩, .int .i64 k], .int .i64 n, .int .i64 e]) ∧ Mod [] w w' := by
  have := refParse_any hv hc rules
  unfold ParsePost at this
  rw [h] at this
  exact this

set_option maxRecDepth 4000 in
set_option maxHeartbeats 1600000 in
theorem any_main (w : World) (v : Value) (bs : List UInt8) (hv : Sl w v (vb bs)) (rules : Int) :
    Calls Try.prog 6 #[v, .int .i64 rules] w (TruePost w) := by
  obtain ⟨r1, hr1, hr2⟩ : ∃ n : Nat, bits .and .i64 rules 255 = (n : Int) ∧ n < 256 := ⟨(rules % 256).toNat, by rw [show (255 : Int) = 2 ^ 8 - 1 from rfl, and_mask _ _ (by omega)]; omega, by omega⟩
  by_cases hlen : bs.length ≤ 300
  · rcases parse_two bs (r1 : Int) with ⟨e, hP⟩ | ⟨q, n, hP, hn0, hnl, hn75, hmay, hb, hc, hk⟩
    · obtain ⟨a, c, rfl, hl, hA⟩ := hv.open
      rw [vb_length] at *
      have HV := Lib.hid hv
      have HP := Lib.hid hP
      clear hv hA hP
      have d300 : decide ((300 : Int) < bs.length) = false := by simp; omega
      go_enter Try.func6, Try.ntmps6
      go_wp2_with fail
      refine (fit_any _).mono ?_
      rintro e1 w1 ⟨rfl, hM1⟩
      have M1 := Lib.hid hM1
      clear hM1
      go_wp2_with fail
      refine (parse_at (HV.out.mod M1.out (by simp)) (by omega) _ HP.out).mono ?_
      rintro e2 w2 ⟨rfl, hM2⟩
      have M2 := Lib.hid (M1.out.trans hM2)
      clear hM2
      have B2 := Lib.hid (Box.new w2 Req.none rfl)
      go_wp2_with fail
      refine (refParse_at (HV.out.mod (M2.out.alloc _) (by simp)) (by omega) _ HP.out).mono ?_
      rintro e3 w3 ⟨rfl, hM3⟩
      obtain ⟨p0, p1, p2, p3, p4⟩ := Box.facts (Box.mod B2.out hM3)
      simp only [Req.none] at p0 p1 p2 p3 p4
      have hs3 : w2.heap.size < w3.heap.size := Blk.lt (Box.mod B2.out hM3)
      have M3 := Lib.hid ((M2.out.alloc _).trans hM3)
      clear hM3
      go_wp2_with fail
      go_quiet (fail)
      go_wp2_with fail
      go_ret
      exact ⟨rfl, (M3.out.alloc _).drewN _⟩
    · rcases hv with ⟨hn, av, capv, rfl⟩ | ⟨b, off, cap, rfl, hc1, hc2, hc3, hcell⟩
      · have : (vb bs).length = 0 := by rw [hn]; rfl
        rw [vb_length] at this; omega
      have hv' : Sl w (.slice (some ⟨b, off, none⟩) (vb bs).length cap) (vb bs) := .inr ⟨b, off, cap, rfl, hc1, hc2, hc3, hcell⟩
      rw [vb_length] at *
      have HV := Lib.hid hv'
      have HP := Lib.hid hP
      have HC := Lib.hid hcell
      have HB := Lib.hid hb
      have HMay := Lib.hid hmay
      have c0 := hcell 0 _ (nb_get (by omega))
      clear hv' hP hcell hb hmay
      have d300 : decide ((300 : Int) < bs.length) = false := by simp; omega
      have dn : ((n : Int) == 0) = false := by simp; omega
      have B1 := fun w => Box.new w q rfl
      have EQ := fun w => encode_any w q hc (by omega)
      have RQ := fun w => codeRight w q (r1 : Int)
      have HEQ := Lib.hid EQ
      have HRQ := Lib.hid RQ
      have HB1 := Lib.hid B1
      clear EQ RQ B1
      obtain ⟨op, rule, cost, key, k⟩ := q
      simp only [Req.val] at *
      go_enter Try.func6, Try.ntmps6
      go_wp2_with fail
      refine (fit_any _).mono ?_
      rintro e1 w1 ⟨rfl, hM1⟩
      have M1 := Lib.hid hM1
      clear hM1
      go_wp2_with fail
      refine (parse_at (HV.out.mod M1.out (by simp)) (by omega) _ HP.out).mono ?_
      rintro e2 w2 ⟨rfl, hM2⟩
      have M2 := Lib.hid (M1.out.trans hM2)
      clear hM2
      have B2 := Lib.hid (HB1.out w2)
      go_wp2_with fail
      refine (refParse_at (HV.out.mod (M2.out.alloc _) (by simp)) (by omega) _ HP.out).mono ?_
      rintro e3 w3 ⟨rfl, hM3⟩
      have B3 := Lib.hid (Box.mod B2.out hM3)
      obtain ⟨p0, p1, p2, p3, p4⟩ := Box.facts B3.out
      have hs3 : w2.heap.size < w3.heap.size := Blk.lt B3.out
      have M3 := Lib.hid ((M2.out.alloc _).trans hM3)
      clear hM3
      have hb3 : b < w3.heap.size := M3.out.lt hc3
      have isc : ∀ o, IsC (w3.alloc o).drew b := fun o => isC_of_cell (((M3.out.alloc o).drew.cell hc3 (by simp)).trans c0)
      have ISC := Lib.hid isc
      clear isc
      go_wp2_with fail
      refine wp_region_held [19] [23] [] (by kernel_rfl) (by kernel_rfl) ?_
      simp only [wpCut, List.take_succ_cons, List.take_zero, List.drop_succ_cons, List.drop_zero]
      go_wp2_with fail
      refine (HEQ.out _).mono ?_
      rintro e4 w4 ⟨v4, rfl, ho4, hM4⟩
      rw [HB.out] at ho4
      obtain ⟨a4, cp4, hv4⟩ := ho4.slice
      rw [show (bs.take n).length = n by rw [List.length_take]; omega] at hv4
      subst hv4
      have hcv1 := own_str (P := Try.prog) ho4 Try.underlying28 Try.underlying5 Try.underlying9
      have hcap : ¬ cap = 0 := by omega
      have hncap : n ≤ cap := by omega
      have hpt := Sl.part (w := w4) (b := b) (off := off) (c := cap) (i := 0) (m := n) (bs := bs) (hM4.lt (by simpa using Nat.lt_succ_of_lt hb3)) (fun i u h => ((M3.out.alloc (.cells #[.int .i64 op, .int .i64 rule, .int .u32 cost, .string ⟨key.toArray⟩, .int .i64 k] 24)).drew.trans hM4 |>.cell hc3 (by simp)).trans (HC.out i u h)) (by omega) (by omega) hc2
      rw [Nat.add_zero, List.drop_zero] at hpt
      have hcv2 := run_str (P := Try.prog) hpt Try.underlying28 Try.underlying5 Try.underlying9
      have B4 := Lib.hid (Box.mod (w := (w3.alloc (.cells #[.int .i64 op, .int .i64 rule, .int .u32 cost, .string ⟨key.toArray⟩, .int .i64 k] 24)).drew) (Blk.alloc B3.out (.cells #[.int .i64 op, .int .i64 rule, .int .u32 cost, .string ⟨key.toArray⟩, .int .i64 k] 24)) hM4)
      clear p0 p1 p2 p3 p4
      obtain ⟨p0, p1, p2, p3, p4⟩ := Box.facts B4.out
      have M4 := Lib.hid hM4
      clear ho4 hpt hM4
      go_wp2_with fail
      refine ⟨M4.out, ?_⟩
      go_wp2_with fail
      refine (HRQ.out _).mono ?_
      rintro e5 w5 ⟨rfl, hM5⟩
      rw [decide_eq_true HMay.out]
      have M5 := Lib.hid hM5
      clear hM5
      go_wp2_with fail
      refine ⟨by kernel_rfl, ⟨.inr ⟨by simp, ISC.out _⟩, trivial⟩, ?_⟩
      go_wp2_with fail
      go_ret
      exact ⟨rfl, (M3.out.alloc _).drew.trans (M4.out.trans M5.out)⟩
  · obtain ⟨a, c, rfl, hl, hA⟩ := hv.open
    rw [vb_length] at *
    clear hv hA
    have d300 : decide ((300 : Int) < bs.length) = true := by simp; omega
    go_enter Try.func6, Try.ntmps6
    go_wp2_with fail
    refine (fit_any _).mono ?_
    rintro e1 w1 ⟨rfl, hM1⟩
    have M1 := Lib.hid hM1
    clear hM1
    go_wp2_with fail
    go_ret
    exact ⟨rfl, M1.out⟩

theorem any_walk (w : World) (v : Value) (bs : List UInt8) (hv : Sl w v (vb bs)) (rules : Int) (hw : (Lit.int .i64 rules).wf = true) :
    Calls Try.prog 6 #[v, .int .i64 rules] w fun e w' => e = .returned (.bool true) ∧ Mod [] w w' := any_main w v bs hv rules
end Go.Proofs.Ytpjmoomjbcplgaa.Frame
