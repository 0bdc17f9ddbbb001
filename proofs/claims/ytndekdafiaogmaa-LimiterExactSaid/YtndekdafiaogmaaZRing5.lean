/- ring.Ring: Wait. -/
import Derived.Test.YtndekdafiaogmaaZRing
set_option linter.unusedSimpArgs false
set_option linter.unusedVariables false
section
namespace Go.Proofs.Ytndekdafiaogmaa.Ring
open Go Go.RowKit Go.YtndekdafiaogmaaMem Go.YtndekdafiaogmaaLex Go.Proofs.Ytndekdafiaogmaa.Hash Go.Proofs.Ytndekdafiaogmaa.Arith Go.Proofs.Ytndekdafiaogmaa.Slot
open Go.Proofs.Ytndekdafiaogmaa.Sum (i64s i64s_get i64s_set)
def waitK (R : List Row) (wd : Nat) (x : Rs) (key : List UInt8) (cost : Int) (n : Nat) : Nat → Nat → Nat
 | 0, k => x.st.length
 | f + 1, k => if sum (fromS R wd x key (n + k) 0) cost ≤ x.lim then k else waitK R wd x key cost n f (k + 1)
def waitS (R : List Row) (wd : Nat) (x : Rs) (key : List UInt8) (cost : Int) : Int :=
 if sum (estS R wd x key) cost ≤ x.lim then 0 else (((x.now / x.width + waitK R wd x key cost (x.now / x.width) x.st.length 1) * x.width : Nat) : Int) - x.now
section
variable {w : World} {B : RiB} {R : List Row} {wd : Nat} {x : Rs}
theorem wait_num (h : RingAt w B R wd x) {k : Nat} (hk : k ≤ x.st.length) : (x.now / x.width + k) * x.width ≤ x.now + 71468255805440 ∧ x.now / x.width + k ≤ x.now + 65 := by
 have h1 := h.wide
 have h2 := h.few
 have h3 : x.now / x.width * x.width ≤ x.now := Nat.div_mul_le_self _ _
 have h4 : k * x.width ≤ 65 * 1099511627776 := Nat.mul_le_mul (by omega) h1.2
 have h5 := Nat.div_le_self x.now x.width
 rw [Nat.add_mul]
 omega
set_option maxRecDepth 8000 in
set_option maxHeartbeats 1600000 in
theorem wait_any (h : RingAt w B R wd x) (hs : Small x) (key : List UInt8) (hl : key.length ≤ 1000000) (cost : Int) (hc : I64 cost) :
  Calls Try.prog 45 #[.pointer (some ⟨B.p, 0, none⟩), .string ⟨key.toArray⟩, .int .i64 cost] w fun e w' => e = .returned (.int .i64 (waitS R wd x key cost)) ∧ Mod [] w w' := by
 have hfew := h.few
 have hea := h.early
 have ES := Lib.hid (fun W (hM : Mod [] w W) => estimate_any (h.mod hM (by simp) (by simp)) hs key hl)
 have NU := Lib.hid (fun W (hM : Mod [] w W) => number_any (h.mod hM (by simp) (by simp)) x.now (by have := h.early; omega))
 have SE := Lib.hid (fun W => sum_any (estS R wd x key) cost (estS_i64 R wd x key) hc W)
 have HB := Lib.hid (fun W (hM : Mod [] w W) => hM.blk h.blk (by simp))
 have c4 := h.blk.cell (i := 4) rfl
 have IS := Lib.hid (fun W (hM : Mod [] w W) => show IsC W.drew B.p from isC_of_cell (w := W) ((hM.blk h.blk (by simp)).cell (i := 4) rfl))
 obtain ⟨s0, hs0⟩ : ∃ s0, sum (estS R wd x key) cost = s0 := ⟨_, rfl⟩
 have hwS : waitS R wd x key cost = if s0 ≤ x.lim then 0 else (((x.now / x.width + waitK R wd x key cost (x.now / x.width) x.st.length 1) * x.width : Nat) : Int) - x.now := by unfold waitS; rw [hs0]
 rw [hwS]
 rw [hs0] at SE
 obtain ⟨es, hes⟩ : ∃ es, estS R wd x key = es := ⟨_, rfl⟩
 rw [hes] at ES SE
 by_cases hle : s0 ≤ x.lim
 ·rw [if_pos hle]
  have d1 : decide (s0 ≤ x.lim) = true := by simp [hle]
  have HI := Lib.hid (IS.out w (Mod.refl _ _))
  have HC4 := Lib.hid (fun W (hM : Mod [] w W) => (HB.out W hM).cell (i := 4) rfl)
  generalize x.lim = lim at *
  clear h hs hl hc hs0 hwS hes hle
  go_enter Try.func45, Try.ntmps45
  go_wp2_with fail
  refine Go.YtndekdafiaogmaaLex.wp_region_held [6, 2] [11] [] (by kernel_rfl) (by kernel_rfl) ?_
  simp only [wpCut, List.take_succ_cons, List.take_zero, List.drop_succ_cons, List.drop_zero, List.cons_append, List.nil_append]
  go_wp2_with fail
  refine (ES.out _ (Mod.refl [] w).drew).mono ?_
  rintro e1 w1 ⟨rfl, hM1⟩
  have M1 := Lib.hid hM1
  have k4 := HC4.out w1 ((Mod.refl [] w).drew.trans hM1)
  clear hM1
  go_wp2_with fail
  refine ⟨M1.out, ?_⟩
  go_wp2_with fail
  refine (SE.out _).mono ?_
  rintro e2 w2 ⟨rfl, rfl⟩
  go_wp2_with fail
  refine ⟨M1.out, ?_⟩
  go_wp2_with fail
  refine ⟨by kernel_rfl, ⟨⟨by simp, HI.out⟩, trivial⟩, ?_⟩
  go_wp2_with fail
  go_ret
  exact ⟨rfl, (Mod.refl [] w).drew.trans M1.out⟩
 ·rw [if_neg hle]
  have d1 : decide (s0 ≤ x.lim) = false := by simp; omega
  have HI := Lib.hid (IS.out w (Mod.refl _ _))
  have HC := Lib.hid (fun W (hM : Mod [] w W) => And.intro ((HB.out W hM).cell (i := 0) rfl) (And.intro ((HB.out W hM).cell (i := 2) rfl) (And.intro ((HB.out W hM).cell (i := 4) rfl) ((HB.out W hM).cell (i := 6) rfl))))
  have FR : Hid (∀ W, Mod [] w W → ∀ k, k ≤ x.st.length → Calls Try.prog 77 #[.pointer (some ⟨B.p, 0, none⟩), .string ⟨key.toArray⟩, .int .i64 ((x.now / x.width + k : Nat) : Int), .int .i64 ((0 : Nat) : Int)] W fun e w' => e = .returned (.int .i64 (fromS R wd x key (x.now / x.width + k) 0)) ∧ Mod [] W w') := Lib.hid fun W hM k hk => from_any (h.mod hM (by simp) (by simp)) hs key hl _ (by have h2 := (wait_num h hk).2; omega) 0 (by have := h.wide.1; omega)
  have PR : Hid (∀ W k, k ≤ x.st.length → Calls Try.prog 81 #[.int .i64 ((x.now / x.width + k : Nat) : Int), .int .i64 (x.width : Int)] W fun e w' => e = .returned (.int .i64 (((x.now / x.width + k) * x.width : Nat) : Int)) ∧ W = w') := Lib.hid fun W k hk => by
   have h1 := wait_num h hk
   have h2 := h.wide
   exact product_small _ _ (by omega) (by omega) (by omega) W
  have SF : Hid (∀ W k, Calls Try.prog 42 #[.int .i64 (fromS R wd x key (x.now / x.width + k) 0), .int .i64 cost] W fun e w' => e = .returned (.int .i64 (sum (fromS R wd x key (x.now / x.width + k) 0) cost)) ∧ W = w') := Lib.hid fun W k => sum_any _ _ (fromTo_i64 _ _ _ _ _ _ _) hc W
  have SP : Hid (∀ W k, k ≤ x.st.length → Calls Try.prog 42 #[.int .i64 (((x.now / x.width + k) * x.width : Nat) : Int), .int .i64 (-(x.now : Int))] W fun e w' => e = .returned (.int .i64 ((((x.now / x.width + k) * x.width : Nat) : Int) - x.now)) ∧ W = w') := Lib.hid fun W k hk => by
   have h1 := wait_num h hk
   have h2 := sum_any (((x.now / x.width + k) * x.width : Nat) : Int) (-(x.now : Int)) (by unfold I64; omega) (by unfold I64; omega) W
   rw [sum_in (by unfold I64; omega)] at h2
   exact h2
  have WK : Hid (∀ f k, waitK R wd x key cost (x.now / x.width) (f + 1) k = if sum (fromS R wd x key (x.now / x.width + k) 0) cost ≤ x.lim then k else waitK R wd x key cost (x.now / x.width) f (k + 1)) := Lib.hid fun f k => rfl
  have WZ : Hid (∀ k, waitK R wd x key cost (x.now / x.width) 0 k = x.st.length) := Lib.hid fun k => rfl
  have hqle : x.now / x.width ≤ x.now := Nat.div_le_self _ _
  have WN : Hid (∀ k, k ≤ x.st.length → (x.now / x.width + k) * x.width ≤ x.now + 71468255805440) := Lib.hid fun k hk => (wait_num h hk).1
  have hwi := h.wide
  have ISW := Lib.hid (fun W (hM : Mod [] w W) => IS.out W hM)
  have hnw : wrap64 (-(x.now : Int)) = -(x.now : Int) := by unfold wrap64; omega
  generalize waitK R wd x key cost (x.now / x.width) = wk at *
  generalize x.st.length = m at *
  generalize x.now / x.width = n at *
  generalize x.now = t at *
  generalize x.lim = lim at *
  generalize x.width = wi at *
  have hC0 := HC.out w (Mod.refl _ _)
  have HC4 := HC
  clear h hs hl hc hs0 hwS hes hle IS HB c4 hC0
  go_enter Try.func45, Try.ntmps45
  go_wp2_with fail
  refine Go.YtndekdafiaogmaaLex.wp_region_held [6, 2] [11] [] (by kernel_rfl) (by kernel_rfl) ?_
  simp only [wpCut, List.take_succ_cons, List.take_zero, List.drop_succ_cons, List.drop_zero, List.cons_append, List.nil_append]
  go_wp2_with fail
  refine (ES.out _ (Mod.refl [] w).drew).mono ?_
  rintro e1 w1 ⟨rfl, hM1⟩
  have M1 := Lib.hid hM1
  have N1 := Lib.hid ((Mod.refl [] w).drew.trans hM1)
  obtain ⟨k0, k2, k4, k6⟩ := HC.out w1 N1.out
  clear hM1
  go_wp2_with fail
  refine ⟨M1.out, ?_⟩
  go_wp2_with fail
  refine (SE.out _).mono ?_
  rintro e2 w2 ⟨rfl, rfl⟩
  go_wp2_with fail
  refine ⟨M1.out, ?_⟩
  go_wp2_with fail
  refine ⟨by kernel_rfl, ⟨⟨by simp, HI.out⟩, trivial⟩, ?_⟩
  go_wp2_with fail
  refine (NU.out _ N1.out).mono ?_
  rintro e3 w3 ⟨rfl, rfl⟩
  go_wp2_with fail
  go_loopw [8] (fun i W => ∃ k : Nat, 1 ≤ k ∧ k ≤ m + 1 ∧ i = .int .i64 (k : Int) ∧ wk (m + 1 - k) k = wk m 1 ∧ Mod [] w W) (fun i _ => m + 1 - (intOf i).toNat)
  case atStart => exact ⟨1, by omega, by omega, rfl, by rw [Nat.add_sub_cancel], N1.out⟩
  case round =>
   obtain ⟨k, hk1, hk, rfl, hwk, hM⟩ := hrel
   have MR := Lib.hid hM
   clear k0 k2 k4 k6
   obtain ⟨k0, k2, k4, k6⟩ := HC.out wr hM
   have IR := Lib.hid (ISW.out wr hM)
   obtain ⟨hm1, hm65⟩ := hfew
   by_cases hlt : k ≤ m
   ·have F1 := Lib.hid (fun W hM => FR.out W hM k hlt)
    have S1 := Lib.hid (fun W => SF.out W k)
    have P1 := Lib.hid (fun W => PR.out W k hlt)
    have Q1 := Lib.hid (fun W => SP.out W k hlt)
    have W1 := WK.out (m - k) k
    rw [show m - k + 1 = m + 1 - k by omega, hwk] at W1
    obtain ⟨fk, hfk⟩ : ∃ fk, fromS R wd x key (n + k) 0 = fk := ⟨_, rfl⟩
    rw [hfk] at F1 S1 W1
    obtain ⟨sk, hsk⟩ : ∃ sk, sum fk cost = sk := ⟨_, rfl⟩
    rw [hsk] at S1 W1
    obtain ⟨pr, hpr⟩ : ∃ pr, (n + k) * wi = pr := ⟨_, rfl⟩
    have hprb : pr ≤ 4611757486683193344 := by have := WN.out k hlt; omega
    rw [hpr] at P1 Q1
    rw [show ((n + k : Nat) : Int) = (n : Int) + (k : Int) by omega] at F1 P1
    rw [show ((0 : Nat) : Int) = 0 from rfl] at F1
    have dk : decide ((k : Int) ≤ (m : Int)) = true := by simp; omega
    have hnk : (n : Int) + (k : Int) ≤ 4611686018427400000 := by omega
    by_cases hle : sk ≤ lim
    ·rw [if_pos hle] at W1
     have dl : decide (sk ≤ lim) = true := by simp [hle]
     have HR : Hid ((((n + wk m 1) * wi : Nat) : Int) - (t : Int) = (pr : Int) - (t : Int)) := Lib.hid (by rw [W1, hpr])
     clear hM hwk W1 hfk hsk hpr hle
     go_wp2_with fail
     refine Go.YtndekdafiaogmaaLex.wp_region_held [6, 2] [11] [] (by kernel_rfl) (by kernel_rfl) ?_
     simp only [wpCut, List.take_succ_cons, List.take_zero, List.drop_succ_cons, List.drop_zero, List.cons_append, List.nil_append]
     go_wp2_with fail
     refine (F1.out _ MR.out.drew).mono ?_
     rintro e4 w4 ⟨rfl, hM4⟩
     have M4 := Lib.hid hM4
     have N4 := Lib.hid (MR.out.drew.trans hM4)
     have I4 := Lib.hid (ISW.out w4 N4.out)
     clear k0 k2 k4 k6
     obtain ⟨k0, k2, k4, k6⟩ := HC.out w4 N4.out
     clear hM4
     go_wp2_with fail
     refine ⟨M4.out, ?_⟩
     go_wp2_with fail
     refine (S1.out _).mono ?_
     rintro e5 w5 ⟨rfl, rfl⟩
     go_wp2_with fail
     refine ⟨M4.out, ?_⟩
     go_wp2_with fail
     refine ⟨by kernel_rfl, ⟨⟨by simp, IR.out⟩, trivial⟩, ?_⟩
     go_wp2_with fail
     refine Go.YtndekdafiaogmaaLex.wp_region_held [8] [11] [] (by kernel_rfl) (by kernel_rfl) ?_
     simp only [wpCut, List.take_succ_cons, List.take_zero, List.drop_succ_cons, List.drop_zero, List.cons_append, List.nil_append]
     go_wp2_with fail
     refine (P1.out _).mono ?_
     rintro e6 w6 ⟨rfl, rfl⟩
     go_wp2_with fail
     refine ⟨Mod.refl _ _, ?_⟩
     go_wp2_with fail
     refine (Q1.out _).mono ?_
     rintro e7 w7 ⟨rfl, rfl⟩
     go_wp2_with fail
     refine ⟨by kernel_rfl, ⟨⟨by simp, I4.out⟩, trivial⟩, ?_⟩
     go_wp2_with fail
     go_ret
     exact ⟨by rw [HR.out]; rfl, N4.out.drew⟩
    ·rw [if_neg hle] at W1
     have dl : decide (sk ≤ lim) = false := by simp; omega
     have HW := Lib.hid W1
     clear hM hwk W1 hfk hsk hpr hle
     go_wp2_with fail
     refine Go.YtndekdafiaogmaaLex.wp_region_held [6, 2] [11] [] (by kernel_rfl) (by kernel_rfl) ?_
     simp only [wpCut, List.take_succ_cons, List.take_zero, List.drop_succ_cons, List.drop_zero, List.cons_append, List.nil_append]
     go_wp2_with fail
     refine (F1.out _ MR.out.drew).mono ?_
     rintro e4 w4 ⟨rfl, hM4⟩
     have M4 := Lib.hid hM4
     have N4 := Lib.hid (MR.out.drew.trans hM4)
     clear k0 k2 k4 k6
     obtain ⟨k0, k2, k4, k6⟩ := HC.out w4 N4.out
     clear hM4
     go_wp2_with fail
     refine ⟨M4.out, ?_⟩
     go_wp2_with fail
     refine (S1.out _).mono ?_
     rintro e5 w5 ⟨rfl, rfl⟩
     go_wp2_with fail
     refine ⟨M4.out, ?_⟩
     go_wp2_with fail
     refine ⟨by kernel_rfl, ⟨⟨by simp, IR.out⟩, trivial⟩, ?_⟩
     go_wp2_with fail
     go_roundw
     case rel => exact ⟨k + 1, by omega, by omega, by go_num, by rw [HW.out, show m + 1 - (k + 1) = m - k by omega], N4.out⟩
     case measure => simp [intOf]; omega
   ·obtain rfl : k = m + 1 := by omega
    have P1 := Lib.hid (fun W => PR.out W m (Nat.le_refl _))
    have Q1 := Lib.hid (fun W => SP.out W m (Nat.le_refl _))
    have W1 := WZ.out (m + 1)
    rw [Nat.sub_self] at hwk
    rw [hwk] at W1
    obtain ⟨pr, hpr⟩ : ∃ pr, (n + m) * wi = pr := ⟨_, rfl⟩
    have hprb : pr ≤ 4611757486683193344 := by have := WN.out m (Nat.le_refl _); omega
    rw [hpr] at P1 Q1
    rw [show ((n + m : Nat) : Int) = (n : Int) + (m : Int) by omega] at P1
    have hnk : (n : Int) + (m : Int) ≤ 4611686018427400000 := by omega
    have HR : Hid ((((n + wk m 1) * wi : Nat) : Int) - (t : Int) = (pr : Int) - (t : Int)) := Lib.hid (by rw [W1, hpr])
    have dk : decide (((m + 1 : Nat) : Int) ≤ (m : Int)) = false := by simp; omega
    have dk2 : decide ((m : Int) + 1 ≤ (m : Int)) = false := by simp; omega
    clear hM hwk W1 hpr
    go_wp2_with fail
    refine Go.YtndekdafiaogmaaLex.wp_region_held [12] [15] [] (by kernel_rfl) (by kernel_rfl) ?_
    simp only [wpCut, List.take_succ_cons, List.take_zero, List.drop_succ_cons, List.drop_zero, List.cons_append, List.nil_append]
    go_wp2_with fail
    refine (P1.out _).mono ?_
    rintro e6 w6 ⟨rfl, rfl⟩
    go_wp2_with fail
    refine ⟨Mod.refl _ _, ?_⟩
    go_wp2_with fail
    refine (Q1.out _).mono ?_
    rintro e7 w7 ⟨rfl, rfl⟩
    go_wp2_with fail
    refine ⟨by kernel_rfl, ⟨⟨by simp, IR.out⟩, trivial⟩, ?_⟩
    go_wp2_with fail
    go_ret
    exact ⟨by rw [HR.out]; rfl, MR.out.drew⟩
end
end Go.Proofs.Ytndekdafiaogmaa.Ring
end
