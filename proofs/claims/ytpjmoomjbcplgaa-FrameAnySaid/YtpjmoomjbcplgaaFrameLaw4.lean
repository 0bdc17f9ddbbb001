/- frame's laws: FrameFaults (under way). -/
import Derived.Test.YtpjmoomjbcplgaaFrameLaw3
import Derived.Laws.OwnMore
namespace Go.Proofs.Ytpjmoomjbcplgaa.Frame
open Go Go.RowKit Go.YtpjmoomjbcplgaaMem Go.YtpjmoomjbcplgaaLex
set_option linter.unusedVariables false
set_option linter.unusedSimpArgs false

theorem parse_err (bs : List UInt8) (rules : Int) : (parse bs rules).2.2 = pfx bs rules := by
  unfold parse
  by_cases h : pfx bs rules ≠ 0
  · rw [if_pos h]
  · rw [if_neg h]
    have : pfx bs rules = 0 := by simpa using h
    split <;> exact this.symm
theorem parse_some (bs : List UInt8) (rules : Int) : ∃ (o r k : Int) (c : Nat) (ke : List UInt8) (n : Nat), parse bs rules = (⟨o, r, c, ke, k⟩, n, pfx bs rules) := by
  have := parse_err bs rules
  generalize parse bs rules = x at this ⊢
  obtain ⟨⟨o, r, c, ke, k⟩, n, e⟩ := x
  change e = _ at this
  subst this
  exact ⟨_, _, _, _, _, _, rfl⟩

/-- A request's bytes with one of them spoiled, up to this one: the fault is this one's. -/
theorem pfx_spoiled {q : Req} {n : Int} (h : q.may n) (hr : q.rule < 9) (c : UInt8) (m : Nat) (hm : m < q.bytes.length) (h3 : m ≠ 3) (hlim : m < 3 ∨ 4 ≤ m) :
    pfx ((q.bytes.set m c).take (m + 1)) 9 = faultAt ((q.bytes.set m c).take (m + 1)) 9 m := by
  obtain ⟨l1, l2, l3⟩ := Req.may_len h
  have hl := bytes_len h
  obtain ⟨g0, g1, g2, g3, g4, g5, g10, g6⟩ := bytes_nb h
  have hlen : ((q.bytes.set m c).take (m + 1)).length = m + 1 := by rw [List.length_take, List.length_set]; omega
  have hne : ∀ j, j < m → nb ((q.bytes.set m c).take (m + 1)) j = nb q.bytes j := fun j hj => by
    rw [nb_take (by omega)]
    unfold nb
    rw [List.getD_eq_getElem?_getD, List.getElem?_set_ne (by omega), ← List.getD_eq_getElem?_getD]
  have e3 : 4 ≤ m → nb ((q.bytes.set m c).take (m + 1)) 3 = q.body.length := fun h4 => by rw [hne 3 (by omega), g3]
  have hlm : lim ((q.bytes.set m c).take (m + 1)) = m + 1 := by
    unfold lim; rw [hlen]
    by_cases h4 : 4 ≤ m
    · rw [e3 h4]; omega
    · omega
  have hz : pfxTo ((q.bytes.set m c).take (m + 1)) 9 m = 0 := pfxTo_all fun j hj => fault_good h (hne j hj) (fun h4 => e3 (by omega)) (fun _ => hr) (by omega)
  unfold pfx
  rw [hlm]
  simp only [pfxTo, hz, ne_eq, not_true_eq_false, if_false]

set_option maxRecDepth 4000 in
set_option maxHeartbeats 3200000 in
theorem faults_main (w : World) (q : Req) (at0 : Int) (c : UInt8) (cq : q.cost < 4294967296) (lq : q.key.length ≤ 300) (hq : q.may 9) :
    Calls Try.prog 7 #[q.val, .int .i64 at0, .int .u8 c.toNat] w (TruePost w) := by
  have KQ := Lib.hid (know cq lq hq)
  obtain ⟨lq1, lq2⟩ := KQ.out.len
  have B1 := Lib.hid (Box.new w q rfl)
  obtain ⟨y, hy, hy1, hy2⟩ : ∃ y : Int, at0.tmod q.bytes.length = y ∧ -(q.bytes.length : Int) < y ∧ y < q.bytes.length :=
    ⟨_, rfl, Int.lt_tmod_of_pos at0 (by omega), Int.tmod_lt_of_pos at0 (by omega)⟩
  obtain ⟨m, hm, hml⟩ : ∃ m : Nat, (y + q.bytes.length) % q.bytes.length = (m : Int) ∧ m < q.bytes.length := by
    have h1 := Int.emod_lt_of_pos (y + q.bytes.length) (show (0 : Int) < q.bytes.length by omega)
    have h2 := Int.emod_nonneg (y + q.bytes.length) (show (q.bytes.length : Int) ≠ 0 by omega)
    exact ⟨((y + q.bytes.length) % q.bytes.length).toNat, by omega, by omega⟩
  have hm' : (y + q.bytes.length).tmod q.bytes.length = (m : Int) := by rw [Int.tmod_eq_emod_of_nonneg (by omega)]; exact hm
  have PP : ∀ j, j < m → parse ((q.bytes.set m c).take j) 9 = (Req.none, 0, 0) := fun j hj => by
    rw [List.take_set_of_le (by omega), parse_part hq j (by omega), if_pos (.inl hq.2.1)]
  obtain ⟨o6, ru6, k6, c6, ke6, n6, P6⟩ := parse_some ((q.bytes.set m c).take (m + 1)) 9
  generalize hbs : q.bytes = bs at *
  have HPP := Lib.hid PP
  have HP6 := Lib.hid P6
  clear PP P6 cq lq
  obtain ⟨op, rule, cost, key, k⟩ := q
  simp only [Req.val] at *
  have HBS := Lib.hid hbs
  have HQ := Lib.hid hq
  clear hbs hq
  go_enter Try.func7, Try.ntmps7
  go_wp2_with fail
  refine (fit_any _).mono ?_
  rintro e w1 ⟨rfl, hM1⟩
  obtain ⟨p0, p1, p2, p3, p4⟩ := Box.facts (Box.mod B1.out hM1)
  have M1 := Lib.hid hM1
  clear hM1
  go_wp2_with fail
  refine (KQ.out.light _).mono ?_
  rintro e w2 ⟨rfl, hM2⟩
  clear p0 p1 p2 p3 p4
  have M2 := Lib.hid (M1.out.trans hM2)
  clear hM2
  obtain ⟨p0, p1, p2, p3, p4⟩ := Box.facts (Box.mod B1.out M2.out)
  go_wp2_with fail
  refine (KQ.out.right _).mono ?_
  rintro e w3 ⟨rfl, hM3⟩
  clear p0 p1 p2 p3 p4
  have M3 := Lib.hid (M2.out.trans hM3)
  clear hM3
  obtain ⟨p0, p1, p2, p3, p4⟩ := Box.facts (Box.mod B1.out M3.out)
  go_wp2_with fail
  refine (KQ.out.enc _).mono ?_
  rintro e w4 ⟨v4, rfl, ho4, hM4⟩
  clear p0 p1 p2 p3 p4
  have M4 := Lib.hid (M3.out.trans hM4)
  obtain ⟨g, cp, rfl, hg, hl4, hc4⟩ := own_one ho4 (by omega)
  have hk : bs.length ≤ cp ∧ cp ≤ maxLen := by
    rcases ho4.2 with ⟨h, _⟩ | ⟨g, cap, cur, h, _, _, h1, h2, _⟩
    · cases h
    · injection h with _ _ h; subst h; exact ⟨h1, h2⟩
  have hf := World.ownsRow.frozenAt ho4 m
  obtain ⟨old, cd⟩ : ∃ old, w4.cell? ⟨g, m, none⟩ = some old := ⟨_, hc4 m _ (vb_get (List.getElem?_eq_getElem hml))⟩
  have hst := (World.ownsRow.stored ho4 m (.int .u8 c.toNat)).1
  rw [vb_set] at hst
  have HST := Lib.hid hst
  clear hst ho4 hc4 hM4
  go_wp2_with fail
  have M5 : Hid (Mod [] w (w4.setCell ⟨g, m, none⟩ (.int .u8 c.toNat))) := (((Mod.refl [] w).alloc _).trans M4.out).setCell (.inr (by have := (((Mod.refl [] w).alloc (.cells (Req.cells ⟨op, rule, cost, key, k⟩).toArray 24)).trans M3.out).size; show w.heap.size ≤ g; omega)) _
  obtain ⟨g', cp', he, _, hl5, hc5⟩ := own_one HST.out (by omega)
  have HC5 : Hid (∀ i u, (vb (bs.set m c))[i]? = some u → (w4.setCell ⟨g, m, none⟩ (.int .u8 c.toNat)).cell? ⟨g, 0 + i, none⟩ = some u) := by
    injection he with he1 _ _; injection he1 with he1; injection he1 with he1
    subst he1
    exact fun i u h => by rw [Nat.zero_add]; exact hc5 i u h
  have hl5' : g < (w4.setCell ⟨g, m, none⟩ (.int .u8 c.toNat)).heap.size := by simpa using hl4
  have hsl : (bs.set m c).length = bs.length := List.length_set
  have HSL := Lib.hid hsl
  clear hc5 he hl5 cd hf hsl
  go_loopw [43] (fun i wr => ∃ j : Nat, j ≤ m ∧ i = .int .i64 j ∧ Mod [] w wr ∧ Mod [] (w4.setCell ⟨g, m, none⟩ (.int .u8 c.toNat)) wr) (fun i _ => m - (intOf i).toNat)
  case atStart => exact ⟨0, Nat.zero_le _, rfl, M5.out, Mod.refl _ _⟩
  case round =>
    obtain ⟨j, hj, rfl, hMr, hNr⟩ := hrel
    have MR := Lib.hid hMr
    have NR := Lib.hid hNr
    clear hMr hNr
    by_cases hlt : j < m
    · go_wp2_with fail
      refine (parse_at (part0 NR.out hl5' HC5.out (by rw [HSL.out]; omega) (by rw [HSL.out]; exact hk.1) hk.2) (by simp; omega) _ (HPP.out j hlt)).mono ?_
      rintro e w11 ⟨rfl, hM11⟩
      have HM11 := Lib.hid hM11
      clear hM11
      go_wp2_with fail
      go_roundw
      case rel => exact ⟨j + 1, by omega, by go_num, (MR.out.trans HM11.out).alloc _, (NR.out.trans HM11.out).alloc _⟩
      case measure => simp [intOf]; omega
    · obtain rfl : j = m := by omega
      go_wp2_with fail
      refine (parse_at (part0 (m := j + 1) NR.out hl5' HC5.out (by rw [HSL.out]; omega) (by rw [HSL.out]; exact hk.1) hk.2) (by simp; omega) _ HP6.out).mono ?_
      rintro e w11 ⟨rfl, hM11⟩
      have HM11 := Lib.hid hM11
      clear hM11
      by_cases e0 : j = 0
      · subst e0
        have hE := pfx_spoiled HQ.out (show rule < 9 from HQ.out.2.1) c 0 (by rw [HBS.out]; exact hml) (by decide) (by decide)
        rw [HBS.out] at hE
        have hnb : nb ((bs.set 0 c).take (0 + 1)) 0 = c.toNat := by
          rw [nb_take (by omega)]; unfold nb; rw [List.getD_eq_getElem?_getD, List.getElem?_set_self hml]; rfl
        by_cases hcc : c.toNat = 167
        · have hE2 : pfx ((bs.set 0 c).take (0 + 1)) 9 = 0 := by rw [hE]; (simp [faultAt, hnb, hcc] <;> omega)
          rw [hE2]
          have hci : ((c.toNat : Int) != 167) = false := by simp [hcc]
          go_wp2_with fail
          go_ret
          exact ⟨rfl, MR.out.trans HM11.out |>.alloc _⟩
        · have hE2 : pfx ((bs.set 0 c).take (0 + 1)) 9 = 5 := by rw [hE]; simp [faultAt, hnb, hcc]; try omega
          rw [hE2]
          have hci : ((c.toNat : Int) != 167) = true := by simp; omega
          go_wp2_with fail
          go_ret
          exact ⟨rfl, MR.out.trans HM11.out |>.alloc _⟩
      by_cases e1 : j = 1
      · subst e1
        have hE := pfx_spoiled HQ.out (show rule < 9 from HQ.out.2.1) c 1 (by rw [HBS.out]; exact hml) (by decide) (by decide)
        rw [HBS.out] at hE
        have hnb : nb ((bs.set 1 c).take (1 + 1)) 1 = c.toNat := by
          rw [nb_take (by omega)]; unfold nb; rw [List.getD_eq_getElem?_getD, List.getElem?_set_self hml]; rfl
        by_cases hcc : c.toNat = 1
        · have hE2 : pfx ((bs.set 1 c).take (1 + 1)) 9 = 0 := by rw [hE]; (simp [faultAt, hnb, hcc] <;> omega)
          rw [hE2]
          have hci : ((c.toNat : Int) != 1) = false := by simp [hcc]
          go_wp2_with fail
          go_ret
          exact ⟨rfl, MR.out.trans HM11.out |>.alloc _⟩
        · have hE2 : pfx ((bs.set 1 c).take (1 + 1)) 9 = 6 := by rw [hE]; simp [faultAt, hnb, hcc]; try omega
          rw [hE2]
          have hci : ((c.toNat : Int) != 1) = true := by simp; omega
          go_wp2_with fail
          go_ret
          exact ⟨rfl, MR.out.trans HM11.out |>.alloc _⟩
      by_cases e2 : j = 2
      · subst e2
        have hE := pfx_spoiled HQ.out (show rule < 9 from HQ.out.2.1) c 2 (by rw [HBS.out]; exact hml) (by decide) (by decide)
        rw [HBS.out] at hE
        have hnb : nb ((bs.set 2 c).take (2 + 1)) 2 = c.toNat := by
          rw [nb_take (by omega)]; unfold nb; rw [List.getD_eq_getElem?_getD, List.getElem?_set_self hml]; rfl
        by_cases hcc : c.toNat = 0
        · have hE2 : pfx ((bs.set 2 c).take (2 + 1)) 9 = 0 := by rw [hE]; (simp [faultAt, hnb, hcc] <;> omega)
          rw [hE2]
          have hci : ((c.toNat : Int) != 0) = false := by simp [hcc]
          go_wp2_with fail
          go_ret
          exact ⟨rfl, MR.out.trans HM11.out |>.alloc _⟩
        · have hE2 : pfx ((bs.set 2 c).take (2 + 1)) 9 = 7 := by rw [hE]; simp [faultAt, hnb, hcc]; try omega
          rw [hE2]
          have hci : ((c.toNat : Int) != 0) = true := by simp; omega
          go_wp2_with fail
          go_ret
          exact ⟨rfl, MR.out.trans HM11.out |>.alloc _⟩
      by_cases e5 : j = 5
      · subst e5
        have hE := pfx_spoiled HQ.out (show rule < 9 from HQ.out.2.1) c 5 (by rw [HBS.out]; exact hml) (by decide) (by decide)
        rw [HBS.out] at hE
        have hnb : nb ((bs.set 5 c).take (5 + 1)) 5 = c.toNat := by
          rw [nb_take (by omega)]; unfold nb; rw [List.getD_eq_getElem?_getD, List.getElem?_set_self hml]; rfl
        by_cases hcc : c.toNat ≤ 8
        · have hE2 : pfx ((bs.set 5 c).take (5 + 1)) 9 = 0 := by rw [hE]; (simp [faultAt, hnb, hcc] <;> omega)
          rw [hE2]
          have hci : decide ((8 : Int) < c.toNat) = false := by simp; omega
          go_wp2_with fail
          go_ret
          exact ⟨rfl, MR.out.trans HM11.out |>.alloc _⟩
        · have hE2 : pfx ((bs.set 5 c).take (5 + 1)) 9 = 9 := by rw [hE]; simp [faultAt, hnb, hcc]; try omega
          rw [hE2]
          have hci : decide ((8 : Int) < c.toNat) = true := by simp; omega
          go_wp2_with fail
          go_ret
          exact ⟨rfl, MR.out.trans HM11.out |>.alloc _⟩
      have b0 : ((j : Int) == 0) = false := by simp; omega
      have b1 : ((j : Int) == 1) = false := by simp; omega
      have b2 : ((j : Int) == 2) = false := by simp; omega
      have b5 : ((j : Int) == 5) = false := by simp; omega
      have b5' : ((j : Int) != 5) = true := by simp; omega
      have d2 : decide ((2 : Int) < j) = true := by simp; omega
      go_wp2_with fail
      go_ret
      exact ⟨rfl, MR.out.trans HM11.out |>.alloc _⟩

set_option maxRecDepth 4000 in
theorem faults_walk (w : World) (q : Req) (cq : q.cost < 4294967296) (at0 : Int) (hw : (Lit.int .i64 at0).wf = true) (cz : Int) (hc : (Lit.int .u8 cz).wf = true) :
    Calls Try.prog 7 #[q.val, .int .i64 at0, .int .u8 cz] w fun e w' => e = .returned (.bool true) ∧ Mod [] w w' := by
  have hz : 0 ≤ cz ∧ cz ≤ 255 := by simpa [Lit.wf, IntKind.min, IntKind.max, IntKind.signed, IntKind.bits] using hc
  obtain ⟨c, rfl⟩ : ∃ c : UInt8, cz = c.toNat := ⟨UInt8.ofNat cz.toNat, by rw [UInt8.toNat_ofNat']; omega⟩
  by_cases hgood : q.key.length ≤ 300 ∧ q.may 9
  · exact faults_main w q at0 c cq hgood.1 hgood.2
  · have LQ := fun w => light_any w q
    have RQ := fun w => refRight w q 9
    unfold RightPost at RQ
    generalize hlq : decide (q.key.length ≤ 300) = xlq at LQ
    generalize hrq : decide (q.may 9) = xrq at RQ
    have hbad : xlq = false ∨ xrq = false := by
      cases xlq <;> cases xrq <;> simp
      simp only [decide_eq_true_eq] at hlq hrq
      exact hgood ⟨hlq, hrq⟩
    have HLQ := Lib.hid LQ
    have HRQ := Lib.hid RQ
    clear LQ RQ hlq hrq hgood
    have B1 := Lib.hid (Box.new w q rfl)
    obtain ⟨op, rule, cost, key, k⟩ := q
    simp only [Req.val] at *
    go_enter Try.func7, Try.ntmps7
    go_wp2_with fail
    refine (fit_any _).mono ?_
    rintro e w1 ⟨rfl, hM1⟩
    obtain ⟨p0, p1, p2, p3, p4⟩ := Box.facts (Box.mod B1.out hM1)
    have M1 := Lib.hid hM1
    clear hM1
    go_wp2_with fail
    refine (HLQ.out _).mono ?_
    rintro e w2 ⟨rfl, hM2⟩
    clear p0 p1 p2 p3 p4
    have M2 := Lib.hid (M1.out.trans hM2)
    clear hM2
    cases xlq
    · go_wp2_with fail
      go_ret
      exact ⟨rfl, ((Mod.refl [] w).alloc _).trans M2.out⟩
    obtain ⟨p0, p1, p2, p3, p4⟩ := Box.facts (Box.mod B1.out M2.out)
    go_wp2_with fail
    refine (HRQ.out _).mono ?_
    rintro e w3 ⟨rfl, hM3⟩
    clear p0 p1 p2 p3 p4
    have M3 := Lib.hid (M2.out.trans hM3)
    clear hM3
    cases xrq
    · go_wp2_with fail
      go_ret
      exact ⟨rfl, ((Mod.refl [] w).alloc _).trans M3.out⟩
    · simp at hbad
end Go.Proofs.Ytpjmoomjbcplgaa.Frame
