/- frame's laws: FrameBack. -/
import Derived.Test.YtpjmoomjbcplgaaFrameLaw2
import Derived.Test.YtpjmoomjbcplgaaFrameRef2
import Derived.Laws.AppendOwnNone
namespace Go.Proofs.Ytpjmoomjbcplgaa.Frame
open Go Go.RowKit Go.YtpjmoomjbcplgaaMem Go.YtpjmoomjbcplgaaLex
set_option linter.unusedVariables false
set_option linter.unusedSimpArgs false

/-- A row of bytes as an argument: nil, or with an address. -/
def Lies (v : Value) : Prop := v = .slice none 0 0 ∨ ∃ ad n c, v = .slice (some ad) n c
section
variable {ops : Array Oper} {rest : List Oper} {o : Oper} {act : Act} {Q : Exit → Act → World → Prop} {w : World} {B : Nat} {v xv : Value} {bs : List UInt8}
theorem app_any (news : List UInt8) (hown : OwnB w B v bs) (hsl : Sl w xv (vb news)) (hnil : Lies xv) (hgd : o.guard = none) (s x : Operand) (ho : o.op = .call { callee := .builtin .append, args := #[s, x], argTypes := #[28, 28] })
    (hs : act.eval s = v) (hx : act.eval x = xv) (hB : B ≤ w.heap.size) (hl : bs.length + news.length ≤ 1000000)
    (h : ∀ v' w', OwnB w' B v' (bs ++ news) → Mod v.ownBlock.toList w w' → wpList Try.prog ops Q rest (act.put o.dst v') w') : wpList Try.prog ops Q (o :: rest) act w := by
  obtain ⟨i0, hi, hz0, hz1, hz2⟩ := u8_info
  rcases hnil with rfl | ⟨ad, n, c, rfl⟩
  · have hn : news = [] := by
      rcases hsl with ⟨h, _⟩ | ⟨b, off, cap, h, _⟩
      · cases news
        · rfl
        · simp [vb] at h
      · cases h
    subst hn
    refine wpList_append_own_none hgd s x 28 ho B 5 i0 1 Try.underlying28 hi v bs.length (vb bs) hs hown hx (h v w (by rw [List.append_nil]; exact hown) (Mod.refl _ _))
  · rcases hsl with ⟨hn, av, capv, he⟩ | ⟨b, off, cap, he, hc1, hc2, hc3, hcell⟩
    · have hn : news = [] := by
        cases news
        · rfl
        · simp [vb] at hn
      subst hn
      injection he with h1 h2 h3
      subst h2
      exact app_row [] ad c hown hgd s x ho hs hx (fun j u hj => by simp [vb] at hj) hB hl (fun v' w' a b _ => h v' w' a b)
    · injection he with h1 h2 h3
      injection h1 with h1
      subst h1 h2 h3
      rw [vb_length] at hx
      exact app_row news ⟨b, off, none⟩ c hown hgd s x ho hs hx (fun j u hj => by rw [add_eq]; exact hcell j u hj) hB hl (fun v' w' a b _ => h v' w' a b)
end

set_option maxRecDepth 4000 in
set_option maxHeartbeats 3200000 in
theorem back_main (w : World) (q : Req) (rules : Int) (a : Option Addr) (c : Nat) (ms : List UInt8) (hS : Sl w (.slice a ms.length c) (vb ms)) (hlies : Lies (.slice a ms.length c)) (hms : ms.length ≤ 100)
    (r1 : Nat) (hr1 : bits .and .i64 rules 255 = (r1 : Int)) (hr2 : r1 < 256) (cq : q.cost < 4294967296) (lq : q.key.length ≤ 300) (hq : q.may ((r1 : Int) + 1)) :
    Calls Try.prog 5 #[q.val, .int .i64 rules, .slice a ms.length c] w (TruePost w) := by
  have KQ := Lib.hid (know cq lq hq)
  obtain ⟨lq1, lq2⟩ := KQ.out.len
  have B1 := Lib.hid (Box.new w q rfl)
  have CR := fun w => codeRight w q ((r1 : Int) + 1)
  unfold RightPost at CR
  rw [decide_eq_true hq] at CR
  have RE := fun w => refEncode w q cq hq
  have P0 := parse_bytes hq cq ms ((r1 : Int) + 1)
  rw [if_pos hq.2.1] at P0
  have PP : ∀ m, m < q.bytes.length → parse (q.bytes.take m) ((r1 : Int) + 1) = (Req.none, 0, 0) := fun m hm => by
    rw [parse_part hq m hm, if_pos (.inl hq.2.1)]
  generalize hbs : q.bytes = bs at *
  have HCR := Lib.hid CR
  have HRE := Lib.hid RE
  have HP0 := Lib.hid P0
  have HPP := Lib.hid PP
  have HS := Lib.hid hS
  have HL := Lib.hid hlies
  clear CR RE P0 PP hS hlies hbs cq lq hq
  obtain ⟨op, rule, cost, key, k⟩ := q
  simp only [Req.val] at *
  go_enter Try.func5, Try.ntmps5
  go_wp2_with fail
  refine (fit_any _).mono ?_
  rintro e w1 ⟨rfl, hM1⟩
  obtain ⟨p0, p1, p2, p3, p4⟩ := Box.facts (Box.mod B1.out hM1)
  have M1 := Lib.hid hM1
  clear hM1
  go_wp2_with fail
  refine (KQ.out.light _).mono ?_
  rintro e w2 ⟨rfl, hM2⟩
  clear p0 p1 p2 p3 p4
  have M2 := Lib.hid (M1.out.trans hM2)
  clear hM2
  obtain ⟨p0, p1, p2, p3, p4⟩ := Box.facts (Box.mod B1.out M2.out)
  have isc2 : IsC w2.drew w.heap.size := isC_of_cell (w := w2) p0
  go_wp2_with fail
  refine wp_region_held [3] [3] [] (by kernel_rfl) (by kernel_rfl) ?_
  simp only [wpCut, List.take_succ_cons, List.take_zero, List.drop_succ_cons, List.drop_zero]
  go_wp2_with fail
  refine (HCR.out _).mono ?_
  rintro e w3 ⟨rfl, hM3⟩
  clear p0 p1 p2 p3 p4
  have HM3 := Lib.hid hM3
  have M3 := Lib.hid (M2.out.drew.trans hM3)
  clear hM3
  obtain ⟨p0, p1, p2, p3, p4⟩ := Box.facts (Box.mod B1.out M3.out)
  go_wp2_with fail
  refine ⟨HM3.out, ?_⟩
  go_wp2_with fail
  refine (KQ.out.right _).mono ?_
  rintro e w4 ⟨rfl, hM4⟩
  clear p0 p1 p2 p3 p4
  have M4 := Lib.hid (M3.out.trans hM4)
  clear hM4
  obtain ⟨p0, p1, p2, p3, p4⟩ := Box.facts (Box.mod B1.out M4.out)
  go_wp2_with fail
  refine ⟨by kernel_rfl, ⟨⟨by simp, isc2⟩, trivial⟩, ?_⟩
  go_wp2_with fail
  refine (KQ.out.right _).mono ?_
  rintro e w5 ⟨rfl, hM5⟩
  clear p0 p1 p2 p3 p4
  have M5 := Lib.hid (M4.out.trans hM5)
  clear hM5
  obtain ⟨p0, p1, p2, p3, p4⟩ := Box.facts (Box.mod B1.out M5.out)
  go_wp2_with fail
  refine (KQ.out.enc _).mono ?_
  rintro e w6 ⟨v6, rfl, ho6, hM6⟩
  clear p0 p1 p2 p3 p4
  have M6 := Lib.hid (M5.out.trans hM6)
  obtain ⟨g, cp, rfl, hg, hl6, hc6⟩ := own_one ho6 (by omega)
  have hk : bs.length ≤ cp ∧ cp ≤ maxLen := by
    rcases ho6.2 with ⟨h, _⟩ | ⟨g, cap, cur, h, _, _, h1, h2, _⟩
    · cases h
    · injection h with _ _ h; subst h; exact ⟨h1, h2⟩
  have hcv6 := own_str (P := Try.prog) ho6.drew Try.underlying28 Try.underlying5 Try.underlying9
  have isc6 : IsC w6.drew g := isC_of_cell (w := w6) (hc6 0 _ (vb_get (List.getElem?_eq_getElem (show 0 < bs.length by omega))))
  have HO6 := Lib.hid ho6
  have HC6 : Hid (∀ i u, (vb bs)[i]? = some u → w6.cell? ⟨g, 0 + i, none⟩ = some u) := fun i u h => by rw [Nat.zero_add]; exact hc6 i u h
  clear hM6 ho6 hc6
  obtain ⟨p0, p1, p2, p3, p4⟩ := Box.facts (Box.mod B1.out M6.out)
  go_wp2_with fail
  refine wp_region_held [4] [1] [] (by kernel_rfl) (by kernel_rfl) ?_
  simp only [wpCut, List.take_succ_cons, List.take_zero, List.drop_succ_cons, List.drop_zero]
  go_wp2_with fail
  refine (HRE.out _).mono ?_
  rintro e w7 ⟨v7, rfl, ho7, hM7⟩
  clear p0 p1 p2 p3 p4
  have hcv7 := own_str (P := Try.prog) ho7 Try.underlying28 Try.underlying5 Try.underlying9
  obtain ⟨a7, c7, rfl⟩ := ho7.slice
  have HM7 := Lib.hid hM7
  have M7 := Lib.hid (M6.out.drew.trans hM7)
  have N7 : Hid (Mod [] w6 w7) := (Mod.refl [] w6).drew.trans hM7
  have hbb : (bs == bs) = true := by simp
  have hln : decide ((75 : Int) < bs.length) = false := by simp; omega
  clear ho7 hM7
  go_wp2_with fail
  refine ⟨HM7.out, ?_⟩
  go_wp2_with fail
  refine ⟨by kernel_rfl, ⟨.inr ⟨by simp, isc6⟩, trivial⟩, ?_⟩
  have M7' : Hid (Mod [] w w7) := ((Mod.refl [] w).alloc _).trans M7.out
  have hsb := Sl.own (N7.out.own HO6.out (fun b _ => by simp))
  have HSB := Lib.hid hsb
  clear hsb
  go_wp2_with (at_builtin; go_must (first
    | (refine app_any ms ho8 hS8 HL.out rfl _ _ rfl rfl rfl (by omega) (show bs.length + ms.length ≤ 1000000 by omega) ?_; intro v9 w9 ho9 hM9)
    | (refine app_any bs (show OwnB w7 w7.heap.size (.slice none 0 0) [] from World.ownsRow_nil _ _ _ _) HSB.out (.inr ⟨_, _, _, rfl⟩) rfl _ _ rfl rfl rfl (Nat.le_refl _) (show 0 + bs.length ≤ 1000000 by omega) ?_; intro v8 w8 ho8 hM8; have hs8 := hM8.size; have hS8 := HS.out.mod (M7'.out.trans hM8) (by simp))))
  have hb8 := own_block ho8
  have hM9' := (M7'.out.trans hM8).trans' hM9 (fun x hx => by have := hb8 x (by simpa using hx); have := M7'.out.size; omega)
  have N9 : Hid (Mod [] w6 w9) := (N7.out.trans hM8).trans' hM9 (fun x hx => by have := hb8 x (by simpa using hx); have := N7.out.size; omega)
  have HO9 := Lib.hid ho9
  have M9 := Lib.hid hM9'
  clear ho9 ho8 hM9 hM8 hM9' hS8 hs8 hb8
  refine (parse_at (Sl.own HO9.out) (show (([] : List UInt8) ++ bs ++ ms).length ≤ 1000000 by simp; omega) _ (show parse ([] ++ bs ++ ms) _ = _ from HP0.out)).mono ?_
  rintro e w10 ⟨rfl, hM10⟩
  have M10 := Lib.hid ((M9.out.trans hM10).alloc (.cells #[.int .i64 op, .int .i64 rule, .int .u32 cost, .string ⟨key.toArray⟩, .int .i64 k] 24))
  have N10 := Lib.hid ((N9.out.trans hM10).alloc (.cells #[.int .i64 op, .int .i64 rule, .int .u32 cost, .string ⟨key.toArray⟩, .int .i64 k] 24))
  have bx10 : Box (w10.alloc (.cells #[.int .i64 op, .int .i64 rule, .int .u32 cost, .string ⟨key.toArray⟩, .int .i64 k] 24)) w.heap.size ⟨op, rule, cost, key, k⟩ := Box.mod B1.out ((M6.out.trans N10.out))
  obtain ⟨p0, p1, p2, p3, p4⟩ := Box.facts bx10
  clear hM10 bx10
  go_wp2_with fail
  go_loopw [77] (fun i wr => ∃ j : Nat, j ≤ bs.length ∧ i = .int .i64 j ∧ Mod [] w wr ∧ Mod [] w6 wr) (fun i _ => bs.length - (intOf i).toNat)
  case atStart => exact ⟨0, Nat.zero_le _, rfl, M10.out, N10.out⟩
  case round =>
    clear p0 p1 p2 p3 p4
    obtain ⟨j, hj, rfl, hMr, hNr⟩ := hrel
    have MR := Lib.hid hMr
    have NR := Lib.hid hNr
    clear hMr hNr
    by_cases hlt : j < bs.length
    · go_wp2_with fail
      refine (parse_at (part0 NR.out hl6 HC6.out (by omega) hk.1 hk.2) (by simp; omega) _ (HPP.out j hlt)).mono ?_
      rintro e w11 ⟨rfl, hM11⟩
      have HM11 := Lib.hid hM11
      clear hM11
      go_wp2_with fail
      go_roundw
      case rel => exact ⟨j + 1, by omega, by go_num, (MR.out.trans HM11.out).alloc _, (NR.out.trans HM11.out).alloc _⟩
      case measure => simp [intOf]; omega
    · obtain rfl : j = bs.length := by omega
      go_wp2_with fail
      go_ret
      exact ⟨rfl, MR.out⟩

set_option maxRecDepth 4000 in
theorem back_walk (w : World) (q : Req) (cq : q.cost < 4294967296) (rules : Int) (hw : (Lit.int .i64 rules).wf = true) (v : Value) (ms : List UInt8) (hv : Sl w v (vb ms)) (hlies : Lies v) :
    Calls Try.prog 5 #[q.val, .int .i64 rules, v] w fun e w' => e = .returned (.bool true) ∧ Mod [] w w' := by
  obtain ⟨r1, hr1, hr2⟩ : ∃ n : Nat, bits .and .i64 rules 255 = (n : Int) ∧ n < 256 := ⟨(rules % 256).toNat, by rw [show (255 : Int) = 2 ^ 8 - 1 from rfl, and_mask _ _ (by omega)]; omega, by omega⟩
  obtain ⟨a, c, rfl, hl, hA⟩ := hv.open
  rw [vb_length] at *
  by_cases hgood : (q.key.length ≤ 300 ∧ ms.length ≤ 100) ∧ q.may ((r1 : Int) + 1)
  · exact back_main w q rules a c ms hv hlies hgood.1.2 r1 hr1 hr2 cq hgood.1.1 hgood.2
  · have LQ := fun w => light_any w q
    have RQ := fun w => refRight w q ((r1 : Int) + 1)
    have CQ := fun w => codeRight w q ((r1 : Int) + 1)
    unfold RightPost at RQ CQ
    generalize hlq : decide (q.key.length ≤ 300) = xlq at LQ
    generalize hrq : decide (q.may ((r1 : Int) + 1)) = xrq at RQ CQ
    have hbad : xlq = false ∨ 100 < ms.length ∨ xrq = false := by
      cases xlq <;> cases xrq <;> simp
      simp only [decide_eq_true_eq] at hlq hrq
      by_cases h : ms.length ≤ 100
      · exact absurd ⟨⟨hlq, h⟩, hrq⟩ hgood
      · omega
    have HLQ := Lib.hid LQ
    have HRQ := Lib.hid RQ
    have HCQ := Lib.hid CQ
    clear LQ RQ CQ hlq hrq hgood hv hA hlies hw
    have B1 := Lib.hid (Box.new w q rfl)
    obtain ⟨op, rule, cost, key, k⟩ := q
    simp only [Req.val] at *
    unfold maxLen at hl
    by_cases h100 : 100 < ms.length
    · have hd : decide ((100 : Int) < ms.length) = true := by simp; omega
      go_enter Try.func5, Try.ntmps5
      go_wp2_with fail
      refine (fit_any _).mono ?_
      rintro e w1 ⟨rfl, hM1⟩
      obtain ⟨p0, p1, p2, p3, p4⟩ := Box.facts (Box.mod B1.out hM1)
      have M1 := Lib.hid hM1
      clear hM1
      go_wp2_with fail
      refine (HLQ.out _).mono ?_
      rintro e w2 ⟨rfl, hM2⟩
      clear p0 p1 p2 p3 p4
      have M2 := Lib.hid (M1.out.trans hM2)
      clear hM2
      cases xlq
      · go_wp2_with fail
        go_ret
        exact ⟨rfl, ((Mod.refl [] w).alloc _).trans M2.out⟩
      · go_wp2_with fail
        go_ret
        exact ⟨rfl, ((Mod.refl [] w).alloc _).trans M2.out⟩
    · have hd : decide ((100 : Int) < ms.length) = false := by simp; omega
      go_enter Try.func5, Try.ntmps5
      go_wp2_with fail
      refine (fit_any _).mono ?_
      rintro e w1 ⟨rfl, hM1⟩
      obtain ⟨p0, p1, p2, p3, p4⟩ := Box.facts (Box.mod B1.out hM1)
      have M1 := Lib.hid hM1
      clear hM1
      go_wp2_with fail
      refine (HLQ.out _).mono ?_
      rintro e w2 ⟨rfl, hM2⟩
      clear p0 p1 p2 p3 p4
      have M2 := Lib.hid (M1.out.trans hM2)
      clear hM2
      cases xlq
      · go_wp2_with fail
        go_ret
        exact ⟨rfl, ((Mod.refl [] w).alloc _).trans M2.out⟩
      have hx : xrq = false := by
        rcases hbad with h | h | h
        · cases h
        · omega
        · exact h
      subst hx
      obtain ⟨p0, p1, p2, p3, p4⟩ := Box.facts (Box.mod B1.out M2.out)
      have isc2 : IsC w2.drew w.heap.size := isC_of_cell (w := w2) p0
      go_wp2_with fail
      refine wp_region_held [3] [3] [] (by kernel_rfl) (by kernel_rfl) ?_
      simp only [wpCut, List.take_succ_cons, List.take_zero, List.drop_succ_cons, List.drop_zero]
      go_wp2_with fail
      refine (HCQ.out _).mono ?_
      rintro e w3 ⟨rfl, hM3⟩
      clear p0 p1 p2 p3 p4
      have HM3 := Lib.hid hM3
      have M3 := Lib.hid (M2.out.drew.trans hM3)
      clear hM3
      obtain ⟨p0, p1, p2, p3, p4⟩ := Box.facts (Box.mod B1.out M3.out)
      go_wp2_with fail
      refine ⟨HM3.out, ?_⟩
      go_wp2_with fail
      refine (HRQ.out _).mono ?_
      rintro e w4 ⟨rfl, hM4⟩
      clear p0 p1 p2 p3 p4
      have M4 := Lib.hid (M3.out.trans hM4)
      clear hM4
      obtain ⟨p0, p1, p2, p3, p4⟩ := Box.facts (Box.mod B1.out M4.out)
      go_wp2_with fail
      refine ⟨by kernel_rfl, ⟨⟨by simp, isc2⟩, trivial⟩, ?_⟩
      go_wp2_with fail
      refine (HRQ.out _).mono ?_
      rintro e w5 ⟨rfl, hM5⟩
      clear p0 p1 p2 p3 p4
      have M5 := Lib.hid (M4.out.trans hM5)
      clear hM5
      go_wp2_with fail
      go_ret
      exact ⟨rfl, ((Mod.refl [] w).alloc _).trans M5.out⟩
end Go.Proofs.Ytpjmoomjbcplgaa.Frame
