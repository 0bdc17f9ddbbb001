/- summary.Summary: Offer. -/
import Derived.Test.YtpobjhmfidebbaaSum5
namespace Go.Proofs.Ytpobjhmfidebbaa.Sum
open Go Go.RowKit Go.YtpobjhmfidebbaaMem Go.YtpobjhmfidebbaaLex Go.Proofs.Ytpobjhmfidebbaa.Hash Go.Proofs.Ytpobjhmfidebbaa.Keys Go.Proofs.Ytpobjhmfidebbaa.Index
set_option linter.unusedVariables false
set_option linter.unusedSimpArgs false

theorem SumC.tot {w : World} {B : SB} {S : List (Option (List UInt8))} {fl : List Nat} {N Er O W : List Int} {total t : Int} (h2 : SumC w B S fl N Er O W total) : SumC (w.setCell ⟨B.p, 6, none⟩ (.int .i64 t)) B S fl N Er O W t := by
  have MS := (Mod.refl [B.p] w).setCell (p := ⟨B.p, 6, none⟩) (.inl (by simp)) (.int .i64 t)
  obtain ⟨⟨n1, n2, n3, n4⟩, _⟩ := h2.ne
  exact ⟨h2.blk.set 6 _, h2.idx.mod MS (fun b hb hb' => by simp at hb'; subst hb'; exact h2.ni _ (by simp [SB.own]) hb), MS.blk h2.cn (by simp; exact fun e => n1 e.symm), MS.blk h2.ce (by simp; exact fun e => n2 e.symm), MS.blk h2.co (by simp; exact fun e => n3 e.symm), MS.blk h2.cw (by simp; exact fun e => n4 e.symm), h2.ln, h2.le, h2.lo, h2.lw, h2.whole, h2.nd, h2.ni⟩
def OfferPost (B : SB) (n : Nat) (s : List Ent × Int) (w : World) (e : Ending) (w' : World) : Prop := (∃ v, e = .returned v) ∧ SumAt w' B n s.1 s.2 ∧ Mod B.all w w'
theorem bump_eq {E : List Ent} {k : Nat} {e : Ent} (he : E[k]? = some e) (z : Int) : bumpAt E k z = move k (riseTo (more E k z) (e.n + z) k) (more E k z) := by
  unfold bumpAt
  rw [show E.getD k default = e by rw [List.getD_eq_getElem?_getD, he]; rfl]
theorem more_get {E : List Ent} {k : Nat} {e : Ent} (he : E[k]? = some e) (z : Int) : (more E k z)[k]? = some { e with n := e.n + z } := by
  unfold more
  rw [show E.getD k default = e by rw [List.getD_eq_getElem?_getD, he]; rfl, List.getElem?_set_self (List.getElem?_eq_some_iff.1 he).1]
/-- The last part: the count grows, and it goes ahead. -/
theorem rise_more {w : World} {B : SB} {n : Nat} {S : List (Option (List UInt8))} {fl : List Nat} {N Er O W : List Int} {total : Int} {ps : List Nat} {E : List Ent} {k p : Nat} {e : Ent} (h : SumC w B S fl N Er O W total) (hn : S.length = n) (hr : Rep S N Er O W ps E) (hp : ps[k]? = some p) (he : E[k]? = some e) (z : Int) :
    Calls Try.prog 31 #[.pointer (some ⟨B.p, 0, none⟩), .int .i64 p] (w.setCell ⟨B.nb, p, none⟩ (.int .i64 (e.n + z))) (OfferPost B n (bumpAt E k z, total) w) := by
  have MS := (Mod.refl [B.nb] w).setCell (p := ⟨B.nb, p, none⟩) (.inl (by simp)) (.int .i64 (e.n + z))
  have BN := h.cn.set p (.int .i64 (e.n + z))
  rw [i64s_set] at BN
  have hC := h.cnt MS BN (by rw [List.length_set]; exact h.ln)
  refine (rise_any hC (hr.more hp he z) hp (more_get he z)).mono ?_
  rintro x w' ⟨hv, ⟨O', W', h1, h2⟩, hM⟩
  rw [bump_eq he]
  exact ⟨hv, ⟨S, fl, _, Er, O', W', _, hn, h1, h2⟩, (MS.mono (by simp [SB.all])).trans (hM.mono (by simp [SB.all]))⟩

set_option maxRecDepth 8000 in
set_option maxHeartbeats 6400000 in
theorem offer_any {w : World} {B : SB} {n : Nat} {E : List Ent} {total : Int} (h : SumAt w B n E total) (hn : 1 ≤ n) (hle : E.length ≤ n) (hE : ∀ e ∈ E, 0 ≤ e.n ∧ e.n ≤ total) (ht : 0 ≤ total ∧ total < 4611686018427387904) (key : List UInt8) (hl : key.length ≤ 1000000) (z : Int) (hz : -9223372036854775808 ≤ z ∧ z ≤ 9223372036854775807) :
    Calls Try.prog 15 #[.pointer (some ⟨B.p, 0, none⟩), .string ⟨key.toArray⟩, .int .i64 z] w (OfferPost B n (offer n (E, total) key z) w) := by
  have H := Lib.hid h
  have hsz : (ByteArray.mk key.toArray).size = key.length := by simp [ByteArray.size]
  by_cases hg : z < 1 ∨ 4611686018427387904 ≤ z ∨ 64 < key.length
  · have ho : offer n (E, total) key z = (E, total) := by unfold offer; rw [if_pos hg]
    rw [ho]
    clear h ho
    by_cases h1 : z < 1
    · have d1 : decide (z < 1) = true := by simpa using h1
      clear hg
      go_enter Try.func15, Try.ntmps15
      go_wp2_with fail
      exact bodyPost_ret (results_none rfl _ _ _) rfl ⟨⟨_, rfl⟩, H.out, Mod.refl _ _⟩
    · have d1 : decide (z < 1) = false := by simpa using h1
      by_cases h2 : 4611686018427387904 ≤ z
      · have d2 : decide ((4611686018427387904 : Int) ≤ z) = true := by simpa using h2
        clear hg
        go_enter Try.func15, Try.ntmps15
        go_wp2_with fail
        exact bodyPost_ret (results_none rfl _ _ _) rfl ⟨⟨_, rfl⟩, H.out, Mod.refl _ _⟩
      · have d2 : decide ((4611686018427387904 : Int) ≤ z) = false := by simpa using h2
        have d3 : decide ((64 : Int) < (key.length : Int)) = true := by simp; omega
        have d4 : decide (64 < key.length) = true := by simp; omega
        clear hg
        go_enter Try.func15, Try.ntmps15
        go_wp2_with fail
        exact bodyPost_ret (results_none rfl _ _ _) rfl ⟨⟨_, rfl⟩, H.out, Mod.refl _ _⟩
  · have d1 : decide (z < 1) = false := by simp; omega
    have d2 : decide ((4611686018427387904 : Int) ≤ z) = false := by simp; omega
    have d3 : decide ((64 : Int) < (key.length : Int)) = false := by simp; omega
    have d4 : decide (64 < key.length) = false := by simp; omega
    have hz1 : 1 ≤ z := by omega
    have hz2 : z < 4611686018427387904 := by omega
    have hk64 : key.length ≤ 64 := by omega
    by_cases hc : 4611686018427387904 - z ≤ total
    · have ho : offer n (E, total) key z = (offerE n [] key z, z) := by unfold offer; rw [if_neg hg, if_pos hc]
      rw [ho]
      have d5 : decide ((4611686018427387904 : Int) - z ≤ total) = true := by simpa using hc
      have CL := Lib.hid (clear_any h)
      obtain ⟨S, fl, N, Er, O, W, ps, hSn, hC, hR⟩ := h
      have c6 := hC.blk.cell (i := 6) rfl
      clear hSn hC hR hg ho hE hle
      go_enter Try.func15, Try.ntmps15
      go_wp2_with fail
      refine CL.out.mono ?_
      rintro e1 w1 ⟨⟨v1, rfl⟩, hA, hM⟩
      have MW := Lib.hid hM
      have htz : (0 : Int) + z < 4611686018427387904 := by omega
      have htt : (0 : Int) + z = z := by omega
      have hleq : ([] : List Ent).length ≤ n := by simp
      have hEb : ∀ e ∈ ([] : List Ent), 0 ≤ e.n ∧ e.n ≤ (0 : Int) := by simp
      have HTT := Lib.hid htt
      have HA := Lib.hid hA
      clear hM htt d5 hc ht c6 hA
      generalize hE0 : ([] : List Ent) = E0 at *
      generalize ht0 : (0 : Int) = t0 at HA htz hEb HTT
      have ht0' : 0 ≤ t0 := by omega
      clear hE0 ht0
      have hEb2 := Lib.hid hEb
      have hle2 := Lib.hid hleq
      obtain ⟨S, fl, N, Er, O, W, ps, hSn, hC, hR⟩ := HA.out
      have c6 := hC.blk.cell (i := 6) rfl
      have f6 := hC.blk.free 6
      have C3 := Lib.hid (hC.tot (t := t0 + z))
      have M3 := Lib.hid (MW.out.setCell (p := ⟨B.p, 6, none⟩) (.inl (by simp [SB.all])) (.int .i64 (t0 + z)))
      have FN := Lib.hid (Index.find_any C3.out.idx key hl)
      have HR := Lib.hid hR
      have hfew := hC.few
      have HSN := Lib.hid hSn
      clear hC hR hEb hleq hSn HA
      obtain ⟨w3, hw3⟩ : ∃ w3, w1.setCell ⟨B.p, 6, none⟩ (.int .i64 (t0 + z)) = w3 := ⟨_, rfl⟩
      rw [hw3] at C3 M3 FN
      have c1 := C3.out.blk.cell (i := 1) rfl
      cases hf : findE E0 key with
      | some k =>
        obtain ⟨p, e, hp, he, hk, hpl⟩ := HR.out.find_some C3.out.idx.uniq hf
        obtain ⟨hS, hN, _, _, _⟩ := HR.out.at_ k p e hp he
        have hpS : p < S.length := (List.getElem?_eq_some_iff.1 hS).1
        rw [hpl] at FN
        simp only [optInt] at FN
        have hen := hEb2.out e (List.mem_of_getElem? he)
        have CNp := Lib.hid (i64s_get hN)
        have HP := Lib.hid hp
        have HE := Lib.hid he
        have hof : offerE n E0 key z = bumpAt E0 k z := by unfold offerE; rw [hf]
        have HOF := Lib.hid hof
        clear hp he hk hpl hS hN hof hf
        go_wp2_with fail
        refine FN.out.mono ?_
        rintro e4 w4 ⟨rfl, hM4⟩
        have C4 := Lib.hid (C3.out.mod hM4 (by simp))
        have M4 := Lib.hid (M3.out.trans (hM4.mono (by simp)))
        have c2 := C4.out.blk.cell (i := 2) rfl
        have cN := C4.out.cn.cell CNp.out
        have fN := C4.out.cn.free p
        have RM := Lib.hid (rise_more C4.out HSN.out HR.out HP.out HE.out z)
        clear hM4 c1 c6 f6 hw3
        obtain ⟨fk, en, fe⟩ := e
        simp only at *
        generalize S.length = m at *
        go_wp2_with fail
        refine RM.out.mono ?_
        rintro e5 w5 ⟨⟨v5, rfl⟩, hA5, hM5⟩
        have A5 := Lib.hid hA5
        rw [HTT.out] at A5
        have M5 := Lib.hid (M4.out.trans hM5)
        clear hA5 hM5
        go_wp2_with fail
        go_end0
        exact ⟨⟨_, rfl⟩, by show SumAt _ _ _ (offerE n E0 key z) _; rw [HOF.out]; exact A5.out, M5.out⟩
      | none =>
        rw [HR.out.find_none hf] at FN
        simp only [optInt] at FN
        have L3 := Lib.hid (fun W' (hM : Mod [] w3 W') => len_c (C3.out.mod hM (by simp)))
        rw [HR.out.used] at L3
        have HF := Lib.hid hf
        clear hf
        by_cases hfull : E0.length = n
        · have d6 : ((E0.length : Int) == (S.length : Int)) = true := by rw [HSN.out]; simp; omega
          obtain ⟨E1, e, hEe⟩ : ∃ E1 e, E0 = E1 ++ [e] := by
            rcases List.eq_nil_or_concat E0 with h0 | ⟨E1, e, h0⟩
            · rw [h0] at hfull; simp at hfull; omega
            · exact ⟨E1, e, by rw [h0, List.concat_eq_append]⟩
          have DR := Lib.hid (fun W' (hM : Mod [] w3 W') => drop_any (E := E1) (e := e) (n := n) (total := t0 + z) (by rw [← hEe]; exact ⟨S, fl, N, Er, O, W, ps, HSN.out, C3.out.mod hM (by simp), HR.out⟩))
          have hE1 : E1.length < n := by rw [hEe] at hfull; simp at hfull; omega
          have hof : offerE n E0 key z = bumpAt (E1 ++ [⟨key, e.n, e.n⟩]) E1.length z := by
            have h1 : shed n E0 = E1 := by unfold shed; rw [if_pos hfull, ← hfull, hEe]; simp
            have h2 : leastOf n E0 = e.n := by unfold leastOf; rw [if_pos hfull, ← hfull, hEe, List.getD_eq_getElem?_getD]; simp
            unfold offerE; rw [HF.out]; simp only; rw [h1, h2]
          have HOF := Lib.hid hof
          have hen := hEb2.out e (by rw [hEe]; simp)
          have hno : findE E1 key = none := by
            have := findE_no HF.out
            rw [hEe] at this
            unfold findE
            rw [List.findIdx?_eq_none_iff]
            intro x hx
            have := this x (List.mem_append_left _ hx)
            simpa using this
          have HNO := Lib.hid hno
          have hn64 : n ≤ 2000 := by rw [← HSN.out]; exact hfew
          have hel : E0.length ≤ 2000 := by omega
          clear hEe hof hno
          obtain ⟨fk, en, fe⟩ := e
          simp only at *
          go_wp2_with fail
          refine FN.out.mono ?_
          rintro e4 w4 ⟨rfl, hM4⟩
          have N4 := Lib.hid hM4
          have c2 := (C3.out.mod hM4 (by simp)).blk.cell (i := 2) rfl
          have isc : IsC w4.drew B.p := isC_of_cell (w := w4) c2
          have IS := Lib.hid isc
          clear hM4 isc c1 c6 f6 hw3
          generalize S.length = m at *
          go_wp2_with fail
          refine wp_region_held [2] [5] [] (by kernel_rfl) (by kernel_rfl) ?_
          simp only [wpCut, List.take_succ_cons, List.take_zero, List.drop_succ_cons, List.drop_zero, List.cons_append, List.nil_append]
          go_wp2_with fail
          refine (L3.out _ (N4.out.drew)).mono ?_
          rintro e5 w5 ⟨rfl, rfl⟩
          go_wp2_with fail
          refine ⟨Mod.refl _ _, ?_⟩
          go_wp2_with fail
          refine ⟨by kernel_rfl, ⟨⟨by simp, IS.out⟩, trivial⟩, ?_⟩
          go_wp2_with fail
          refine (DR.out _ (N4.out.drew)).mono ?_
          rintro e6 w6 ⟨rfl, hA6, hM6⟩
          have M6 := Lib.hid ((M3.out.trans (N4.out.drew.mono (by simp))).trans hM6)
          obtain ⟨S1, fl1, N1, Er1, O1, W1, ps1, hSn1, hC1, hR1⟩ := hA6
          clear hM6 c2
          have husd := hR1.used
          have hwh := hC1.whole
          have hlow : en + z < 4611686018427387904 := by omega
          have hlow0 : 0 ≤ en := by omega
          obtain ⟨j, fl', hfl⟩ : ∃ j fl', fl1 = j :: fl' := by
            cases hq : fl1 with
            | nil => have := hwh.2; rw [hq, husd] at this; simp at this; omega
            | cons j fl' => exact ⟨j, fl', rfl⟩
          rw [hfl] at hC1 hwh
          have hj0 := hC1.idx.free0
          have hjS : j < S1.length := (List.getElem?_eq_some_iff.1 hj0).1
          have PU := Lib.hid (put_any hC1.idx key (by omega))
          rw [putS_yes (hR1.find_none HNO.out) hk64] at PU
          have WS := Lib.hid (whole_set (key := key) hwh hj0)
          have C6 := Lib.hid hC1
          have RP := Lib.hid (hR1.put (key := key) hj0 hC1.ln hC1.le hC1.lo hC1.lw rfl (by rw [hSn1]; exact hE1) en)
          have HSN1 := Lib.hid hSn1
          have c1 := hC1.blk.cell (i := 1) rfl
          have hsl : (S1.set j (some key)).length = S1.length := by rw [List.length_set]
          have HSL := Lib.hid hsl
          have HUS := Lib.hid husd
          obtain ⟨on, hon⟩ : ∃ z, N1[j]? = some z := ⟨_, List.getElem?_eq_getElem (by rw [hC1.ln]; exact hjS)⟩
          obtain ⟨oe, hoe⟩ : ∃ z, Er1[j]? = some z := ⟨_, List.getElem?_eq_getElem (by rw [hC1.le]; exact hjS)⟩
          obtain ⟨oo, hoo⟩ : ∃ z, O1[E1.length]? = some z := ⟨_, List.getElem?_eq_getElem (by rw [hC1.lo, hSn1]; exact hE1)⟩
          obtain ⟨ow, how⟩ : ∃ z, W1[j]? = some z := ⟨_, List.getElem?_eq_getElem (by rw [hC1.lw]; exact hjS)⟩
          have ON := Lib.hid hon
          have OE := Lib.hid hoe
          have OO := Lib.hid hoo
          have OW := Lib.hid how
          have hE1S : E1.length < S1.length := by rw [hSn1]; exact hE1
          have hS2 : S1.length ≤ 2000 := by rw [hSn1]; exact hn64
          clear hC1 hR1 hSn1 hfl hj0 husd hwh hsl hon hoe hoo how
          go_wp2_with fail
          refine PU.out.mono ?_
          rintro e7 w7 ⟨rfl, hI7, hM7⟩
          have I7 := Lib.hid hI7
          have M7 := Lib.hid hM7
          have NI := Lib.hid C6.out.ni
          have BP7 := Lib.hid (hM7.blk C6.out.blk (NI.out _ (by simp [SB.own])))
          have BN7 := Lib.hid (hM7.blk C6.out.cn (NI.out _ (by simp [SB.own])))
          have BE7 := Lib.hid (hM7.blk C6.out.ce (NI.out _ (by simp [SB.own])))
          have BO7 := Lib.hid (hM7.blk C6.out.co (NI.out _ (by simp [SB.own])))
          have BW7 := Lib.hid (hM7.blk C6.out.cw (NI.out _ (by simp [SB.own])))
          have c2 := BP7.out.cell (i := 2) rfl
          have c3 := BP7.out.cell (i := 3) rfl
          have cn := BN7.out.cell (i64s_get ON.out)
          have ce := BE7.out.cell (i64s_get OE.out)
          have fn := BN7.out.free j
          have fe := BE7.out.free j
          have ne1 := C6.out.ne.2.1.1
          clear hI7 hM7 c1
          generalize hms : S1.length = ms at c2 c3 BP7 hjS hE1S hS2
          have HMS := Lib.hid hms
          clear hms
          go_wp2_with fail
          refine wp_region_lex (by kernel_rfl) (by kernel_rfl) ?_
          go_wp2_with fail
          refine ⟨by kernel_rfl, ?_⟩
          have M8 : Hid (Mod [B.nb, B.eb] w7 ((w7.setCell ⟨B.nb, j, none⟩ (.int .i64 en)).setCell ⟨B.eb, j, none⟩ (.int .i64 en)).drew) := Lib.hid ((((Mod.refl [B.nb, B.eb] w7)).setCell (p := ⟨B.nb, j, none⟩) (.inl (by simp)) _).setCell (p := ⟨B.eb, j, none⟩) (.inl (by simp)) _).drew
          have BN8 := Lib.hid ((BN7.out.set j (.int .i64 en)).other (a := ⟨B.eb, j, none⟩) (by simp; exact ne1) (.int .i64 en)).drew
          have BE8 := Lib.hid ((BE7.out.other (a := ⟨B.nb, j, none⟩) (by simp; exact ne1.symm) (.int .i64 en)).set j (.int .i64 en)).drew
          rw [i64s_set] at BN8 BE8
          have nes := C6.out.ne
          have C8 : Hid (SumC ((w7.setCell ⟨B.nb, j, none⟩ (.int .i64 en)).setCell ⟨B.eb, j, none⟩ (.int .i64 en)).drew B (S1.set j (some key)) fl' (N1.set j en) (Er1.set j en) O1 W1 (t0 + z)) :=
            Lib.hid ⟨by rw [HSL.out, HMS.out]; exact M8.out.blk BP7.out (by simp; exact ⟨nes.1.1, nes.1.2.1⟩), I7.out.mod M8.out (fun b hb hb' => by
              simp only [List.mem_cons, List.not_mem_nil, or_false] at hb'
              rcases hb' with rfl | rfl
              · exact NI.out _ (by simp [SB.own]) hb
              · exact NI.out _ (by simp [SB.own]) hb), BN8.out, BE8.out, M8.out.blk BO7.out (by simp; exact ⟨nes.2.1.2.1.symm, nes.2.2.1.1.symm⟩), M8.out.blk BW7.out (by simp; exact ⟨nes.2.1.2.2.symm, nes.2.2.1.2.symm⟩),
              by rw [List.length_set, HSL.out]; exact C6.out.ln, by rw [List.length_set, HSL.out]; exact C6.out.le, by rw [HSL.out]; exact C6.out.lo, by rw [HSL.out]; exact C6.out.lw, by rw [HSL.out]; exact WS.out.1, C6.out.nd, C6.out.ni⟩
          generalize ((w7.setCell ⟨B.nb, j, none⟩ (.int .i64 en)).setCell ⟨B.eb, j, none⟩ (.int .i64 en)).drew = w8 at *
          have L8 := Lib.hid (len_c C8.out)
          rw [WS.out.2, HUS.out] at L8
          have hs1 : (((E1.length + 1 : Nat) : Int) - 1) = (E1.length : Int) := by omega
          clear c2 c3 cn ce fn fe
          go_wp2_with fail
          refine L8.out.mono ?_
          rintro e8 w8' ⟨rfl, rfl⟩
          have c4 := C8.out.blk.cell (i := 4) rfl
          have c5 := C8.out.blk.cell (i := 5) rfl
          have c2 := C8.out.blk.cell (i := 2) rfl
          rw [HSL.out, HMS.out] at c4 c5 c2
          have co := C8.out.co.cell (i32s_get OO.out)
          have cw := C8.out.cw.cell (i32s_get OW.out)
          have fo := C8.out.co.free E1.length
          have fw := C8.out.cw.free j
          have ne2 := C8.out.ne.2.2.2
          have cj := C8.out.cn.cell (i64s_get (N := N1.set j en) (p := j) (z := en) (List.getElem?_set_self (by rw [C6.out.ln, HMS.out]; exact hjS)))
          have fj := C8.out.cn.free j
          have ne3 := C8.out.ne.2.1
          go_wp2_with fail
          refine wp_region_lex (by kernel_rfl) (by kernel_rfl) ?_
          go_wp2_with fail
          refine ⟨by kernel_rfl, ?_⟩
          have M9 : Hid (Mod [B.ob, B.wb] w8 ((w8.setCell ⟨B.ob, E1.length, none⟩ (.int .i32 (j : Int))).setCell ⟨B.wb, j, none⟩ (.int .i32 (E1.length : Int))).drew) := Lib.hid ((((Mod.refl [B.ob, B.wb] w8)).setCell (p := ⟨B.ob, E1.length, none⟩) (.inl (by simp)) _).setCell (p := ⟨B.wb, j, none⟩) (.inl (by simp)) _).drew
          have BO9 := Lib.hid ((C8.out.co.set E1.length (.int .i32 (j : Int))).other (a := ⟨B.wb, j, none⟩) (by simp; exact ne2) (.int .i32 (E1.length : Int))).drew
          have BW9 := Lib.hid ((C8.out.cw.other (a := ⟨B.ob, E1.length, none⟩) (by simp; exact ne2.symm) (.int .i32 (j : Int))).set j (.int .i32 (E1.length : Int))).drew
          rw [i32s_set] at BO9 BW9
          have C9 := Lib.hid (C8.out.ow M9.out BO9.out BW9.out (by rw [List.length_set, HSL.out]; exact C6.out.lo) (by rw [List.length_set, HSL.out]; exact C6.out.lw))
          have MM := Lib.hid ((((M6.out.trans (M7.out.mono (fun b hb => .inl (own_all B b hb)))).trans (M8.out.mono (by simp [SB.all]))).trans (M9.out.mono (by simp [SB.all]))))
          generalize ((w8.setCell ⟨B.ob, E1.length, none⟩ (.int .i32 (j : Int))).setCell ⟨B.wb, j, none⟩ (.int .i32 (E1.length : Int))).drew = w9 at *
          have c2 := C9.out.blk.cell (i := 2) rfl
          rw [HSL.out, HMS.out] at c2
          have cj := C9.out.cn.cell (i64s_get (N := N1.set j en) (p := j) (z := en) (List.getElem?_set_self (by rw [C6.out.ln, HMS.out]; exact hjS)))
          have fj := C9.out.cn.free j
          have RM := Lib.hid (rise_more (n := n) C9.out (by rw [HSL.out]; exact HSN1.out) RP.out (k := E1.length) (p := j) (e := ⟨key, en, en⟩) (by have := RP.out.len; simp at this; rw [← this]; simp) (by simp) z)

          clear c4 c5 co cw fo fw
          go_wp2_with fail
          refine RM.out.mono ?_
          rintro e10 w10 ⟨⟨v10, rfl⟩, hA10, hM10⟩
          have A10 := Lib.hid hA10
          have M10 := Lib.hid (MM.out.trans hM10)
          clear hA10 hM10
          rw [HTT.out] at A10
          go_wp2_with fail
          go_end0
          exact ⟨⟨_, rfl⟩, by show SumAt _ _ _ (offerE n E0 key z) _; rw [HOF.out]; exact A10.out, M10.out⟩
        · have d6 : ((E0.length : Int) == (S.length : Int)) = false := by rw [HSN.out]; simp; omega
          have hel : E0.length ≤ 2000 := by have := hle2.out; rw [← HSN.out] at this; omega
          have hE1 : E0.length < n := by have := hle2.out; omega
          have hof : offerE n E0 key z = bumpAt (E0 ++ [⟨key, 0, 0⟩]) E0.length z := by
            have h1 : shed n E0 = E0 := by unfold shed; rw [if_neg hfull]
            have h2 : leastOf n E0 = 0 := by unfold leastOf; rw [if_neg hfull]
            unfold offerE; rw [HF.out]; simp only; rw [h1, h2]
          have HOF := Lib.hid hof
          have hn64 : n ≤ 2000 := by rw [← HSN.out]; exact hfew
          have HNO := HF
          clear hof
          go_wp2_with fail
          refine FN.out.mono ?_
          rintro e4 w4 ⟨rfl, hM4⟩
          have N4 := Lib.hid hM4
          have c2 := (C3.out.mod hM4 (by simp)).blk.cell (i := 2) rfl
          have isc : IsC w4.drew B.p := isC_of_cell (w := w4) c2
          have IS := Lib.hid isc
          have c1w := (C3.out.mod hM4.drew (by simp)).blk.cell (i := 1) rfl
          clear hM4 isc c1 c6 f6 hw3
          go_wp2_with fail
          refine wp_region_held [2] [5] [] (by kernel_rfl) (by kernel_rfl) ?_
          simp only [wpCut, List.take_succ_cons, List.take_zero, List.drop_succ_cons, List.drop_zero, List.cons_append, List.nil_append]
          go_wp2_with fail
          refine (L3.out _ (N4.out.drew)).mono ?_
          rintro e5 w5 ⟨rfl, rfl⟩
          go_wp2_with fail
          refine ⟨Mod.refl _ _, ?_⟩
          go_wp2_with fail
          refine ⟨by kernel_rfl, ⟨⟨by simp, IS.out⟩, trivial⟩, ?_⟩
          have M6 := Lib.hid (M3.out.trans (N4.out.drew.mono (by simp)))
          have hC1 := C3.out.mod N4.out.drew (by simp)
          have hR1 := HR.out
          have hSn1 := HSN.out
          clear c2 c1w
          obtain ⟨w6, hw6⟩ : ∃ w6, w4.drew = w6 := ⟨_, rfl⟩
          rw [hw6] at M6 hC1 ⊢
          clear hw6
          have husd := hR1.used
          have hwh := hC1.whole
          have hlow : 0 + z < 4611686018427387904 := by omega
          have hlow0 : 0 ≤ 0 := by omega
          obtain ⟨j, fl', hfl⟩ : ∃ j fl', fl = j :: fl' := by
            cases hq : fl with
            | nil => have := hwh.2; rw [hq, husd] at this; simp at this; omega
            | cons j fl' => exact ⟨j, fl', rfl⟩
          rw [hfl] at hC1 hwh
          have hj0 := hC1.idx.free0
          have hjS : j < S.length := (List.getElem?_eq_some_iff.1 hj0).1
          have PU := Lib.hid (put_any hC1.idx key (by omega))
          rw [putS_yes (hR1.find_none HNO.out) hk64] at PU
          have WS := Lib.hid (whole_set (key := key) hwh hj0)
          have C6 := Lib.hid hC1
          have RP := Lib.hid (hR1.put (key := key) hj0 hC1.ln hC1.le hC1.lo hC1.lw rfl (by rw [hSn1]; exact hE1) 0)
          have HSN1 := Lib.hid hSn1
          have c1 := hC1.blk.cell (i := 1) rfl
          have hsl : (S.set j (some key)).length = S.length := by rw [List.length_set]
          have HSL := Lib.hid hsl
          have HUS := Lib.hid husd
          obtain ⟨on, hon⟩ : ∃ z, N[j]? = some z := ⟨_, List.getElem?_eq_getElem (by rw [hC1.ln]; exact hjS)⟩
          obtain ⟨oe, hoe⟩ : ∃ z, Er[j]? = some z := ⟨_, List.getElem?_eq_getElem (by rw [hC1.le]; exact hjS)⟩
          obtain ⟨oo, hoo⟩ : ∃ z, O[E0.length]? = some z := ⟨_, List.getElem?_eq_getElem (by rw [hC1.lo, hSn1]; exact hE1)⟩
          obtain ⟨ow, how⟩ : ∃ z, W[j]? = some z := ⟨_, List.getElem?_eq_getElem (by rw [hC1.lw]; exact hjS)⟩
          have ON := Lib.hid hon
          have OE := Lib.hid hoe
          have OO := Lib.hid hoo
          have OW := Lib.hid how
          have hE1S : E0.length < S.length := by rw [hSn1]; exact hE1
          have hS2 : S.length ≤ 2000 := by rw [hSn1]; exact hn64
          clear hC1 hR1 hSn1 hfl hj0 husd hwh hsl hon hoe hoo how
          go_wp2_with fail
          refine PU.out.mono ?_
          rintro e7 w7 ⟨rfl, hI7, hM7⟩
          have I7 := Lib.hid hI7
          have M7 := Lib.hid hM7
          have NI := Lib.hid C6.out.ni
          have BP7 := Lib.hid (hM7.blk C6.out.blk (NI.out _ (by simp [SB.own])))
          have BN7 := Lib.hid (hM7.blk C6.out.cn (NI.out _ (by simp [SB.own])))
          have BE7 := Lib.hid (hM7.blk C6.out.ce (NI.out _ (by simp [SB.own])))
          have BO7 := Lib.hid (hM7.blk C6.out.co (NI.out _ (by simp [SB.own])))
          have BW7 := Lib.hid (hM7.blk C6.out.cw (NI.out _ (by simp [SB.own])))
          have c2 := BP7.out.cell (i := 2) rfl
          have c3 := BP7.out.cell (i := 3) rfl
          have cn := BN7.out.cell (i64s_get ON.out)
          have ce := BE7.out.cell (i64s_get OE.out)
          have fn := BN7.out.free j
          have fe := BE7.out.free j
          have ne1 := C6.out.ne.2.1.1
          clear hI7 hM7 c1
          generalize hms : S.length = ms at c2 c3 BP7 hjS hE1S hS2
          have HMS := Lib.hid hms
          clear hms
          go_wp2_with fail
          refine wp_region_lex (by kernel_rfl) (by kernel_rfl) ?_
          go_wp2_with fail
          refine ⟨by kernel_rfl, ?_⟩
          have M8 : Hid (Mod [B.nb, B.eb] w7 ((w7.setCell ⟨B.nb, j, none⟩ (.int .i64 0)).setCell ⟨B.eb, j, none⟩ (.int .i64 0)).drew) := Lib.hid ((((Mod.refl [B.nb, B.eb] w7)).setCell (p := ⟨B.nb, j, none⟩) (.inl (by simp)) _).setCell (p := ⟨B.eb, j, none⟩) (.inl (by simp)) _).drew
          have BN8 := Lib.hid ((BN7.out.set j (.int .i64 0)).other (a := ⟨B.eb, j, none⟩) (by simp; exact ne1) (.int .i64 0)).drew
          have BE8 := Lib.hid ((BE7.out.other (a := ⟨B.nb, j, none⟩) (by simp; exact ne1.symm) (.int .i64 0)).set j (.int .i64 0)).drew
          rw [i64s_set] at BN8 BE8
          have nes := C6.out.ne
          have C8 : Hid (SumC ((w7.setCell ⟨B.nb, j, none⟩ (.int .i64 0)).setCell ⟨B.eb, j, none⟩ (.int .i64 0)).drew B (S.set j (some key)) fl' (N.set j 0) (Er.set j 0) O W (t0 + z)) :=
            Lib.hid ⟨by rw [HSL.out, HMS.out]; exact M8.out.blk BP7.out (by simp; exact ⟨nes.1.1, nes.1.2.1⟩), I7.out.mod M8.out (fun b hb hb' => by
              simp only [List.mem_cons, List.not_mem_nil, or_false] at hb'
              rcases hb' with rfl | rfl
              · exact NI.out _ (by simp [SB.own]) hb
              · exact NI.out _ (by simp [SB.own]) hb), BN8.out, BE8.out, M8.out.blk BO7.out (by simp; exact ⟨nes.2.1.2.1.symm, nes.2.2.1.1.symm⟩), M8.out.blk BW7.out (by simp; exact ⟨nes.2.1.2.2.symm, nes.2.2.1.2.symm⟩),
              by rw [List.length_set, HSL.out]; exact C6.out.ln, by rw [List.length_set, HSL.out]; exact C6.out.le, by rw [HSL.out]; exact C6.out.lo, by rw [HSL.out]; exact C6.out.lw, by rw [HSL.out]; exact WS.out.1, C6.out.nd, C6.out.ni⟩
          generalize ((w7.setCell ⟨B.nb, j, none⟩ (.int .i64 0)).setCell ⟨B.eb, j, none⟩ (.int .i64 0)).drew = w8 at *
          have L8 := Lib.hid (len_c C8.out)
          rw [WS.out.2, HUS.out] at L8
          have hs1 : (((E0.length + 1 : Nat) : Int) - 1) = (E0.length : Int) := by omega
          clear c2 c3 cn ce fn fe
          go_wp2_with fail
          refine L8.out.mono ?_
          rintro e8 w8' ⟨rfl, rfl⟩
          have c4 := C8.out.blk.cell (i := 4) rfl
          have c5 := C8.out.blk.cell (i := 5) rfl
          have c2 := C8.out.blk.cell (i := 2) rfl
          rw [HSL.out, HMS.out] at c4 c5 c2
          have co := C8.out.co.cell (i32s_get OO.out)
          have cw := C8.out.cw.cell (i32s_get OW.out)
          have fo := C8.out.co.free E0.length
          have fw := C8.out.cw.free j
          have ne2 := C8.out.ne.2.2.2
          have cj := C8.out.cn.cell (i64s_get (N := N.set j 0) (p := j) (z := 0) (List.getElem?_set_self (by rw [C6.out.ln, HMS.out]; exact hjS)))
          have fj := C8.out.cn.free j
          have ne3 := C8.out.ne.2.1
          go_wp2_with fail
          refine wp_region_lex (by kernel_rfl) (by kernel_rfl) ?_
          go_wp2_with fail
          refine ⟨by kernel_rfl, ?_⟩
          have M9 : Hid (Mod [B.ob, B.wb] w8 ((w8.setCell ⟨B.ob, E0.length, none⟩ (.int .i32 (j : Int))).setCell ⟨B.wb, j, none⟩ (.int .i32 (E0.length : Int))).drew) := Lib.hid ((((Mod.refl [B.ob, B.wb] w8)).setCell (p := ⟨B.ob, E0.length, none⟩) (.inl (by simp)) _).setCell (p := ⟨B.wb, j, none⟩) (.inl (by simp)) _).drew
          have BO9 := Lib.hid ((C8.out.co.set E0.length (.int .i32 (j : Int))).other (a := ⟨B.wb, j, none⟩) (by simp; exact ne2) (.int .i32 (E0.length : Int))).drew
          have BW9 := Lib.hid ((C8.out.cw.other (a := ⟨B.ob, E0.length, none⟩) (by simp; exact ne2.symm) (.int .i32 (j : Int))).set j (.int .i32 (E0.length : Int))).drew
          rw [i32s_set] at BO9 BW9
          have C9 := Lib.hid (C8.out.ow M9.out BO9.out BW9.out (by rw [List.length_set, HSL.out]; exact C6.out.lo) (by rw [List.length_set, HSL.out]; exact C6.out.lw))
          have MM := Lib.hid ((((M6.out.trans (M7.out.mono (fun b hb => .inl (own_all B b hb)))).trans (M8.out.mono (by simp [SB.all]))).trans (M9.out.mono (by simp [SB.all]))))
          generalize ((w8.setCell ⟨B.ob, E0.length, none⟩ (.int .i32 (j : Int))).setCell ⟨B.wb, j, none⟩ (.int .i32 (E0.length : Int))).drew = w9 at *
          have c2 := C9.out.blk.cell (i := 2) rfl
          rw [HSL.out, HMS.out] at c2
          have cj := C9.out.cn.cell (i64s_get (N := N.set j 0) (p := j) (z := 0) (List.getElem?_set_self (by rw [C6.out.ln, HMS.out]; exact hjS)))
          have fj := C9.out.cn.free j
          have RM := Lib.hid (rise_more (n := n) C9.out (by rw [HSL.out]; exact HSN1.out) RP.out (k := E0.length) (p := j) (e := ⟨key, 0, 0⟩) (by have := RP.out.len; simp at this; rw [← this]; simp) (by simp) z)
          simp only [Int.zero_add] at RM
          clear c4 c5 co cw fo fw
          go_wp2_with fail
          refine RM.out.mono ?_
          rintro e10 w10 ⟨⟨v10, rfl⟩, hA10, hM10⟩
          have A10 := Lib.hid hA10
          have M10 := Lib.hid (MM.out.trans hM10)
          clear hA10 hM10
          rw [HTT.out] at A10
          go_wp2_with fail
          go_end0
          exact ⟨⟨_, rfl⟩, by show SumAt _ _ _ (offerE n E0 key z) _; rw [HOF.out]; exact A10.out, M10.out⟩
    · have ho : offer n (E, total) key z = (offerE n E key z, total + z) := by unfold offer; rw [if_neg hg, if_neg hc]
      rw [ho]
      have d5 : decide ((4611686018427387904 : Int) - z ≤ total) = false := by simpa using hc
      have htz : total + z < 4611686018427387904 := by omega
      have ht0' : 0 ≤ total := ht.1
      have HA := H
      have MW := Lib.hid (Mod.refl B.all w)
      have hleq := hle
      have hEb := hE
      clear h ho hE hle ht H hg hc
      go_enter Try.func15, Try.ntmps15
      have hEb2 := Lib.hid hEb
      have hle2 := Lib.hid hleq
      obtain ⟨S, fl, N, Er, O, W, ps, hSn, hC, hR⟩ := HA.out
      have c6 := hC.blk.cell (i := 6) rfl
      have f6 := hC.blk.free 6
      have C3 := Lib.hid (hC.tot (t := total + z))
      have M3 := Lib.hid (MW.out.setCell (p := ⟨B.p, 6, none⟩) (.inl (by simp [SB.all])) (.int .i64 (total + z)))
      have FN := Lib.hid (Index.find_any C3.out.idx key hl)
      have HR := Lib.hid hR
      have hfew := hC.few
      have HSN := Lib.hid hSn
      clear hC hR hEb hleq hSn HA
      obtain ⟨w3, hw3⟩ : ∃ w3, w.setCell ⟨B.p, 6, none⟩ (.int .i64 (total + z)) = w3 := ⟨_, rfl⟩
      rw [hw3] at C3 M3 FN
      have c1 := C3.out.blk.cell (i := 1) rfl
      cases hf : findE E key with
      | some k =>
        obtain ⟨p, e, hp, he, hk, hpl⟩ := HR.out.find_some C3.out.idx.uniq hf
        obtain ⟨hS, hN, _, _, _⟩ := HR.out.at_ k p e hp he
        have hpS : p < S.length := (List.getElem?_eq_some_iff.1 hS).1
        rw [hpl] at FN
        simp only [optInt] at FN
        have hen := hEb2.out e (List.mem_of_getElem? he)
        have CNp := Lib.hid (i64s_get hN)
        have HP := Lib.hid hp
        have HE := Lib.hid he
        have hof : offerE n E key z = bumpAt E k z := by unfold offerE; rw [hf]
        have HOF := Lib.hid hof
        clear hp he hk hpl hS hN hof hf
        go_wp2_with fail
        refine FN.out.mono ?_
        rintro e4 w4 ⟨rfl, hM4⟩
        have C4 := Lib.hid (C3.out.mod hM4 (by simp))
        have M4 := Lib.hid (M3.out.trans (hM4.mono (by simp)))
        have c2 := C4.out.blk.cell (i := 2) rfl
        have cN := C4.out.cn.cell CNp.out
        have fN := C4.out.cn.free p
        have RM := Lib.hid (rise_more C4.out HSN.out HR.out HP.out HE.out z)
        clear hM4 c1 c6 f6 hw3
        obtain ⟨fk, en, fe⟩ := e
        simp only at *
        generalize S.length = m at *
        go_wp2_with fail
        refine RM.out.mono ?_
        rintro e5 w5 ⟨⟨v5, rfl⟩, hA5, hM5⟩
        have A5 := Lib.hid hA5

        have M5 := Lib.hid (M4.out.trans hM5)
        clear hA5 hM5
        go_wp2_with fail
        go_end0
        exact ⟨⟨_, rfl⟩, by show SumAt _ _ _ (offerE n E key z) _; rw [HOF.out]; exact A5.out, M5.out⟩
      | none =>
        rw [HR.out.find_none hf] at FN
        simp only [optInt] at FN
        have L3 := Lib.hid (fun W' (hM : Mod [] w3 W') => len_c (C3.out.mod hM (by simp)))
        rw [HR.out.used] at L3
        have HF := Lib.hid hf
        clear hf
        by_cases hfull : E.length = n
        · have d6 : ((E.length : Int) == (S.length : Int)) = true := by rw [HSN.out]; simp; omega
          obtain ⟨E1, e, hEe⟩ : ∃ E1 e, E = E1 ++ [e] := by
            rcases List.eq_nil_or_concat E with h0 | ⟨E1, e, h0⟩
            · rw [h0] at hfull; simp at hfull; omega
            · exact ⟨E1, e, by rw [h0, List.concat_eq_append]⟩
          have DR := Lib.hid (fun W' (hM : Mod [] w3 W') => drop_any (E := E1) (e := e) (n := n) (total := total + z) (by rw [← hEe]; exact ⟨S, fl, N, Er, O, W, ps, HSN.out, C3.out.mod hM (by simp), HR.out⟩))
          have hE1 : E1.length < n := by rw [hEe] at hfull; simp at hfull; omega
          have hof : offerE n E key z = bumpAt (E1 ++ [⟨key, e.n, e.n⟩]) E1.length z := by
            have h1 : shed n E = E1 := by unfold shed; rw [if_pos hfull, ← hfull, hEe]; simp
            have h2 : leastOf n E = e.n := by unfold leastOf; rw [if_pos hfull, ← hfull, hEe, List.getD_eq_getElem?_getD]; simp
            unfold offerE; rw [HF.out]; simp only; rw [h1, h2]
          have HOF := Lib.hid hof
          have hen := hEb2.out e (by rw [hEe]; simp)
          have hno : findE E1 key = none := by
            have := findE_no HF.out
            rw [hEe] at this
            unfold findE
            rw [List.findIdx?_eq_none_iff]
            intro x hx
            have := this x (List.mem_append_left _ hx)
            simpa using this
          have HNO := Lib.hid hno
          have hn64 : n ≤ 2000 := by rw [← HSN.out]; exact hfew
          have hel : E.length ≤ 2000 := by omega
          clear hEe hof hno
          obtain ⟨fk, en, fe⟩ := e
          simp only at *
          go_wp2_with fail
          refine FN.out.mono ?_
          rintro e4 w4 ⟨rfl, hM4⟩
          have N4 := Lib.hid hM4
          have c2 := (C3.out.mod hM4 (by simp)).blk.cell (i := 2) rfl
          have isc : IsC w4.drew B.p := isC_of_cell (w := w4) c2
          have IS := Lib.hid isc
          clear hM4 isc c1 c6 f6 hw3
          generalize S.length = m at *
          go_wp2_with fail
          refine wp_region_held [2] [5] [] (by kernel_rfl) (by kernel_rfl) ?_
          simp only [wpCut, List.take_succ_cons, List.take_zero, List.drop_succ_cons, List.drop_zero, List.cons_append, List.nil_append]
          go_wp2_with fail
          refine (L3.out _ (N4.out.drew)).mono ?_
          rintro e5 w5 ⟨rfl, rfl⟩
          go_wp2_with fail
          refine ⟨Mod.refl _ _, ?_⟩
          go_wp2_with fail
          refine ⟨by kernel_rfl, ⟨⟨by simp, IS.out⟩, trivial⟩, ?_⟩
          go_wp2_with fail
          refine (DR.out _ (N4.out.drew)).mono ?_
          rintro e6 w6 ⟨rfl, hA6, hM6⟩
          have M6 := Lib.hid ((M3.out.trans (N4.out.drew.mono (by simp))).trans hM6)
          obtain ⟨S1, fl1, N1, Er1, O1, W1, ps1, hSn1, hC1, hR1⟩ := hA6
          clear hM6 c2
          have husd := hR1.used
          have hwh := hC1.whole
          have hlow : en + z < 4611686018427387904 := by omega
          have hlow0 : 0 ≤ en := by omega
          obtain ⟨j, fl', hfl⟩ : ∃ j fl', fl1 = j :: fl' := by
            cases hq : fl1 with
            | nil => have := hwh.2; rw [hq, husd] at this; simp at this; omega
            | cons j fl' => exact ⟨j, fl', rfl⟩
          rw [hfl] at hC1 hwh
          have hj0 := hC1.idx.free0
          have hjS : j < S1.length := (List.getElem?_eq_some_iff.1 hj0).1
          have PU := Lib.hid (put_any hC1.idx key (by omega))
          rw [putS_yes (hR1.find_none HNO.out) hk64] at PU
          have WS := Lib.hid (whole_set (key := key) hwh hj0)
          have C6 := Lib.hid hC1
          have RP := Lib.hid (hR1.put (key := key) hj0 hC1.ln hC1.le hC1.lo hC1.lw rfl (by rw [hSn1]; exact hE1) en)
          have HSN1 := Lib.hid hSn1
          have c1 := hC1.blk.cell (i := 1) rfl
          have hsl : (S1.set j (some key)).length = S1.length := by rw [List.length_set]
          have HSL := Lib.hid hsl
          have HUS := Lib.hid husd
          obtain ⟨on, hon⟩ : ∃ z, N1[j]? = some z := ⟨_, List.getElem?_eq_getElem (by rw [hC1.ln]; exact hjS)⟩
          obtain ⟨oe, hoe⟩ : ∃ z, Er1[j]? = some z := ⟨_, List.getElem?_eq_getElem (by rw [hC1.le]; exact hjS)⟩
          obtain ⟨oo, hoo⟩ : ∃ z, O1[E1.length]? = some z := ⟨_, List.getElem?_eq_getElem (by rw [hC1.lo, hSn1]; exact hE1)⟩
          obtain ⟨ow, how⟩ : ∃ z, W1[j]? = some z := ⟨_, List.getElem?_eq_getElem (by rw [hC1.lw]; exact hjS)⟩
          have ON := Lib.hid hon
          have OE := Lib.hid hoe
          have OO := Lib.hid hoo
          have OW := Lib.hid how
          have hE1S : E1.length < S1.length := by rw [hSn1]; exact hE1
          have hS2 : S1.length ≤ 2000 := by rw [hSn1]; exact hn64
          clear hC1 hR1 hSn1 hfl hj0 husd hwh hsl hon hoe hoo how
          go_wp2_with fail
          refine PU.out.mono ?_
          rintro e7 w7 ⟨rfl, hI7, hM7⟩
          have I7 := Lib.hid hI7
          have M7 := Lib.hid hM7
          have NI := Lib.hid C6.out.ni
          have BP7 := Lib.hid (hM7.blk C6.out.blk (NI.out _ (by simp [SB.own])))
          have BN7 := Lib.hid (hM7.blk C6.out.cn (NI.out _ (by simp [SB.own])))
          have BE7 := Lib.hid (hM7.blk C6.out.ce (NI.out _ (by simp [SB.own])))
          have BO7 := Lib.hid (hM7.blk C6.out.co (NI.out _ (by simp [SB.own])))
          have BW7 := Lib.hid (hM7.blk C6.out.cw (NI.out _ (by simp [SB.own])))
          have c2 := BP7.out.cell (i := 2) rfl
          have c3 := BP7.out.cell (i := 3) rfl
          have cn := BN7.out.cell (i64s_get ON.out)
          have ce := BE7.out.cell (i64s_get OE.out)
          have fn := BN7.out.free j
          have fe := BE7.out.free j
          have ne1 := C6.out.ne.2.1.1
          clear hI7 hM7 c1
          generalize hms : S1.length = ms at c2 c3 BP7 hjS hE1S hS2
          have HMS := Lib.hid hms
          clear hms
          go_wp2_with fail
          refine wp_region_lex (by kernel_rfl) (by kernel_rfl) ?_
          go_wp2_with fail
          refine ⟨by kernel_rfl, ?_⟩
          have M8 : Hid (Mod [B.nb, B.eb] w7 ((w7.setCell ⟨B.nb, j, none⟩ (.int .i64 en)).setCell ⟨B.eb, j, none⟩ (.int .i64 en)).drew) := Lib.hid ((((Mod.refl [B.nb, B.eb] w7)).setCell (p := ⟨B.nb, j, none⟩) (.inl (by simp)) _).setCell (p := ⟨B.eb, j, none⟩) (.inl (by simp)) _).drew
          have BN8 := Lib.hid ((BN7.out.set j (.int .i64 en)).other (a := ⟨B.eb, j, none⟩) (by simp; exact ne1) (.int .i64 en)).drew
          have BE8 := Lib.hid ((BE7.out.other (a := ⟨B.nb, j, none⟩) (by simp; exact ne1.symm) (.int .i64 en)).set j (.int .i64 en)).drew
          rw [i64s_set] at BN8 BE8
          have nes := C6.out.ne
          have C8 : Hid (SumC ((w7.setCell ⟨B.nb, j, none⟩ (.int .i64 en)).setCell ⟨B.eb, j, none⟩ (.int .i64 en)).drew B (S1.set j (some key)) fl' (N1.set j en) (Er1.set j en) O1 W1 (total + z)) :=
            Lib.hid ⟨by rw [HSL.out, HMS.out]; exact M8.out.blk BP7.out (by simp; exact ⟨nes.1.1, nes.1.2.1⟩), I7.out.mod M8.out (fun b hb hb' => by
              simp only [List.mem_cons, List.not_mem_nil, or_false] at hb'
              rcases hb' with rfl | rfl
              · exact NI.out _ (by simp [SB.own]) hb
              · exact NI.out _ (by simp [SB.own]) hb), BN8.out, BE8.out, M8.out.blk BO7.out (by simp; exact ⟨nes.2.1.2.1.symm, nes.2.2.1.1.symm⟩), M8.out.blk BW7.out (by simp; exact ⟨nes.2.1.2.2.symm, nes.2.2.1.2.symm⟩),
              by rw [List.length_set, HSL.out]; exact C6.out.ln, by rw [List.length_set, HSL.out]; exact C6.out.le, by rw [HSL.out]; exact C6.out.lo, by rw [HSL.out]; exact C6.out.lw, by rw [HSL.out]; exact WS.out.1, C6.out.nd, C6.out.ni⟩
          generalize ((w7.setCell ⟨B.nb, j, none⟩ (.int .i64 en)).setCell ⟨B.eb, j, none⟩ (.int .i64 en)).drew = w8 at *
          have L8 := Lib.hid (len_c C8.out)
          rw [WS.out.2, HUS.out] at L8
          have hs1 : (((E1.length + 1 : Nat) : Int) - 1) = (E1.length : Int) := by omega
          clear c2 c3 cn ce fn fe
          go_wp2_with fail
          refine L8.out.mono ?_
          rintro e8 w8' ⟨rfl, rfl⟩
          have c4 := C8.out.blk.cell (i := 4) rfl
          have c5 := C8.out.blk.cell (i := 5) rfl
          have c2 := C8.out.blk.cell (i := 2) rfl
          rw [HSL.out, HMS.out] at c4 c5 c2
          have co := C8.out.co.cell (i32s_get OO.out)
          have cw := C8.out.cw.cell (i32s_get OW.out)
          have fo := C8.out.co.free E1.length
          have fw := C8.out.cw.free j
          have ne2 := C8.out.ne.2.2.2
          have cj := C8.out.cn.cell (i64s_get (N := N1.set j en) (p := j) (z := en) (List.getElem?_set_self (by rw [C6.out.ln, HMS.out]; exact hjS)))
          have fj := C8.out.cn.free j
          have ne3 := C8.out.ne.2.1
          go_wp2_with fail
          refine wp_region_lex (by kernel_rfl) (by kernel_rfl) ?_
          go_wp2_with fail
          refine ⟨by kernel_rfl, ?_⟩
          have M9 : Hid (Mod [B.ob, B.wb] w8 ((w8.setCell ⟨B.ob, E1.length, none⟩ (.int .i32 (j : Int))).setCell ⟨B.wb, j, none⟩ (.int .i32 (E1.length : Int))).drew) := Lib.hid ((((Mod.refl [B.ob, B.wb] w8)).setCell (p := ⟨B.ob, E1.length, none⟩) (.inl (by simp)) _).setCell (p := ⟨B.wb, j, none⟩) (.inl (by simp)) _).drew
          have BO9 := Lib.hid ((C8.out.co.set E1.length (.int .i32 (j : Int))).other (a := ⟨B.wb, j, none⟩) (by simp; exact ne2) (.int .i32 (E1.length : Int))).drew
          have BW9 := Lib.hid ((C8.out.cw.other (a := ⟨B.ob, E1.length, none⟩) (by simp; exact ne2.symm) (.int .i32 (j : Int))).set j (.int .i32 (E1.length : Int))).drew
          rw [i32s_set] at BO9 BW9
          have C9 := Lib.hid (C8.out.ow M9.out BO9.out BW9.out (by rw [List.length_set, HSL.out]; exact C6.out.lo) (by rw [List.length_set, HSL.out]; exact C6.out.lw))
          have MM := Lib.hid ((((M6.out.trans (M7.out.mono (fun b hb => .inl (own_all B b hb)))).trans (M8.out.mono (by simp [SB.all]))).trans (M9.out.mono (by simp [SB.all]))))
          generalize ((w8.setCell ⟨B.ob, E1.length, none⟩ (.int .i32 (j : Int))).setCell ⟨B.wb, j, none⟩ (.int .i32 (E1.length : Int))).drew = w9 at *
          have c2 := C9.out.blk.cell (i := 2) rfl
          rw [HSL.out, HMS.out] at c2
          have cj := C9.out.cn.cell (i64s_get (N := N1.set j en) (p := j) (z := en) (List.getElem?_set_self (by rw [C6.out.ln, HMS.out]; exact hjS)))
          have fj := C9.out.cn.free j
          have RM := Lib.hid (rise_more (n := n) C9.out (by rw [HSL.out]; exact HSN1.out) RP.out (k := E1.length) (p := j) (e := ⟨key, en, en⟩) (by have := RP.out.len; simp at this; rw [← this]; simp) (by simp) z)

          clear c4 c5 co cw fo fw
          go_wp2_with fail
          refine RM.out.mono ?_
          rintro e10 w10 ⟨⟨v10, rfl⟩, hA10, hM10⟩
          have A10 := Lib.hid hA10
          have M10 := Lib.hid (MM.out.trans hM10)
          clear hA10 hM10

          go_wp2_with fail
          go_end0
          exact ⟨⟨_, rfl⟩, by show SumAt _ _ _ (offerE n E key z) _; rw [HOF.out]; exact A10.out, M10.out⟩
        · have d6 : ((E.length : Int) == (S.length : Int)) = false := by rw [HSN.out]; simp; omega
          have hel : E.length ≤ 2000 := by have := hle2.out; rw [← HSN.out] at this; omega
          have hE1 : E.length < n := by have := hle2.out; omega
          have hof : offerE n E key z = bumpAt (E ++ [⟨key, 0, 0⟩]) E.length z := by
            have h1 : shed n E = E := by unfold shed; rw [if_neg hfull]
            have h2 : leastOf n E = 0 := by unfold leastOf; rw [if_neg hfull]
            unfold offerE; rw [HF.out]; simp only; rw [h1, h2]
          have HOF := Lib.hid hof
          have hn64 : n ≤ 2000 := by rw [← HSN.out]; exact hfew
          have HNO := HF
          clear hof
          go_wp2_with fail
          refine FN.out.mono ?_
          rintro e4 w4 ⟨rfl, hM4⟩
          have N4 := Lib.hid hM4
          have c2 := (C3.out.mod hM4 (by simp)).blk.cell (i := 2) rfl
          have isc : IsC w4.drew B.p := isC_of_cell (w := w4) c2
          have IS := Lib.hid isc
          have c1w := (C3.out.mod hM4.drew (by simp)).blk.cell (i := 1) rfl
          clear hM4 isc c1 c6 f6 hw3
          go_wp2_with fail
          refine wp_region_held [2] [5] [] (by kernel_rfl) (by kernel_rfl) ?_
          simp only [wpCut, List.take_succ_cons, List.take_zero, List.drop_succ_cons, List.drop_zero, List.cons_append, List.nil_append]
          go_wp2_with fail
          refine (L3.out _ (N4.out.drew)).mono ?_
          rintro e5 w5 ⟨rfl, rfl⟩
          go_wp2_with fail
          refine ⟨Mod.refl _ _, ?_⟩
          go_wp2_with fail
          refine ⟨by kernel_rfl, ⟨⟨by simp, IS.out⟩, trivial⟩, ?_⟩
          have M6 := Lib.hid (M3.out.trans (N4.out.drew.mono (by simp)))
          have hC1 := C3.out.mod N4.out.drew (by simp)
          have hR1 := HR.out
          have hSn1 := HSN.out
          clear c2 c1w
          obtain ⟨w6, hw6⟩ : ∃ w6, w4.drew = w6 := ⟨_, rfl⟩
          rw [hw6] at M6 hC1 ⊢
          clear hw6
          have husd := hR1.used
          have hwh := hC1.whole
          have hlow : 0 + z < 4611686018427387904 := by omega
          have hlow0 : 0 ≤ 0 := by omega
          obtain ⟨j, fl', hfl⟩ : ∃ j fl', fl = j :: fl' := by
            cases hq : fl with
            | nil => have := hwh.2; rw [hq, husd] at this; simp at this; omega
            | cons j fl' => exact ⟨j, fl', rfl⟩
          rw [hfl] at hC1 hwh
          have hj0 := hC1.idx.free0
          have hjS : j < S.length := (List.getElem?_eq_some_iff.1 hj0).1
          have PU := Lib.hid (put_any hC1.idx key (by omega))
          rw [putS_yes (hR1.find_none HNO.out) hk64] at PU
          have WS := Lib.hid (whole_set (key := key) hwh hj0)
          have C6 := Lib.hid hC1
          have RP := Lib.hid (hR1.put (key := key) hj0 hC1.ln hC1.le hC1.lo hC1.lw rfl (by rw [hSn1]; exact hE1) 0)
          have HSN1 := Lib.hid hSn1
          have c1 := hC1.blk.cell (i := 1) rfl
          have hsl : (S.set j (some key)).length = S.length := by rw [List.length_set]
          have HSL := Lib.hid hsl
          have HUS := Lib.hid husd
          obtain ⟨on, hon⟩ : ∃ z, N[j]? = some z := ⟨_, List.getElem?_eq_getElem (by rw [hC1.ln]; exact hjS)⟩
          obtain ⟨oe, hoe⟩ : ∃ z, Er[j]? = some z := ⟨_, List.getElem?_eq_getElem (by rw [hC1.le]; exact hjS)⟩
          obtain ⟨oo, hoo⟩ : ∃ z, O[E.length]? = some z := ⟨_, List.getElem?_eq_getElem (by rw [hC1.lo, hSn1]; exact hE1)⟩
          obtain ⟨ow, how⟩ : ∃ z, W[j]? = some z := ⟨_, List.getElem?_eq_getElem (by rw [hC1.lw]; exact hjS)⟩
          have ON := Lib.hid hon
          have OE := Lib.hid hoe
          have OO := Lib.hid hoo
          have OW := Lib.hid how
          have hE1S : E.length < S.length := by rw [hSn1]; exact hE1
          have hS2 : S.length ≤ 2000 := by rw [hSn1]; exact hn64
          clear hC1 hR1 hSn1 hfl hj0 husd hwh hsl hon hoe hoo how
          go_wp2_with fail
          refine PU.out.mono ?_
          rintro e7 w7 ⟨rfl, hI7, hM7⟩
          have I7 := Lib.hid hI7
          have M7 := Lib.hid hM7
          have NI := Lib.hid C6.out.ni
          have BP7 := Lib.hid (hM7.blk C6.out.blk (NI.out _ (by simp [SB.own])))
          have BN7 := Lib.hid (hM7.blk C6.out.cn (NI.out _ (by simp [SB.own])))
          have BE7 := Lib.hid (hM7.blk C6.out.ce (NI.out _ (by simp [SB.own])))
          have BO7 := Lib.hid (hM7.blk C6.out.co (NI.out _ (by simp [SB.own])))
          have BW7 := Lib.hid (hM7.blk C6.out.cw (NI.out _ (by simp [SB.own])))
          have c2 := BP7.out.cell (i := 2) rfl
          have c3 := BP7.out.cell (i := 3) rfl
          have cn := BN7.out.cell (i64s_get ON.out)
          have ce := BE7.out.cell (i64s_get OE.out)
          have fn := BN7.out.free j
          have fe := BE7.out.free j
          have ne1 := C6.out.ne.2.1.1
          clear hI7 hM7 c1
          generalize hms : S.length = ms at c2 c3 BP7 hjS hE1S hS2
          have HMS := Lib.hid hms
          clear hms
          go_wp2_with fail
          refine wp_region_lex (by kernel_rfl) (by kernel_rfl) ?_
          go_wp2_with fail
          refine ⟨by kernel_rfl, ?_⟩
          have M8 : Hid (Mod [B.nb, B.eb] w7 ((w7.setCell ⟨B.nb, j, none⟩ (.int .i64 0)).setCell ⟨B.eb, j, none⟩ (.int .i64 0)).drew) := Lib.hid ((((Mod.refl [B.nb, B.eb] w7)).setCell (p := ⟨B.nb, j, none⟩) (.inl (by simp)) _).setCell (p := ⟨B.eb, j, none⟩) (.inl (by simp)) _).drew
          have BN8 := Lib.hid ((BN7.out.set j (.int .i64 0)).other (a := ⟨B.eb, j, none⟩) (by simp; exact ne1) (.int .i64 0)).drew
          have BE8 := Lib.hid ((BE7.out.other (a := ⟨B.nb, j, none⟩) (by simp; exact ne1.symm) (.int .i64 0)).set j (.int .i64 0)).drew
          rw [i64s_set] at BN8 BE8
          have nes := C6.out.ne
          have C8 : Hid (SumC ((w7.setCell ⟨B.nb, j, none⟩ (.int .i64 0)).setCell ⟨B.eb, j, none⟩ (.int .i64 0)).drew B (S.set j (some key)) fl' (N.set j 0) (Er.set j 0) O W (total + z)) :=
            Lib.hid ⟨by rw [HSL.out, HMS.out]; exact M8.out.blk BP7.out (by simp; exact ⟨nes.1.1, nes.1.2.1⟩), I7.out.mod M8.out (fun b hb hb' => by
              simp only [List.mem_cons, List.not_mem_nil, or_false] at hb'
              rcases hb' with rfl | rfl
              · exact NI.out _ (by simp [SB.own]) hb
              · exact NI.out _ (by simp [SB.own]) hb), BN8.out, BE8.out, M8.out.blk BO7.out (by simp; exact ⟨nes.2.1.2.1.symm, nes.2.2.1.1.symm⟩), M8.out.blk BW7.out (by simp; exact ⟨nes.2.1.2.2.symm, nes.2.2.1.2.symm⟩),
              by rw [List.length_set, HSL.out]; exact C6.out.ln, by rw [List.length_set, HSL.out]; exact C6.out.le, by rw [HSL.out]; exact C6.out.lo, by rw [HSL.out]; exact C6.out.lw, by rw [HSL.out]; exact WS.out.1, C6.out.nd, C6.out.ni⟩
          generalize ((w7.setCell ⟨B.nb, j, none⟩ (.int .i64 0)).setCell ⟨B.eb, j, none⟩ (.int .i64 0)).drew = w8 at *
          have L8 := Lib.hid (len_c C8.out)
          rw [WS.out.2, HUS.out] at L8
          have hs1 : (((E.length + 1 : Nat) : Int) - 1) = (E.length : Int) := by omega
          clear c2 c3 cn ce fn fe
          go_wp2_with fail
          refine L8.out.mono ?_
          rintro e8 w8' ⟨rfl, rfl⟩
          have c4 := C8.out.blk.cell (i := 4) rfl
          have c5 := C8.out.blk.cell (i := 5) rfl
          have c2 := C8.out.blk.cell (i := 2) rfl
          rw [HSL.out, HMS.out] at c4 c5 c2
          have co := C8.out.co.cell (i32s_get OO.out)
          have cw := C8.out.cw.cell (i32s_get OW.out)
          have fo := C8.out.co.free E.length
          have fw := C8.out.cw.free j
          have ne2 := C8.out.ne.2.2.2
          have cj := C8.out.cn.cell (i64s_get (N := N.set j 0) (p := j) (z := 0) (List.getElem?_set_self (by rw [C6.out.ln, HMS.out]; exact hjS)))
          have fj := C8.out.cn.free j
          have ne3 := C8.out.ne.2.1
          go_wp2_with fail
          refine wp_region_lex (by kernel_rfl) (by kernel_rfl) ?_
          go_wp2_with fail
          refine ⟨by kernel_rfl, ?_⟩
          have M9 : Hid (Mod [B.ob, B.wb] w8 ((w8.setCell ⟨B.ob, E.length, none⟩ (.int .i32 (j : Int))).setCell ⟨B.wb, j, none⟩ (.int .i32 (E.length : Int))).drew) := Lib.hid ((((Mod.refl [B.ob, B.wb] w8)).setCell (p := ⟨B.ob, E.length, none⟩) (.inl (by simp)) _).setCell (p := ⟨B.wb, j, none⟩) (.inl (by simp)) _).drew
          have BO9 := Lib.hid ((C8.out.co.set E.length (.int .i32 (j : Int))).other (a := ⟨B.wb, j, none⟩) (by simp; exact ne2) (.int .i32 (E.length : Int))).drew
          have BW9 := Lib.hid ((C8.out.cw.other (a := ⟨B.ob, E.length, none⟩) (by simp; exact ne2.symm) (.int .i32 (j : Int))).set j (.int .i32 (E.length : Int))).drew
          rw [i32s_set] at BO9 BW9
          have C9 := Lib.hid (C8.out.ow M9.out BO9.out BW9.out (by rw [List.length_set, HSL.out]; exact C6.out.lo) (by rw [List.length_set, HSL.out]; exact C6.out.lw))
          have MM := Lib.hid ((((M6.out.trans (M7.out.mono (fun b hb => .inl (own_all B b hb)))).trans (M8.out.mono (by simp [SB.all]))).trans (M9.out.mono (by simp [SB.all]))))
          generalize ((w8.setCell ⟨B.ob, E.length, none⟩ (.int .i32 (j : Int))).setCell ⟨B.wb, j, none⟩ (.int .i32 (E.length : Int))).drew = w9 at *
          have c2 := C9.out.blk.cell (i := 2) rfl
          rw [HSL.out, HMS.out] at c2
          have cj := C9.out.cn.cell (i64s_get (N := N.set j 0) (p := j) (z := 0) (List.getElem?_set_self (by rw [C6.out.ln, HMS.out]; exact hjS)))
          have fj := C9.out.cn.free j
          have RM := Lib.hid (rise_more (n := n) C9.out (by rw [HSL.out]; exact HSN1.out) RP.out (k := E.length) (p := j) (e := ⟨key, 0, 0⟩) (by have := RP.out.len; simp at this; rw [← this]; simp) (by simp) z)
          simp only [Int.zero_add] at RM
          clear c4 c5 co cw fo fw
          go_wp2_with fail
          refine RM.out.mono ?_
          rintro e10 w10 ⟨⟨v10, rfl⟩, hA10, hM10⟩
          have A10 := Lib.hid hA10
          have M10 := Lib.hid (MM.out.trans hM10)
          clear hA10 hM10

          go_wp2_with fail
          go_end0
          exact ⟨⟨_, rfl⟩, by show SumAt _ _ _ (offerE n E key z) _; rw [HOF.out]; exact A10.out, M10.out⟩
end Go.Proofs.Ytpobjhmfidebbaa.Sum
