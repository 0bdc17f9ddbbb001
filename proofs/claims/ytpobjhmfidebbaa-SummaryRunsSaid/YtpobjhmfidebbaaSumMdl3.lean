/- The law's own model of a summary: offer, walked. -/
import Derived.Test.YtpobjhmfidebbaaSumMdl2
import Derived.Test.YtpobjhmfidebbaaOwn
import Derived.Test.YtpobjhmfidebbaaSumLaw2
import Derived.Deep.Cut
import Derived.Maps.AppendAt
namespace Go.Proofs.Ytpobjhmfidebbaa.Sum
open Go Go.RowKit Go.YtpobjhmfidebbaaMem Go.YtpobjhmfidebbaaLex Go.YtpobjhmfidebbaaRange Go.Proofs.Ytpobjhmfidebbaa.Hash Go.Proofs.Ytpobjhmfidebbaa.Keys Go.Proofs.Ytpobjhmfidebbaa.Index
set_option linter.unusedVariables false
set_option linter.unusedSimpArgs false

set_option maxRecDepth 8000 in
set_option maxHeartbeats 6400000 in
theorem mdl_new {w : World} {mb base n : Nat} {v : Value} {E : List Ent} {t : Int} (h : MdlAt w mb base v (E, t)) (ho : OkE n E t) (hn : 1 ≤ n ∧ n ≤ 16) (key : List UInt8) (hk : key.length ≤ 64) (z : Int) (hz : 1 ≤ z ∧ z < 4611686018427387904) (hc : t < 4611686018427387904 - z) (hB : mb < base ∧ base ≤ w.heap.size) (hf : findE E key = none) :
    Calls Try.prog 23 #[.pointer (some ⟨mb, 0, none⟩), .int .i64 (n : Int), .string ⟨key.toArray⟩, .int .i64 z] w (MdlPost mb base v (offerE n E key z, t + z) w) := by
  have hsz : (ByteArray.mk key.toArray).size = key.length := by simp [ByteArray.size]
  have d1 : decide (z < 1) = false := by simp; omega
  have d2 : decide (4611686018427387904 ≤ z) = false := by simp; omega
  have d3 : decide ((64 : Int) < key.length) = false := by simp; omega
  have d4 : decide (64 < key.length) = false := by simp; omega
  have d5 : decide (4611686018427387904 - z ≤ t) = false := by simp; omega
  have ht0 := ho.lt
  have hEl := ho.len
  obtain ⟨a, c, rfl⟩ := own_slice h.row
  have HO := Lib.hid ho
  have HB := Lib.hid h.blk
  have HR := Lib.hid h.row
  have HF := Lib.hid hf
  have HOF : Hid (offerE n E key z = bumpAt (shed n E ++ [⟨key, leastOf n E, leastOf n E⟩]) (shed n E).length z) := Lib.hid (by unfold offerE; rw [hf])
  have b0 := h.blk.cell (i := 0) rfl
  have b1 := h.blk.cell (i := 1) rfl
  have f1 := h.blk.free 1
  have S1 := Lib.hid (show Blk (w.setCell ⟨mb, 1, none⟩ (.int .i64 (t + z))) mb 59 [.slice a E.length c, .int .i64 (t + z)] from h.blk.set 1 _)
  have SM := Lib.hid ((Mod.refl [mb] w).setCell (p := ⟨mb, 1, none⟩) (.inl (by simp)) (.int .i64 (t + z)))
  have hne := own_ne h.row h.blk (by decide)
  have SR := Lib.hid (SM.out.own h.row (fun b hb => by simp; rintro rfl; exact hne (by simp [hb])))
  have s0 := S1.out.cell (i := 0) rfl
  clear h ho hf
  go_enter Try.func23, Try.ntmps23
  go_wp2_with fail
  obtain ⟨w1, hw1⟩ : ∃ w1, w.setCell ⟨mb, 1, none⟩ (.int .i64 (t + z)) = w1 := ⟨_, rfl⟩
  rw [hw1] at S1 SM SR s0 ⊢
  clear hw1 b0 b1 f1
  go_loopw [49, 8] (fun i at_ wr => ∃ j : Nat, j ≤ E.length ∧ i = .int .i64 (j : Int) ∧ at_ = .int .i64 (-1) ∧ Mod [] w1 wr) (fun i _ _ => E.length - (intOf i).toNat)
  case atStart => exact ⟨0, Nat.zero_le _, rfl, rfl, Mod.refl _ _⟩
  case round =>
    obtain ⟨j, hj, rfl, rfl, hM⟩ := hrel
    have MR := Lib.hid hM
    by_cases hlt : j < E.length
    · obtain ⟨x, hx⟩ : ∃ x, E[j]? = some x := ⟨_, List.getElem?_eq_getElem hlt⟩
      obtain ⟨g, c', hv', _, _, _⟩ := own_nil_iff (n := E.length) SR.out (by omega)
      simp only [Value.slice.injEq, true_and] at hv'
      obtain ⟨rfl, rfl⟩ := hv'
      have RW := MR.out.own SR.out (by simp)
      have x0 := own_get RW (i := j * 3) ((flatE_get E j x hx 0 (by omega)).trans rfl)
      have x1 := own_get RW (i := j * 3 + 1) (by rw [flatE_get E j x hx 1 (by omega)]; rfl)
      have x2 := own_get RW (i := j * 3 + 2) (by rw [flatE_get E j x hx 2 (by omega)]; rfl)
      have A1 := Lib.hid ((Mod.refl [] wr).alloc (.cells x.cells.toArray 46))
      have hxk := findE_no HF.out x (List.mem_of_getElem? hx)
      have dk : (x.key == key) = false := by simpa using hxk
      obtain ⟨xk, xn, xe⟩ := x
      simp only [Ent.cells] at *
      clear hM RW hx
      go_wp2_with fail
      go_roundw
      case rel => exact ⟨j + 1, by omega, by go_num, rfl, MR.out.trans A1.out⟩
      case measure => simp [intOf]; omega
    · obtain rfl : j = E.length := by omega
      have OWr := Lib.hid (MR.out.own SR.out (by simp))
      have MBr := Lib.hid (MR.out.blk S1.out (by simp))
      have MTr : Hid (Mod (mb :: (Value.slice a E.length c).ownBlock.toList) w wr) := Lib.hid ((SM.out.mono (by simp)).trans (MR.out.mono (by simp)))
      by_cases hful : E.length = n
      · obtain ⟨m, hm⟩ : ∃ m : Nat, n = m + 1 := ⟨n - 1, by omega⟩
        have dq : ((E.length : Int) == (n : Int)) = true := by simp; omega
        have hnm : (n : Int) - 1 = (m : Int) := by omega
        obtain ⟨x, hx⟩ : ∃ x, E[m]? = some x := ⟨_, List.getElem?_eq_getElem (by omega)⟩
        obtain ⟨g, c', hv', _, _, _⟩ := own_nil_iff (n := E.length) OWr.out (by omega)
        simp only [Value.slice.injEq, true_and] at hv'
        obtain ⟨rfl, rfl⟩ := hv'
        have x1 := own_get OWr.out (i := m * 3 + 1) (by rw [flatE_get E m x hx 1 (by omega)]; rfl)
        have hlo : leastOf n E = x.n := by unfold leastOf; rw [if_pos hful, hm, Nat.add_sub_cancel, getD_some hx]
        have hsh : shed n E = E.take m := by unfold shed; rw [if_pos hful, hm, Nat.add_sub_cancel]
        have hx0 := HO.out.each x (List.mem_of_getElem? hx)
        have hEm : E.length = m + 1 := by omega
        have hSHl : (E.take m).length = m := by rw [List.length_take]; omega
        have c0 := MBr.out.cell (i := 0) rfl
        have f0 := MBr.out.free 0
        have OWq : Hid (rowE wr base (.slice (some ⟨g, 0, none⟩) m c) (E.take m)) := Lib.hid (by unfold rowE; rw [hSHl, ← flatE_take]; exact own_take OWr.out (by omega))
        have hmc : m ≤ c ∧ c ≤ maxLen := by
          rcases OWr.out.2 with ⟨hv, _⟩ | ⟨g', cap, cur, hv, h1, h2, h3, h4, h5, h6⟩
          · cases hv
          · simp only [Value.slice.injEq, true_and] at hv
            obtain ⟨_, rfl⟩ := hv
            omega
        have S3 := Lib.hid (show Blk (wr.setCell ⟨mb, 0, none⟩ (.slice (some ⟨g, 0, none⟩) m c)) mb 59 [.slice (some ⟨g, 0, none⟩) m c, .int .i64 (t + z)] from MBr.out.set 0 _)
        have SM3 := Lib.hid ((Mod.refl [mb] wr).setCell (p := ⟨mb, 0, none⟩) (.inl (by simp)) (.slice (some ⟨g, 0, none⟩) m c))
        have s30 := S3.out.cell (i := 0) rfl
        have ROq : Hid (rowE (wr.setCell ⟨mb, 0, none⟩ (.slice (some ⟨g, 0, none⟩) m c)) base (.slice (some ⟨g, 0, none⟩) m c) (E.take m)) := Lib.hid (SM3.out.own OWq.out (fun b hb hm => by simp at hm; subst hm; exact hne (by rw [show (Value.slice (some ⟨g, 0, none⟩) E.length c).ownBlock = some b from hb]; simp)))
        have MBq := S3
        have MTq : Hid (Mod (mb :: (Value.slice (some ⟨g, 0, none⟩) E.length c).ownBlock.toList) w (wr.setCell ⟨mb, 0, none⟩ (.slice (some ⟨g, 0, none⟩) m c))) := Lib.hid (MTr.out.trans (SM3.out.mono (by simp)))
        rw [hsh, hlo] at HOF
        obtain ⟨lo, hloe⟩ : ∃ lo, x.n = lo := ⟨_, rfl⟩
        rw [hloe] at x1 HOF hx0
        clear hM hx hlo hsh hloe hm hful
        have NBa := Lib.hid (Blk.new (wr.setCell ⟨mb, 0, none⟩ (.slice (some ⟨g, 0, none⟩) m c)) [.string ⟨key.toArray⟩, .int .i64 lo, .int .i64 lo] 46)
        rw [show (wr.setCell ⟨mb, 0, none⟩ (.slice (some ⟨g, 0, none⟩) m c)).heap.size = wr.heap.size by simp] at NBa
        have MAa := Lib.hid ((Mod.refl [] (wr.setCell ⟨mb, 0, none⟩ (.slice (some ⟨g, 0, none⟩) m c))).alloc (.cells #[.string ⟨key.toArray⟩, .int .i64 lo, .int .i64 lo] 46))
        have ROa := Lib.hid (World.ownsRow.alloc ROq.out (.cells #[.string ⟨key.toArray⟩, .int .i64 lo, .int .i64 lo] 46))
        have MBa := Lib.hid (MBq.out.alloc (.cells #[.string ⟨key.toArray⟩, .int .i64 lo, .int .i64 lo] 46))
        have mb0 := MBq.out.cell (i := 0) rfl
        have hba : Hid (base ≤ ((wr.setCell ⟨mb, 0, none⟩ (.slice (some ⟨g, 0, none⟩) m c)).alloc (.cells #[.string ⟨key.toArray⟩, .int .i64 lo, .int .i64 lo] 46)).heap.size) := Lib.hid (by have := MTq.out.size; have := MAa.out.size; omega)
        go_upto_region 18 with (at_builtin; go_loud (refine app_ent ⟨key, lo, lo⟩ _ ROa.out rfl _ _ rfl rfl rfl NBa.out hba.out (by have := hSHl; omega) ?_); intro v' w' ho' hM' hat'; obtain ⟨va, vc, hva⟩ := own_slice ho'; subst hva; have RO2 := Lib.hid ho'; have AT2 := Lib.hid hat'; clear hat'; have M2 := Lib.hid hM'; have MB2 := Lib.hid (hM'.blk MBa.out (own_ne ROa.out MBa.out (by decide))); have m0 := MB2.out.cell (i := 0) rfl; have mf0 := MB2.out.free 0; have HS2 := Lib.hid (MB2.out.set 0 (.slice va (E.take m ++ [(⟨key, lo, lo⟩ : Ent)]).length vc)); clear ho' hM' mb0)
        have hGl : (E.take m ++ [(⟨key, lo, lo⟩ : Ent)]).length = m + 1 := by rw [List.length_append, hSHl]; rfl
        obtain ⟨g2, c2, hva, _, _, _⟩ := own_nil_iff (n := (E.take m ++ [(⟨key, lo, lo⟩ : Ent)]).length) RO2.out (by omega)
        simp only [Value.slice.injEq, true_and] at hva
        obtain ⟨rfl, rfl⟩ := hva
        have HS3 : Hid (Mod [mb] w' (w'.setCell ⟨mb, 0, none⟩ (.slice (some ⟨g2, 0, none⟩) (E.take m ++ [(⟨key, lo, lo⟩ : Ent)]).length vc))) := Lib.hid ((Mod.refl [mb] w').setCell (p := ⟨mb, 0, none⟩) (.inl (by simp)) _)
        have RO3 := Lib.hid (HS3.out.own RO2.out (fun b hb hm => by simp at hm; subst hm; exact (own_ne RO2.out MB2.out (by decide)) (by rw [hb]; simp)))
        have NQ : Hid (Mod (mb :: (Value.slice (some ⟨g, 0, none⟩) E.length c).ownBlock.toList) w (w'.setCell ⟨mb, 0, none⟩ (.slice (some ⟨g2, 0, none⟩) (E.take m ++ [(⟨key, lo, lo⟩ : Ent)]).length vc))) := Lib.hid (((MTq.out.trans (MAa.out.mono (by simp))).trans (M2.out.mono (fun x hx => .inl (by first | (simp [Value.ownBlock] at hx; done) | (simp [Value.ownBlock] at hx ⊢; simp [hx]) | (simp only [List.mem_cons]; right; rw [ownBlock_len _ _ _ m c]; exact hx))))).trans (HS3.out.mono (by simp)))
        have hgw : Hid (g2 ∈ mb :: (Value.slice (some ⟨g, 0, none⟩) E.length c).ownBlock.toList ∨ w.heap.size ≤ g2) := Lib.hid (by rcases AT2.out with h | h; (left; rw [show (Value.slice (some ⟨g, 0, none⟩) E.length c).ownBlock = some g2 from h.symm ▸ rfl]; simp); (right; have h2 : g2 = _ := Option.some.inj h; rw [h2]; have := MTq.out.size; have := MAa.out.size; omega))
        obtain ⟨G, hGE⟩ : ∃ G, E.take m ++ [(⟨key, lo, lo⟩ : Ent)] = G := ⟨_, rfl⟩
        obtain ⟨e, hee⟩ : ∃ e, (⟨key, lo, lo⟩ : Ent) = e := ⟨_, rfl⟩
        obtain ⟨p, hpk⟩ : ∃ p, m = p := ⟨_, rfl⟩
        obtain ⟨tt, htt⟩ : ∃ tt, t + z = tt := ⟨_, rfl⟩
        obtain ⟨V0, hV0⟩ : ∃ V0, V0 = Value.slice (some ⟨g, 0, none⟩) E.length c := ⟨_, rfl⟩
        obtain ⟨ML, hML⟩ : ∃ ML, ML = mb :: V0.ownBlock.toList := ⟨_, rfl⟩
        have hGl2 : G.length = m + 1 := by rw [← hGE]; exact hGl
        rw [hGE] at RO3 HS2 NQ HS3
        have hww : (w'.setCell ⟨mb, 0, none⟩ (.slice (some ⟨g2, 0, none⟩) (m + 1) vc)) = (w'.setCell ⟨mb, 0, none⟩ (.slice (some ⟨g2, 0, none⟩) G.length vc)) := by rw [hGl2]
        try rw [hww]
        try rw [hGE]
        obtain ⟨W8, hW8⟩ : ∃ W8, w'.setCell ⟨mb, 0, none⟩ (.slice (some ⟨g2, 0, none⟩) G.length vc) = W8 := ⟨_, rfl⟩
        rw [hW8] at RO3 NQ HS2 ⊢
        have OWt := RO3
        have MBt : Hid (Blk W8 mb 59 [.slice (some ⟨g2, 0, none⟩) G.length vc, .int .i64 tt]) := Lib.hid (by rw [← htt]; exact HS2.out)
        have HGp : Hid (G[p]? = some e) := Lib.hid (by rw [← hGE, ← hpk, ← hee, List.getElem?_append_right (by rw [hSHl]; exact Nat.le_refl _), hSHl, Nat.sub_self]; rfl)
        have MTt : Hid (Mod ML w W8) := Lib.hid (by rw [hML, hV0]; exact NQ.out)
        have HML : Hid ((⟨g2, p * 3 + 1, none⟩ : Addr).block ∈ ML ∨ w.heap.size ≤ (⟨g2, p * 3 + 1, none⟩ : Addr).block) := Lib.hid (by rw [hML, hV0]; exact hgw.out)
        have HMV : Hid (∀ x, x ∈ ML → x ∈ mb :: V0.ownBlock.toList ∨ w.heap.size ≤ x) := Lib.hid fun x hx => .inl (by rw [← hML]; exact hx)
        have FIN : Hid (∀ e W, MdlPost mb base V0 (bumpAt G p z, tt) w e W → MdlPost mb base (.slice (some ⟨g, 0, none⟩) E.length c) (offerE n E key z, t + z) w e W) := Lib.hid fun e W h => by rw [← hV0, htt, HOF.out, hSHl, hGE, hpk]; exact h
        have hG : 0 ≤ e.n ∧ e.n ≤ t := by rw [← hee]; exact hx0
        have hkl : p < G.length := by omega
        clear hGE hee hww hW8 hGl hSHl HS2 HS3 RO3 NQ RO2 M2 MB2 m0 mf0 htt hV0 hML
        try rw [hpk]
        try rw [show (m + 1) = G.length by omega]
        have hGb : G.length ≤ 17 := by omega
        clear hpk hGl2
        -- the count, then ahead of those with less
        have cn := own_get OWt.out (i := p * 3 + 1) (by rw [flatE_get G p _ HGp.out 1 (by omega)]; rfl)
        have fn_ := own_free OWt.out (p * 3 + 1)
        have mb0 := MBt.out.cell (i := 0) rfl
        have hgm : g2 ≠ mb := fun e => (own_ne OWt.out MBt.out (by decide)) (by simp [Value.ownBlock, e])
        go_wp2_with fail
        obtain ⟨W1, hW1⟩ : ∃ W1, W8.setCell ⟨g2, p * 3 + 1, none⟩ (.int .i64 (e.n + z)) = W1 := ⟨_, rfl⟩
        obtain ⟨F, hFe⟩ : ∃ F, more G p z = F := ⟨_, rfl⟩
        have hgd : G.getD p default = e := getD_some HGp.out
        have hFl : F.length = G.length := by rw [← hFe, more_length]
        have hFp : F.getD p default = { e with n := e.n + z } := by rw [← hFe, more_at hkl, if_pos rfl, hgd]; show (⟨_, _, _⟩ : Ent) = _; rw [show nAt G p = e.n by show (G.getD p default).n = _; rw [hgd]]
        have OW1 : Hid (W1.ownsRow base 46 3 (.slice (some ⟨g2, 0, none⟩) G.length vc) G.length (flatE F)) := Lib.hid (by
          have := own_set OWt.out (p * 3 + 1) (.int .i64 (e.n + z))
          rw [flatE_n HGp.out, hW1] at this
          rw [← hFe]; unfold more; rw [hgd]; exact this)
        have MB1 : Hid (Blk W1 mb 59 [.slice (some ⟨g2, 0, none⟩) G.length vc, .int .i64 tt]) := Lib.hid (by rw [← hW1]; exact MBt.out.other (by simpa using fun h => hgm h.symm) _)
        have MT1 : Hid (Mod ML w W1) := Lib.hid (by rw [← hW1]; exact MTt.out.setCell (p := ⟨g2, p * 3 + 1, none⟩) HML.out _)
        have hnv : nAt F p = e.n + z := by show (F.getD p default).n = _; rw [hFp]
        obtain ⟨nv, hnve⟩ : ∃ nv, e.n + z = nv := ⟨_, rfl⟩
        rw [hnve] at hnv
        have HFE := Lib.hid hFe
        have HNV := Lib.hid hnv
        rw [hW1]
        clear hW1 hFe hFp hgd cn fn_ mb0 hnv hnve
        go_loopw [8] (fun at_ W => ∃ a : Nat, a ≤ p ∧ at_ = .int .i64 (a : Int) ∧ W.ownsRow base 46 3 (.slice (some ⟨g2, 0, none⟩) G.length vc) G.length (flatE (move p a F)) ∧ (∀ j, a ≤ j → j < p → nAt F j < nv) ∧ Blk W mb 59 [.slice (some ⟨g2, 0, none⟩) G.length vc, .int .i64 tt] ∧ Mod ML w W) (fun at_ _ => (intOf at_).toNat)
        case atStart => exact ⟨p, Nat.le_refl _, rfl, by rw [move_self (by omega)]; exact OW1.out, fun j h1 h2 => by omega, MB1.out, MT1.out⟩
        case round =>
          clear OW1 MB1 MT1 OWt MBt MTt
          obtain ⟨a, ha, rfl, hO2, hJ, hB2, hM2⟩ := hrel
          have OR := Lib.hid hO2
          have JR := Lib.hid hJ
          have BR := Lib.hid hB2
          have MR2 := Lib.hid hM2
          have mb0 := hB2.cell (i := 0) rfl
          have DONE : Hid (a = 0 ∨ (∃ b, a = b + 1 ∧ ¬ nAt F b < nv) → MdlPost mb base V0 (bumpAt G p z, tt) w (.returned (.tuple #[])) wr.drew) := Lib.hid fun hd => by
            have hr : riseTo F nv p = a := riseTo_eq ha JR.out hd
            have hb : bumpAt G p z = move p a F := by
              unfold bumpAt
              rw [HFE.out, show (G.getD p default).n + z = nv by rw [← HNV.out]; show _ = (F.getD p default).n; rw [← HFE.out, more_at hkl, if_pos rfl], hr]
            have hl2 : (move p a F).length = G.length := by rw [move_length (by omega) ha, hFl]
            exact ⟨⟨_, rfl⟩, ⟨_, BR.out.drew, by show rowE _ _ _ (bumpAt G p z); rw [hb]; unfold rowE; rw [hl2]; exact (Mod.refl [] wr).drew.own OR.out (by simp)⟩, (MR2.out.mono HMV.out).drew⟩
          cases a with
          | zero =>
            have DN := Lib.hid (DONE.out (.inl rfl))
            clear hO2 hJ hB2 hM2 DONE
            go_wp2_with fail
            refine wp_region_lex (by kernel_rfl) (by kernel_rfl) ?_
            go_wp2_with fail
            refine ⟨by kernel_rfl, ?_⟩
            go_wp2_with fail
            exact bodyPost_end (results_none rfl _ _ _) rfl (FIN.out _ _ DN.out)
          | succ b =>
            have hpv := move_before (F := F) (k := p) (a := b) (by omega) ha
            have hcv := move_now (F := F) (k := p) (a := b + 1) (by omega) ha
            obtain ⟨pe, hpe⟩ : ∃ pe, F.getD b default = pe := ⟨_, rfl⟩
            obtain ⟨ce, hce⟩ : ∃ ce, F.getD p default = ce := ⟨_, rfl⟩
            have hpn : nAt F b = pe.n := by show (F.getD b default).n = _; rw [hpe]
            have hcn : nv = ce.n := by rw [← HNV.out]; show (F.getD p default).n = _; rw [hce]
            rw [hpe] at hpv
            rw [hce] at hcv
            have p0 := own_get hO2 (i := b * 3) ((flatE_get _ b pe hpv 0 (by omega)).trans rfl)
            have p1 := own_get hO2 (i := b * 3 + 1) (by rw [flatE_get _ b pe hpv 1 (by omega)]; rfl)
            have p2 := own_get hO2 (i := b * 3 + 2) (by rw [flatE_get _ b pe hpv 2 (by omega)]; rfl)
            have q0 := own_get hO2 (i := (b + 1) * 3) ((flatE_get _ (b + 1) ce hcv 0 (by omega)).trans rfl)
            have q1 := own_get hO2 (i := (b + 1) * 3 + 1) (by rw [flatE_get _ (b + 1) ce hcv 1 (by omega)]; rfl)
            have q2 := own_get hO2 (i := (b + 1) * 3 + 2) (by rw [flatE_get _ (b + 1) ce hcv 2 (by omega)]; rfl)
            have ff := fun i => own_free hO2 i
            have HP := Lib.hid hpe
            have HC := Lib.hid hce
            have HPN := Lib.hid hpn
            by_cases hlt2 : pe.n < nv
            · have dd : decide (pe.n < ce.n) = true := by rw [← hcn]; simpa using hlt2
              have HCN := Lib.hid hcn
              obtain ⟨pk, pn, pr⟩ := pe
              obtain ⟨ck, cn', cr⟩ := ce
              simp only at *
              clear hO2 hJ hB2 hM2 DONE hpv hcv hpe hce hpn hcn
              go_wp2_with fail
              refine wp_region_lex (by kernel_rfl) (by kernel_rfl) ?_
              go_wp2_with fail
              refine ⟨by kernel_rfl, ?_⟩
              go_wp2_with fail
              refine wp_region_lex (by kernel_rfl) (by kernel_rfl) ?_
              go_wp2_with fail
              refine ⟨by kernel_rfl, ?_⟩
              obtain ⟨W6, hW6⟩ : ∃ W6, ((((((wr.setCell ⟨g2, b * 3, none⟩ (.string ⟨ck.toArray⟩)).setCell ⟨g2, b * 3 + 1, none⟩ (.int .i64 cn')).setCell ⟨g2, b * 3 + 2, none⟩ (.int .i64 cr)).setCell ⟨g2, (b + 1) * 3, none⟩ (.string ⟨pk.toArray⟩)).setCell ⟨g2, (b + 1) * 3 + 1, none⟩ (.int .i64 pn)).setCell ⟨g2, (b + 1) * 3 + 2, none⟩ (.int .i64 pr)) = W6 := ⟨_, rfl⟩
              have O6 : Hid (W6.ownsRow base 46 3 (.slice (some ⟨g2, 0, none⟩) G.length vc) G.length (flatE (move p b F))) := Lib.hid (by
                rw [← hW6, ← move_swap (by omega) (by omega), HC.out, HP.out, flatE_set _ _ _ (by rw [List.length_set, move_length (by omega) (by omega)]; omega), flatE_set _ _ _ (by rw [move_length (by omega) (by omega)]; omega)]
                exact own_set (own_set (own_set (own_set (own_set (own_set OR.out _ _) _ _) _ _) _ _) _ _) _ _)
              have M6 : Hid (Mod ML w W6) := Lib.hid (by
                rw [← hW6]
                exact (((((MR2.out.setCell (p := ⟨g2, _, none⟩) HML.out _).setCell (p := ⟨g2, _, none⟩) HML.out _).setCell (p := ⟨g2, _, none⟩) HML.out _).setCell (p := ⟨g2, _, none⟩) HML.out _).setCell (p := ⟨g2, _, none⟩) HML.out _).setCell (p := ⟨g2, _, none⟩) HML.out _)
              have B6 : Hid (Blk W6 mb 59 [.slice (some ⟨g2, 0, none⟩) G.length vc, .int .i64 tt]) := Lib.hid (by
                rw [← hW6]
                exact ((((((BR.out.other (by simpa using fun h => hgm h.symm) _).other (by simpa using fun h => hgm h.symm) _).other (by simpa using fun h => hgm h.symm) _).other (by simpa using fun h => hgm h.symm) _).other (by simpa using fun h => hgm h.symm) _).other (by simpa using fun h => hgm h.symm) _))
              rw [hW6]
              clear hW6 ff p0 p1 p2 q0 q1 q2 mb0
              go_wp2_with fail
              go_roundw
              case rel => exact ⟨b, by omega, (by first | rfl | go_num), (Mod.refl [] W6).drew.drew.own O6.out (by simp), fun j h1 h2 => by
                by_cases hj : j = b
                · subst hj; rw [HPN.out]; exact hlt2
                · exact JR.out j (by omega) h2, B6.out.drew.drew, M6.out.drew.drew⟩
              case measure => first | (simp [intOf]; done) | (simp [intOf]; omega)
            · have dd : decide (pe.n < ce.n) = false := by rw [← hcn]; simpa using hlt2
              have DN := Lib.hid (DONE.out (.inr ⟨b, rfl, by rw [hpn]; exact hlt2⟩))
              obtain ⟨pk, pn, pr⟩ := pe
              obtain ⟨ck, cn', cr⟩ := ce
              simp only at *
              clear hO2 hJ hB2 hM2 DONE hpv hcv hpe hce hpn hcn
              go_wp2_with fail
              refine wp_region_lex (by kernel_rfl) (by kernel_rfl) ?_
              go_wp2_with fail
              refine ⟨by kernel_rfl, ?_⟩
              go_wp2_with fail
              exact bodyPost_end (results_none rfl _ _ _) rfl (FIN.out _ _ DN.out)
      · obtain ⟨u, hu⟩ : ∃ u, E.length = u := ⟨_, rfl⟩
        have hSHl : E.length = u := hu
        have hu16 : u ≤ 16 := by omega
        have dq : ((u : Int) == (n : Int)) = false := by simp; omega
        have hlo : leastOf n E = 0 := by unfold leastOf; rw [if_neg hful]
        have hsh : shed n E = E := by unfold shed; rw [if_neg hful]
        have c0 := MBr.out.cell (i := 0) rfl
        have ROq : Hid (rowE wr base (.slice a u c) E) := Lib.hid (by have := OWr.out; unfold rowE; rw [← hSHl]; exact this)
        have MBq := MBr
        have MTq := MTr
        rw [hsh, hlo] at HOF
        have hx0 : 0 ≤ (0 : Int) ∧ (0 : Int) ≤ t := by omega
        clear hM hlo hsh hu hful
        have NBa := Lib.hid (Blk.new wr [.string ⟨key.toArray⟩, .int .i64 0, .int .i64 0] 46)
        rw [show wr.heap.size = wr.heap.size by simp] at NBa
        have MAa := Lib.hid ((Mod.refl [] wr).alloc (.cells #[.string ⟨key.toArray⟩, .int .i64 0, .int .i64 0] 46))
        have ROa := Lib.hid (World.ownsRow.alloc ROq.out (.cells #[.string ⟨key.toArray⟩, .int .i64 0, .int .i64 0] 46))
        have MBa := Lib.hid (MBq.out.alloc (.cells #[.string ⟨key.toArray⟩, .int .i64 0, .int .i64 0] 46))
        have mb0 := MBq.out.cell (i := 0) rfl
        have hba : Hid (base ≤ (wr.alloc (.cells #[.string ⟨key.toArray⟩, .int .i64 0, .int .i64 0] 46)).heap.size) := Lib.hid (by have := MTq.out.size; have := MAa.out.size; omega)
        go_upto_region 18 with (at_builtin; go_loud (refine app_ent ⟨key, 0, 0⟩ _ ROa.out rfl _ _ rfl rfl rfl NBa.out hba.out (by have := hSHl; omega) ?_); intro v' w' ho' hM' hat'; obtain ⟨va, vc, hva⟩ := own_slice ho'; subst hva; have RO2 := Lib.hid ho'; have AT2 := Lib.hid hat'; clear hat'; have M2 := Lib.hid hM'; have MB2 := Lib.hid (hM'.blk MBa.out (own_ne ROa.out MBa.out (by decide))); have m0 := MB2.out.cell (i := 0) rfl; have mf0 := MB2.out.free 0; have HS2 := Lib.hid (MB2.out.set 0 (.slice va (E ++ [(⟨key, 0, 0⟩ : Ent)]).length vc)); clear ho' hM' mb0)
        have hGl : (E ++ [(⟨key, 0, 0⟩ : Ent)]).length = u + 1 := by rw [List.length_append, hSHl]; rfl
        obtain ⟨g2, c2, hva, _, _, _⟩ := own_nil_iff (n := (E ++ [(⟨key, 0, 0⟩ : Ent)]).length) RO2.out (by omega)
        simp only [Value.slice.injEq, true_and] at hva
        obtain ⟨rfl, rfl⟩ := hva
        have HS3 : Hid (Mod [mb] w' (w'.setCell ⟨mb, 0, none⟩ (.slice (some ⟨g2, 0, none⟩) (E ++ [(⟨key, 0, 0⟩ : Ent)]).length vc))) := Lib.hid ((Mod.refl [mb] w').setCell (p := ⟨mb, 0, none⟩) (.inl (by simp)) _)
        have RO3 := Lib.hid (HS3.out.own RO2.out (fun b hb hm => by simp at hm; subst hm; exact (own_ne RO2.out MB2.out (by decide)) (by rw [hb]; simp)))
        have NQ : Hid (Mod (mb :: (Value.slice a E.length c).ownBlock.toList) w (w'.setCell ⟨mb, 0, none⟩ (.slice (some ⟨g2, 0, none⟩) (E ++ [(⟨key, 0, 0⟩ : Ent)]).length vc))) := Lib.hid (((MTq.out.trans (MAa.out.mono (by simp))).trans (M2.out.mono (fun x hx => .inl (by first | (simp [Value.ownBlock] at hx; done) | (simp [Value.ownBlock] at hx ⊢; simp [hx]) | (simp only [List.mem_cons]; right; rw [ownBlock_len _ _ _ u c]; exact hx))))).trans (HS3.out.mono (by simp)))
        have hgw : Hid (g2 ∈ mb :: (Value.slice a E.length c).ownBlock.toList ∨ w.heap.size ≤ g2) := Lib.hid (by rcases AT2.out with h | h; (left; rw [ownBlock_len _ _ _ u c, ← h]; simp [Value.ownBlock]); (right; have h2 : g2 = _ := Option.some.inj h; rw [h2]; have := MTq.out.size; have := MAa.out.size; omega))
        obtain ⟨G, hGE⟩ : ∃ G, E ++ [(⟨key, 0, 0⟩ : Ent)] = G := ⟨_, rfl⟩
        obtain ⟨e, hee⟩ : ∃ e, (⟨key, 0, 0⟩ : Ent) = e := ⟨_, rfl⟩
        obtain ⟨p, hpk⟩ : ∃ p, u = p := ⟨_, rfl⟩
        obtain ⟨tt, htt⟩ : ∃ tt, t + z = tt := ⟨_, rfl⟩
        obtain ⟨V0, hV0⟩ : ∃ V0, V0 = Value.slice a E.length c := ⟨_, rfl⟩
        obtain ⟨ML, hML⟩ : ∃ ML, ML = mb :: V0.ownBlock.toList := ⟨_, rfl⟩
        have hGl2 : G.length = u + 1 := by rw [← hGE]; exact hGl
        rw [hGE] at RO3 HS2 NQ HS3
        have hww : (w'.setCell ⟨mb, 0, none⟩ (.slice (some ⟨g2, 0, none⟩) (u + 1) vc)) = (w'.setCell ⟨mb, 0, none⟩ (.slice (some ⟨g2, 0, none⟩) G.length vc)) := by rw [hGl2]
        try rw [hww]
        try rw [hGE]
        obtain ⟨W8, hW8⟩ : ∃ W8, w'.setCell ⟨mb, 0, none⟩ (.slice (some ⟨g2, 0, none⟩) G.length vc) = W8 := ⟨_, rfl⟩
        rw [hW8] at RO3 NQ HS2 ⊢
        have OWt := RO3
        have MBt : Hid (Blk W8 mb 59 [.slice (some ⟨g2, 0, none⟩) G.length vc, .int .i64 tt]) := Lib.hid (by rw [← htt]; exact HS2.out)
        have HGp : Hid (G[p]? = some e) := Lib.hid (by rw [← hGE, ← hpk, ← hee, List.getElem?_append_right (by rw [hSHl]; exact Nat.le_refl _), hSHl, Nat.sub_self]; rfl)
        have MTt : Hid (Mod ML w W8) := Lib.hid (by rw [hML, hV0]; exact NQ.out)
        have HML : Hid ((⟨g2, p * 3 + 1, none⟩ : Addr).block ∈ ML ∨ w.heap.size ≤ (⟨g2, p * 3 + 1, none⟩ : Addr).block) := Lib.hid (by rw [hML, hV0]; exact hgw.out)
        have HMV : Hid (∀ x, x ∈ ML → x ∈ mb :: V0.ownBlock.toList ∨ w.heap.size ≤ x) := Lib.hid fun x hx => .inl (by rw [← hML]; exact hx)
        have FIN : Hid (∀ e W, MdlPost mb base V0 (bumpAt G p z, tt) w e W → MdlPost mb base (.slice a E.length c) (offerE n E key z, t + z) w e W) := Lib.hid fun e W h => by rw [← hV0, htt, HOF.out, hSHl, hGE, hpk]; exact h
        have hG : 0 ≤ e.n ∧ e.n ≤ t := by rw [← hee]; exact hx0
        have hkl : p < G.length := by omega
        clear hGE hee hww hW8 hGl hSHl HS2 HS3 RO3 NQ RO2 M2 MB2 m0 mf0 htt hV0 hML
        try rw [hpk]
        try rw [show (u + 1) = G.length by omega]
        have hGb : G.length ≤ 17 := by omega
        clear hpk hGl2
        -- the count, then ahead of those with less
        have cn := own_get OWt.out (i := p * 3 + 1) (by rw [flatE_get G p _ HGp.out 1 (by omega)]; rfl)
        have fn_ := own_free OWt.out (p * 3 + 1)
        have mb0 := MBt.out.cell (i := 0) rfl
        have hgm : g2 ≠ mb := fun e => (own_ne OWt.out MBt.out (by decide)) (by simp [Value.ownBlock, e])
        go_wp2_with fail
        obtain ⟨W1, hW1⟩ : ∃ W1, W8.setCell ⟨g2, p * 3 + 1, none⟩ (.int .i64 (e.n + z)) = W1 := ⟨_, rfl⟩
        obtain ⟨F, hFe⟩ : ∃ F, more G p z = F := ⟨_, rfl⟩
        have hgd : G.getD p default = e := getD_some HGp.out
        have hFl : F.length = G.length := by rw [← hFe, more_length]
        have hFp : F.getD p default = { e with n := e.n + z } := by rw [← hFe, more_at hkl, if_pos rfl, hgd]; show (⟨_, _, _⟩ : Ent) = _; rw [show nAt G p = e.n by show (G.getD p default).n = _; rw [hgd]]
        have OW1 : Hid (W1.ownsRow base 46 3 (.slice (some ⟨g2, 0, none⟩) G.length vc) G.length (flatE F)) := Lib.hid (by
          have := own_set OWt.out (p * 3 + 1) (.int .i64 (e.n + z))
          rw [flatE_n HGp.out, hW1] at this
          rw [← hFe]; unfold more; rw [hgd]; exact this)
        have MB1 : Hid (Blk W1 mb 59 [.slice (some ⟨g2, 0, none⟩) G.length vc, .int .i64 tt]) := Lib.hid (by rw [← hW1]; exact MBt.out.other (by simpa using fun h => hgm h.symm) _)
        have MT1 : Hid (Mod ML w W1) := Lib.hid (by rw [← hW1]; exact MTt.out.setCell (p := ⟨g2, p * 3 + 1, none⟩) HML.out _)
        have hnv : nAt F p = e.n + z := by show (F.getD p default).n = _; rw [hFp]
        obtain ⟨nv, hnve⟩ : ∃ nv, e.n + z = nv := ⟨_, rfl⟩
        rw [hnve] at hnv
        have HFE := Lib.hid hFe
        have HNV := Lib.hid hnv
        rw [hW1]
        clear hW1 hFe hFp hgd cn fn_ mb0 hnv hnve
        go_loopw [8] (fun at_ W => ∃ a : Nat, a ≤ p ∧ at_ = .int .i64 (a : Int) ∧ W.ownsRow base 46 3 (.slice (some ⟨g2, 0, none⟩) G.length vc) G.length (flatE (move p a F)) ∧ (∀ j, a ≤ j → j < p → nAt F j < nv) ∧ Blk W mb 59 [.slice (some ⟨g2, 0, none⟩) G.length vc, .int .i64 tt] ∧ Mod ML w W) (fun at_ _ => (intOf at_).toNat)
        case atStart => exact ⟨p, Nat.le_refl _, rfl, by rw [move_self (by omega)]; exact OW1.out, fun j h1 h2 => by omega, MB1.out, MT1.out⟩
        case round =>
          clear OW1 MB1 MT1 OWt MBt MTt
          obtain ⟨a, ha, rfl, hO2, hJ, hB2, hM2⟩ := hrel
          have OR := Lib.hid hO2
          have JR := Lib.hid hJ
          have BR := Lib.hid hB2
          have MR2 := Lib.hid hM2
          have mb0 := hB2.cell (i := 0) rfl
          have DONE : Hid (a = 0 ∨ (∃ b, a = b + 1 ∧ ¬ nAt F b < nv) → MdlPost mb base V0 (bumpAt G p z, tt) w (.returned (.tuple #[])) wr.drew) := Lib.hid fun hd => by
            have hr : riseTo F nv p = a := riseTo_eq ha JR.out hd
            have hb : bumpAt G p z = move p a F := by
              unfold bumpAt
              rw [HFE.out, show (G.getD p default).n + z = nv by rw [← HNV.out]; show _ = (F.getD p default).n; rw [← HFE.out, more_at hkl, if_pos rfl], hr]
            have hl2 : (move p a F).length = G.length := by rw [move_length (by omega) ha, hFl]
            exact ⟨⟨_, rfl⟩, ⟨_, BR.out.drew, by show rowE _ _ _ (bumpAt G p z); rw [hb]; unfold rowE; rw [hl2]; exact (Mod.refl [] wr).drew.own OR.out (by simp)⟩, (MR2.out.mono HMV.out).drew⟩
          cases a with
          | zero =>
            have DN := Lib.hid (DONE.out (.inl rfl))
            clear hO2 hJ hB2 hM2 DONE
            go_wp2_with fail
            refine wp_region_lex (by kernel_rfl) (by kernel_rfl) ?_
            go_wp2_with fail
            refine ⟨by kernel_rfl, ?_⟩
            go_wp2_with fail
            exact bodyPost_end (results_none rfl _ _ _) rfl (FIN.out _ _ DN.out)
          | succ b =>
            have hpv := move_before (F := F) (k := p) (a := b) (by omega) ha
            have hcv := move_now (F := F) (k := p) (a := b + 1) (by omega) ha
            obtain ⟨pe, hpe⟩ : ∃ pe, F.getD b default = pe := ⟨_, rfl⟩
            obtain ⟨ce, hce⟩ : ∃ ce, F.getD p default = ce := ⟨_, rfl⟩
            have hpn : nAt F b = pe.n := by show (F.getD b default).n = _; rw [hpe]
            have hcn : nv = ce.n := by rw [← HNV.out]; show (F.getD p default).n = _; rw [hce]
            rw [hpe] at hpv
            rw [hce] at hcv
            have p0 := own_get hO2 (i := b * 3) ((flatE_get _ b pe hpv 0 (by omega)).trans rfl)
            have p1 := own_get hO2 (i := b * 3 + 1) (by rw [flatE_get _ b pe hpv 1 (by omega)]; rfl)
            have p2 := own_get hO2 (i := b * 3 + 2) (by rw [flatE_get _ b pe hpv 2 (by omega)]; rfl)
            have q0 := own_get hO2 (i := (b + 1) * 3) ((flatE_get _ (b + 1) ce hcv 0 (by omega)).trans rfl)
            have q1 := own_get hO2 (i := (b + 1) * 3 + 1) (by rw [flatE_get _ (b + 1) ce hcv 1 (by omega)]; rfl)
            have q2 := own_get hO2 (i := (b + 1) * 3 + 2) (by rw [flatE_get _ (b + 1) ce hcv 2 (by omega)]; rfl)
            have ff := fun i => own_free hO2 i
            have HP := Lib.hid hpe
            have HC := Lib.hid hce
            have HPN := Lib.hid hpn
            by_cases hlt2 : pe.n < nv
            · have dd : decide (pe.n < ce.n) = true := by rw [← hcn]; simpa using hlt2
              have HCN := Lib.hid hcn
              obtain ⟨pk, pn, pr⟩ := pe
              obtain ⟨ck, cn', cr⟩ := ce
              simp only at *
              clear hO2 hJ hB2 hM2 DONE hpv hcv hpe hce hpn hcn
              go_wp2_with fail
              refine wp_region_lex (by kernel_rfl) (by kernel_rfl) ?_
              go_wp2_with fail
              refine ⟨by kernel_rfl, ?_⟩
              go_wp2_with fail
              refine wp_region_lex (by kernel_rfl) (by kernel_rfl) ?_
              go_wp2_with fail
              refine ⟨by kernel_rfl, ?_⟩
              obtain ⟨W6, hW6⟩ : ∃ W6, ((((((wr.setCell ⟨g2, b * 3, none⟩ (.string ⟨ck.toArray⟩)).setCell ⟨g2, b * 3 + 1, none⟩ (.int .i64 cn')).setCell ⟨g2, b * 3 + 2, none⟩ (.int .i64 cr)).setCell ⟨g2, (b + 1) * 3, none⟩ (.string ⟨pk.toArray⟩)).setCell ⟨g2, (b + 1) * 3 + 1, none⟩ (.int .i64 pn)).setCell ⟨g2, (b + 1) * 3 + 2, none⟩ (.int .i64 pr)) = W6 := ⟨_, rfl⟩
              have O6 : Hid (W6.ownsRow base 46 3 (.slice (some ⟨g2, 0, none⟩) G.length vc) G.length (flatE (move p b F))) := Lib.hid (by
                rw [← hW6, ← move_swap (by omega) (by omega), HC.out, HP.out, flatE_set _ _ _ (by rw [List.length_set, move_length (by omega) (by omega)]; omega), flatE_set _ _ _ (by rw [move_length (by omega) (by omega)]; omega)]
                exact own_set (own_set (own_set (own_set (own_set (own_set OR.out _ _) _ _) _ _) _ _) _ _) _ _)
              have M6 : Hid (Mod ML w W6) := Lib.hid (by
                rw [← hW6]
                exact (((((MR2.out.setCell (p := ⟨g2, _, none⟩) HML.out _).setCell (p := ⟨g2, _, none⟩) HML.out _).setCell (p := ⟨g2, _, none⟩) HML.out _).setCell (p := ⟨g2, _, none⟩) HML.out _).setCell (p := ⟨g2, _, none⟩) HML.out _).setCell (p := ⟨g2, _, none⟩) HML.out _)
              have B6 : Hid (Blk W6 mb 59 [.slice (some ⟨g2, 0, none⟩) G.length vc, .int .i64 tt]) := Lib.hid (by
                rw [← hW6]
                exact ((((((BR.out.other (by simpa using fun h => hgm h.symm) _).other (by simpa using fun h => hgm h.symm) _).other (by simpa using fun h => hgm h.symm) _).other (by simpa using fun h => hgm h.symm) _).other (by simpa using fun h => hgm h.symm) _).other (by simpa using fun h => hgm h.symm) _))
              rw [hW6]
              clear hW6 ff p0 p1 p2 q0 q1 q2 mb0
              go_wp2_with fail
              go_roundw
              case rel => exact ⟨b, by omega, (by first | rfl | go_num), (Mod.refl [] W6).drew.drew.own O6.out (by simp), fun j h1 h2 => by
                by_cases hj : j = b
                · subst hj; rw [HPN.out]; exact hlt2
                · exact JR.out j (by omega) h2, B6.out.drew.drew, M6.out.drew.drew⟩
              case measure => first | (simp [intOf]; done) | (simp [intOf]; omega)
            · have dd : decide (pe.n < ce.n) = false := by rw [← hcn]; simpa using hlt2
              have DN := Lib.hid (DONE.out (.inr ⟨b, rfl, by rw [hpn]; exact hlt2⟩))
              obtain ⟨pk, pn, pr⟩ := pe
              obtain ⟨ck, cn', cr⟩ := ce
              simp only at *
              clear hO2 hJ hB2 hM2 DONE hpv hcv hpe hce hpn hcn
              go_wp2_with fail
              refine wp_region_lex (by kernel_rfl) (by kernel_rfl) ?_
              go_wp2_with fail
              refine ⟨by kernel_rfl, ?_⟩
              go_wp2_with fail
              exact bodyPost_end (results_none rfl _ _ _) rfl (FIN.out _ _ DN.out)
end Go.Proofs.Ytpobjhmfidebbaa.Sum
