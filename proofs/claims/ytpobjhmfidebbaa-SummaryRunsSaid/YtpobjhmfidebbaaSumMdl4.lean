/- The law's own model of a summary: offer, walked. -/
import Derived.Test.YtpobjhmfidebbaaSumMdl3
import Derived.Test.YtpobjhmfidebbaaOwn
import Derived.Test.YtpobjhmfidebbaaSumLaw2
import Derived.Deep.Cut
import Derived.Maps.AppendAt
namespace Go.Proofs.Ytpobjhmfidebbaa.Sum
open Go Go.RowKit Go.YtpobjhmfidebbaaMem Go.YtpobjhmfidebbaaLex Go.YtpobjhmfidebbaaRange Go.Proofs.Ytpobjhmfidebbaa.Hash Go.Proofs.Ytpobjhmfidebbaa.Keys Go.Proofs.Ytpobjhmfidebbaa.Index
set_option linter.unusedVariables false
set_option linter.unusedSimpArgs false

set_option maxRecDepth 8000 in
set_option maxHeartbeats 6400000 in
theorem mdl_epoch {w : World} {mb base n : Nat} {v : Value} {E : List Ent} {t : Int} (h : MdlAt w mb base v (E, t)) (hn : 1 ≤ n ∧ n ≤ 16) (key : List UInt8) (hk : key.length ≤ 64) (z : Int) (hz : 1 ≤ z ∧ z < 4611686018427387904) (ht : 0 ≤ t ∧ t < 4611686018427387904) (hc : 4611686018427387904 - z ≤ t) (hB : mb < base ∧ base ≤ w.heap.size) :
    Calls Try.prog 23 #[.pointer (some ⟨mb, 0, none⟩), .int .i64 (n : Int), .string ⟨key.toArray⟩, .int .i64 z] w (MdlPost mb base v (offerE n [] key z, z) w) := by
  have hsz : (ByteArray.mk key.toArray).size = key.length := by simp [ByteArray.size]
  have d1 : decide (z < 1) = false := by simp; omega
  have d2 : decide (4611686018427387904 ≤ z) = false := by simp; omega
  have d3 : decide ((64 : Int) < key.length) = false := by simp; omega
  have d4 : decide (64 < key.length) = false := by simp; omega
  have d5 : decide (4611686018427387904 - z ≤ t) = true := by simp; omega
  obtain ⟨a, c, rfl⟩ := own_slice h.row
  have b0 := h.blk.cell (i := 0) rfl
  have b1 := h.blk.cell (i := 1) rfl
  have f0 := h.blk.free 0
  have f1 := h.blk.free 1
  have S0 := Lib.hid (show Blk ((w.setCell ⟨mb, 0, none⟩ (.slice none 0 0)).setCell ⟨mb, 1, none⟩ (.int .i64 0)) mb 59 [.slice none 0 0, .int .i64 0] from (h.blk.set 0 _).set 1 _)
  have S1 := Lib.hid (show Blk (((w.setCell ⟨mb, 0, none⟩ (.slice none 0 0)).setCell ⟨mb, 1, none⟩ (.int .i64 0)).setCell ⟨mb, 1, none⟩ (.int .i64 (0 + z))) mb 59 [.slice none 0 0, .int .i64 (0 + z)] from S0.out.set 1 _)
  have SM := Lib.hid ((((Mod.refl [mb] w).setCell (p := ⟨mb, 0, none⟩) (.inl (by simp)) (.slice none 0 0)).setCell (p := ⟨mb, 1, none⟩) (.inl (by simp)) (.int .i64 0)).setCell (p := ⟨mb, 1, none⟩) (.inl (by simp)) (.int .i64 (0 + z)))
  have hne := own_ne h.row h.blk (by decide)
  have s1 := S0.out.cell (i := 1) rfl
  have s0 := S1.out.cell (i := 0) rfl
  have e0 : (0 : Int) + z = z := by omega
  rw [e0] at S1 SM s0
  have HOF : Hid (offerE n [] key z = bumpAt ([] ++ [⟨key, 0, 0⟩]) ([] : List Ent).length z) := Lib.hid (by unfold offerE; simp only [findE, List.findIdx?_nil]; unfold shed leastOf; rw [if_neg (by simp; omega), if_neg (by simp; omega)])
  clear h e0
  go_enter Try.func23, Try.ntmps23
  go_wp2_with fail
  obtain ⟨w1, hw1⟩ : ∃ w1, ((w.setCell ⟨mb, 0, none⟩ (.slice none 0 0)).setCell ⟨mb, 1, none⟩ (.int .i64 0)).setCell ⟨mb, 1, none⟩ (.int .i64 z) = w1 := ⟨_, rfl⟩
  rw [hw1] at S1 SM s0 ⊢
  clear hw1 b0 b1 f0 f1 s1
  go_loopw [49, 8] (fun i at_ wr => i = .int .i64 0 ∧ at_ = .int .i64 (-1) ∧ Mod [] w1 wr) (fun i _ _ => 0)
  case atStart => exact ⟨rfl, rfl, Mod.refl _ _⟩
  case round =>
    obtain ⟨rfl, rfl, hM⟩ := hrel
    have MR := Lib.hid hM
    have MBr := Lib.hid (MR.out.blk S1.out (by simp))
    have MTr : Hid (Mod (mb :: (Value.slice a E.length c).ownBlock.toList) w wr) := Lib.hid ((SM.out.mono (by simp)).trans (MR.out.mono (by simp)))
    have hSHl : ([] : List Ent).length = 0 := rfl
    have dq : ((0 : Int) == (n : Int)) = false := by simp; omega
    have dq2 : ((n : Int) == 0) = false := by simp; omega
    have dq3 : (n == 0) = false := by simp; omega
    have c0 := MBr.out.cell (i := 0) rfl
    have ROq : Hid (rowE wr base (.slice none 0 0) []) := Lib.hid (World.ownsRow_nil _ _ _ _)
    have MBq := MBr
    have MTq := MTr
    have hx0 : 0 ≤ (0 : Int) ∧ (0 : Int) ≤ t := by omega
    have hn0 : n ≠ 0 := by omega
    clear hM
    have NBa := Lib.hid (Blk.new wr [.string ⟨key.toArray⟩, .int .i64 0, .int .i64 0] 46)
    rw [show wr.heap.size = wr.heap.size by simp] at NBa
    have MAa := Lib.hid ((Mod.refl [] wr).alloc (.cells #[.string ⟨key.toArray⟩, .int .i64 0, .int .i64 0] 46))
    have ROa := Lib.hid (World.ownsRow.alloc ROq.out (.cells #[.string ⟨key.toArray⟩, .int .i64 0, .int .i64 0] 46))
    have MBa := Lib.hid (MBq.out.alloc (.cells #[.string ⟨key.toArray⟩, .int .i64 0, .int .i64 0] 46))
    have mb0 := MBq.out.cell (i := 0) rfl
    have hba : Hid (base ≤ (wr.alloc (.cells #[.string ⟨key.toArray⟩, .int .i64 0, .int .i64 0] 46)).heap.size) := Lib.hid (by have := MTq.out.size; have := MAa.out.size; omega)
    go_upto_region 18 with (at_builtin; go_loud (refine app_ent ⟨key, 0, 0⟩ _ ROa.out rfl _ _ rfl rfl rfl NBa.out hba.out (by have := hSHl; omega) ?_); intro v' w' ho' hM' hat'; obtain ⟨va, vc, hva⟩ := own_slice ho'; subst hva; have RO2 := Lib.hid ho'; have AT2 := Lib.hid hat'; clear hat'; have M2 := Lib.hid hM'; have MB2 := Lib.hid (hM'.blk MBa.out (own_ne ROa.out MBa.out (by decide))); have m0 := MB2.out.cell (i := 0) rfl; have mf0 := MB2.out.free 0; have HS2 := Lib.hid (MB2.out.set 0 (.slice va (([] : List Ent) ++ [(⟨key, 0, 0⟩ : Ent)]).length vc)); clear ho' hM' mb0)
    have hGl : (([] : List Ent) ++ [(⟨key, 0, 0⟩ : Ent)]).length = 0 + 1 := by rw [List.length_append, hSHl]; rfl
    obtain ⟨g2, c2, hva, _, _, _⟩ := own_nil_iff (n := (([] : List Ent) ++ [(⟨key, 0, 0⟩ : Ent)]).length) RO2.out (by omega)
    simp only [Value.slice.injEq, true_and] at hva
    obtain ⟨rfl, rfl⟩ := hva
    have HS3 : Hid (Mod [mb] w' (w'.setCell ⟨mb, 0, none⟩ (.slice (some ⟨g2, 0, none⟩) (([] : List Ent) ++ [(⟨key, 0, 0⟩ : Ent)]).length vc))) := Lib.hid ((Mod.refl [mb] w').setCell (p := ⟨mb, 0, none⟩) (.inl (by simp)) _)
    have RO3 := Lib.hid (HS3.out.own RO2.out (fun b hb hm => by simp at hm; subst hm; exact (own_ne RO2.out MB2.out (by decide)) (by rw [hb]; simp)))
    have NQ : Hid (Mod (mb :: (Value.slice a E.length c).ownBlock.toList) w (w'.setCell ⟨mb, 0, none⟩ (.slice (some ⟨g2, 0, none⟩) (([] : List Ent) ++ [(⟨key, 0, 0⟩ : Ent)]).length vc))) := Lib.hid (((MTq.out.trans (MAa.out.mono (by simp))).trans (M2.out.mono (fun x hx => .inl (by first | (simp [Value.ownBlock] at hx; done) | (simp [Value.ownBlock] at hx ⊢; simp [hx]) | (simp only [List.mem_cons]; right; rw [ownBlock_len _ _ _ 0 c]; exact hx))))).trans (HS3.out.mono (by simp)))
    have hgw : Hid (g2 ∈ mb :: (Value.slice a E.length c).ownBlock.toList ∨ w.heap.size ≤ g2) := Lib.hid (by rcases AT2.out with h | h; (exact absurd h (by simp [Value.ownBlock])); (right; have h2 : g2 = _ := Option.some.inj h; rw [h2]; have := MTq.out.size; have := MAa.out.size; omega))
    obtain ⟨G, hGE⟩ : ∃ G, ([] : List Ent) ++ [(⟨key, 0, 0⟩ : Ent)] = G := ⟨_, rfl⟩
    obtain ⟨e, hee⟩ : ∃ e, (⟨key, 0, 0⟩ : Ent) = e := ⟨_, rfl⟩
    obtain ⟨V0, hV0⟩ : ∃ V0, V0 = Value.slice a E.length c := ⟨_, rfl⟩
    obtain ⟨ML, hML⟩ : ∃ ML, ML = mb :: V0.ownBlock.toList := ⟨_, rfl⟩
    have hGl2 : G.length = 0 + 1 := by rw [← hGE]; exact hGl
    rw [hGE] at RO3 HS2 NQ HS3
    have hww : (w'.setCell ⟨mb, 0, none⟩ (.slice (some ⟨g2, 0, none⟩) (0 + 1) vc)) = (w'.setCell ⟨mb, 0, none⟩ (.slice (some ⟨g2, 0, none⟩) G.length vc)) := by rw [hGl2]
    try rw [hww]
    try rw [hGE]
    obtain ⟨W8, hW8⟩ : ∃ W8, w'.setCell ⟨mb, 0, none⟩ (.slice (some ⟨g2, 0, none⟩) G.length vc) = W8 := ⟨_, rfl⟩
    rw [hW8] at RO3 NQ HS2 ⊢
    have OWt := RO3
    have MBt : Hid (Blk W8 mb 59 [.slice (some ⟨g2, 0, none⟩) G.length vc, .int .i64 z]) := Lib.hid (by exact HS2.out)
    have HGp : Hid (G[0]? = some e) := Lib.hid (by rw [← hGE, ← hee, List.getElem?_append_right (by rw [hSHl]; exact Nat.le_refl _), hSHl, Nat.sub_self]; rfl)
    have MTt : Hid (Mod ML w W8) := Lib.hid (by rw [hML, hV0]; exact NQ.out)
    have HML : Hid ((⟨g2, 1, none⟩ : Addr).block ∈ ML ∨ w.heap.size ≤ (⟨g2, 1, none⟩ : Addr).block) := Lib.hid (by rw [hML, hV0]; exact hgw.out)
    have HMV : Hid (∀ x, x ∈ ML → x ∈ mb :: V0.ownBlock.toList ∨ w.heap.size ≤ x) := Lib.hid fun x hx => .inl (by rw [← hML]; exact hx)
    have FIN : Hid (∀ e W, MdlPost mb base V0 (bumpAt G 0 z, z) w e W → MdlPost mb base (.slice a E.length c) (offerE n [] key z, z) w e W) := Lib.hid fun e W h => by rw [← hV0, HOF.out, hSHl, hGE]; exact h
    have hG : 0 ≤ e.n ∧ e.n ≤ t := by rw [← hee]; exact hx0
    have hkl : 0 < G.length := by omega
    clear hGE hee hww hW8 hGl hSHl HS2 HS3 RO3 NQ RO2 M2 MB2 m0 mf0 hV0 hML
    try rw [show (0 + 1) = G.length by omega]
    have hGb : G.length ≤ 17 := by omega
    clear hGl2
    -- the count, then ahead of those with less
    have cn := own_get OWt.out (i := 1) (by rw [flatE_get G 0 _ HGp.out 1 (by omega)]; rfl)
    have fn_ := own_free OWt.out (1)
    have mb0 := MBt.out.cell (i := 0) rfl
    have hgm : g2 ≠ mb := fun e => (own_ne OWt.out MBt.out (by decide)) (by simp [Value.ownBlock, e])
    go_wp2_with fail
    obtain ⟨W1, hW1⟩ : ∃ W1, W8.setCell ⟨g2, 1, none⟩ (.int .i64 (e.n + z)) = W1 := ⟨_, rfl⟩
    obtain ⟨F, hFe⟩ : ∃ F, more G 0 z = F := ⟨_, rfl⟩
    have hgd : G.getD 0 default = e := getD_some HGp.out
    have hFl : F.length = G.length := by rw [← hFe, more_length]
    have hFp : F.getD 0 default = { e with n := e.n + z } := by rw [← hFe, more_at hkl, if_pos rfl, hgd]; show (⟨_, _, _⟩ : Ent) = _; rw [show nAt G 0 = e.n by show (G.getD 0 default).n = _; rw [hgd]]
    have OW1 : Hid (W1.ownsRow base 46 3 (.slice (some ⟨g2, 0, none⟩) G.length vc) G.length (flatE F)) := Lib.hid (by
      have := own_set OWt.out (1) (.int .i64 (e.n + z))
      rw [flatE_n HGp.out, hW1] at this
      rw [← hFe]; unfold more; rw [hgd]; exact this)
    have MB1 : Hid (Blk W1 mb 59 [.slice (some ⟨g2, 0, none⟩) G.length vc, .int .i64 z]) := Lib.hid (by rw [← hW1]; exact MBt.out.other (by simpa using fun h => hgm h.symm) _)
    have MT1 : Hid (Mod ML w W1) := Lib.hid (by rw [← hW1]; exact MTt.out.setCell (p := ⟨g2, 1, none⟩) HML.out _)
    have hnv : nAt F 0 = e.n + z := by show (F.getD 0 default).n = _; rw [hFp]
    obtain ⟨nv, hnve⟩ : ∃ nv, e.n + z = nv := ⟨_, rfl⟩
    rw [hnve] at hnv
    have HFE := Lib.hid hFe
    have HNV := Lib.hid hnv
    rw [hW1]
    clear hW1 hFe hFp hgd cn fn_ mb0 hnv hnve
    go_loopw [8] (fun at_ W => ∃ a : Nat, a ≤ 0 ∧ at_ = .int .i64 (a : Int) ∧ W.ownsRow base 46 3 (.slice (some ⟨g2, 0, none⟩) G.length vc) G.length (flatE (move 0 a F)) ∧ (∀ j, a ≤ j → j < 0 → nAt F j < nv) ∧ Blk W mb 59 [.slice (some ⟨g2, 0, none⟩) G.length vc, .int .i64 z] ∧ Mod ML w W) (fun at_ _ => (intOf at_).toNat)
    case atStart => exact ⟨0, Nat.le_refl _, rfl, by rw [move_self (by omega)]; exact OW1.out, fun j h1 h2 => by omega, MB1.out, MT1.out⟩
    case round =>
      clear OW1 MB1 MT1 OWt MBt MTt
      obtain ⟨a, ha, rfl, hO2, hJ, hB2, hM2⟩ := hrel
      have OR := Lib.hid hO2
      have JR := Lib.hid hJ
      have BR := Lib.hid hB2
      have MR2 := Lib.hid hM2
      have mb0 := hB2.cell (i := 0) rfl
      have DONE : Hid (a = 0 ∨ (∃ b, a = b + 1 ∧ ¬ nAt F b < nv) → MdlPost mb base V0 (bumpAt G 0 z, z) w (.returned (.tuple #[])) wr.drew) := Lib.hid fun hd => by
        have hr : riseTo F nv 0 = a := riseTo_eq ha JR.out hd
        have hb : bumpAt G 0 z = move 0 a F := by
          unfold bumpAt
          rw [HFE.out, show (G.getD 0 default).n + z = nv by rw [← HNV.out]; show _ = (F.getD 0 default).n; rw [← HFE.out, more_at hkl, if_pos rfl], hr]
        have hl2 : (move 0 a F).length = G.length := by rw [move_length (by omega) ha, hFl]
        exact ⟨⟨_, rfl⟩, ⟨_, BR.out.drew, by show rowE _ _ _ (bumpAt G 0 z); rw [hb]; unfold rowE; rw [hl2]; exact (Mod.refl [] wr).drew.own OR.out (by simp)⟩, (MR2.out.mono HMV.out).drew⟩
      cases a with
      | zero =>
        have DN := Lib.hid (DONE.out (.inl rfl))
        clear hO2 hJ hB2 hM2 DONE
        go_wp2_with fail
        refine wp_region_lex (by kernel_rfl) (by kernel_rfl) ?_
        go_wp2_with fail
        refine ⟨by kernel_rfl, ?_⟩
        go_wp2_with fail
        exact bodyPost_end (results_none rfl _ _ _) rfl (FIN.out _ _ DN.out)
      | succ b => exact absurd ha (by omega)
/-- offer, whatever it is given. -/
theorem mdl_offer {w : World} {mb base n : Nat} {v : Value} {s : List Ent × Int} (h : MdlAt w mb base v s) (ho : OkE n s.1 s.2) (hn : 1 ≤ n ∧ n ≤ 16) (key : List UInt8) (hk : key.length ≤ 1000000) (z : Int) (hz : -9223372036854775808 ≤ z ∧ z ≤ 9223372036854775807) (hB : mb < base ∧ base ≤ w.heap.size) :
    Calls Try.prog 23 #[.pointer (some ⟨mb, 0, none⟩), .int .i64 (n : Int), .string ⟨key.toArray⟩, .int .i64 z] w (MdlPost mb base v (offer n s key z) w) := by
  unfold offer
  by_cases hg : z < 1 ∨ 4611686018427387904 ≤ z ∨ 64 < key.length
  · rw [if_pos hg]; exact mdl_none h n key hk z hz hg
  · rw [if_neg hg]
    by_cases hc : 4611686018427387904 - z ≤ s.2
    · rw [if_pos hc]
      exact mdl_epoch (E := s.1) (t := s.2) h hn key (by omega) z (by omega) ho.lt hc hB
    · rw [if_neg hc]
      cases hf : findE s.1 key with
      | some k => exact mdl_some (E := s.1) (t := s.2) h ho hn key (by omega) z (by omega) (by omega) hB hf
      | none => exact mdl_new (E := s.1) (t := s.2) h ho hn key (by omega) z (by omega) (by omega) hB hf
end Go.Proofs.Ytpobjhmfidebbaa.Sum
