/- summary.Summary: rise. -/
import Derived.Test.YtpobjhmfidebbaaSum3
namespace Go.Proofs.Ytpobjhmfidebbaa.Sum
open Go Go.RowKit Go.YtpobjhmfidebbaaMem Go.YtpobjhmfidebbaaLex Go.Proofs.Ytpobjhmfidebbaa.Hash Go.Proofs.Ytpobjhmfidebbaa.Keys Go.Proofs.Ytpobjhmfidebbaa.Index
set_option linter.unusedVariables false
set_option linter.unusedSimpArgs false

/-- The order, but for the a-th, at which the k-th is to stand. -/
structure Hole (k a : Nat) (ps : List Nat) (m : Nat) (O W : List Int) : Prop where
  lo : O.length = m
  lw : W.length = m
  at_ : ∀ j p, j ≠ a → (move k a ps)[j]? = some p → O[j]? = some (p : Int) ∧ W[p]? = some (j : Int)
section
variable {S : List (Option (List UInt8))} {N Er O W : List Int} {ps : List Nat} {E : List Ent} {k a m : Nat}
theorem move_self {α : Type} {k : Nat} {l : List α} (hk : k < l.length) : move k k l = l := by
  apply List.ext_getElem?
  intro j
  rw [move_get hk (Nat.le_refl _)]
  split
  · rfl
  · split
    · rename_i h; rw [h]
    · split
      · omega
      · rfl
theorem hole_start (h : Rep S N Er O W ps E) (hk : k < E.length) (lo : O.length = m) (lw : W.length = m) : Hole k k ps m O W := by
  refine ⟨lo, lw, fun j p hj hp => ?_⟩
  rw [move_self (by rw [h.len]; exact hk)] at hp
  have hjl : j < E.length := by rw [← h.len]; exact (List.getElem?_eq_some_iff.1 hp).1
  obtain ⟨h1, h2, h3, h4, h5⟩ := h.at_ j p _ hp (List.getElem?_eq_getElem hjl)
  exact ⟨h4, h5⟩
theorem nodup_ne {ps : List Nat} (hnd : ps.Nodup) {i j p q : Nat} (h1 : ps[i]? = some p) (h2 : ps[j]? = some q) (hne : i ≠ j) : p ≠ q := by
  rintro rfl
  have hi : i < ps.length := (List.getElem?_eq_some_iff.1 h1).1
  exact hne ((List.getElem?_inj hi hnd).1 (h1.trans h2.symm))
theorem hole_next {b q : Nat} (hnd : ps.Nodup) (hlt : ∀ p ∈ ps, p < m) (hpm : ps.length ≤ m) (hk : k < ps.length) (hb : b + 1 ≤ k) (hq : ps[b]? = some q) (h : Hole k (b + 1) ps m O W) : Hole k b ps m (O.set (b + 1) (q : Int)) (W.set q ((b + 1 : Nat) : Int)) := by
  have hqm : q < m := hlt q (List.mem_of_getElem? hq)
  refine ⟨by rw [List.length_set]; exact h.lo, by rw [List.length_set]; exact h.lw, fun j p hj hp => ?_⟩
  rw [move_get hk (by omega)] at hp
  rcases Nat.lt_trichotomy j b with hjb | hjb | hjb
  · rw [if_pos hjb] at hp
    have h0 := h.at_ j p (by omega) (by rw [move_get hk (by omega), if_pos (by omega)]; exact hp)
    have hne := nodup_ne hnd hq hp (by omega)
    rw [List.getElem?_set_ne (by omega), List.getElem?_set_ne hne]
    exact h0
  · omega
  · rw [if_neg (by omega), if_neg (by omega)] at hp
    by_cases hjb1 : j = b + 1
    · subst hjb1
      rw [if_pos hb, Nat.add_sub_cancel, hq] at hp
      obtain rfl : q = p := by simpa using hp
      exact ⟨by rw [List.getElem?_set_self (by rw [h.lo]; omega)], by rw [List.getElem?_set_self (by rw [h.lw]; omega)]⟩
    · have h0 := h.at_ j p (by omega) (by rw [move_get hk (by omega), if_neg (by omega), if_neg (by omega)]; exact hp)
      have hne : q ≠ p := by
        split at hp
        · exact nodup_ne hnd hq hp (by omega)
        · exact nodup_ne hnd hq hp (by omega)
      rw [List.getElem?_set_ne (by omega), List.getElem?_set_ne hne]
      exact h0
theorem move_at (hr : Rep S N Er O W ps E) (hk : k < E.length) (ha : a ≤ k) {j p : Nat} {e : Ent} (hp : (move k a ps)[j]? = some p) (he : (move k a E)[j]? = some e) : S[p]? = some (some e.key) ∧ N[p]? = some e.n ∧ Er[p]? = some e.err := by
  rw [move_get (by rw [hr.len]; exact hk) ha] at hp
  rw [move_get hk ha] at he
  have key : ∀ j', ps[j']? = some p → E[j']? = some e → S[p]? = some (some e.key) ∧ N[p]? = some e.n ∧ Er[p]? = some e.err := fun j' h1 h2 => by
    obtain ⟨q1, q2, q3, _, _⟩ := hr.at_ j' p e h1 h2
    exact ⟨q1, q2, q3⟩
  by_cases h1 : j < a
  · rw [if_pos h1] at hp he; exact key _ hp he
  · rw [if_neg h1] at hp he
    by_cases h2 : j = a
    · rw [if_pos h2] at hp he; exact key _ hp he
    · rw [if_neg h2] at hp he
      by_cases h3 : j ≤ k
      · rw [if_pos h3] at hp he; exact key _ hp he
      · rw [if_neg h3] at hp he; exact key _ hp he
theorem hole_end {i : Nat} {O0 W0 : List Int} (hr : Rep S N Er O0 W0 ps E) (hlt : ∀ p ∈ ps, p < m) (hpm : ps.length ≤ m) (hk : k < E.length) (ha : a ≤ k) (hi : ps[k]? = some i) (h : Hole k a ps m O W) :
    Rep S N Er (O.set a (i : Int)) (W.set i (a : Int)) (move k a ps) (move k a E) := by
  have hkp : k < ps.length := by rw [hr.len]; exact hk
  have hperm := move_perm hkp ha
  refine ⟨by rw [move_length hkp ha, move_length hk ha, hr.len], hperm.nodup_iff.2 hr.nd, fun p key hp => hperm.mem_iff.2 (hr.all p key hp), fun j p e hp he => ?_⟩
  obtain ⟨q1, q2, q3⟩ := move_at hr hk ha hp he
  refine ⟨q1, q2, q3, ?_⟩
  have him : i < m := hlt i (List.mem_of_getElem? hi)
  by_cases hja : j = a
  · subst hja
    rw [move_get hkp ha, if_neg (by omega), if_pos rfl, hi] at hp
    obtain rfl : i = p := by simpa using hp
    exact ⟨by rw [List.getElem?_set_self (by rw [h.lo]; omega)], by rw [List.getElem?_set_self (by rw [h.lw]; omega)]⟩
  · have h0 := h.at_ j p hja hp
    have hai : (move k a ps)[a]? = some i := by rw [move_get hkp ha, if_neg (by omega), if_pos rfl]; exact hi
    have hne := nodup_ne (hperm.nodup_iff.2 hr.nd) hai hp (by omega)
    rw [List.getElem?_set_ne (by omega), List.getElem?_set_ne hne]
    exact h0
end
section
variable {w : World} {B : SB} {S : List (Option (List UInt8))} {fl : List Nat} {N Er O W : List Int} {total : Int}
/-- The order and where each stands are written anew. -/
theorem SumC.ow {w' : World} {O' W' : List Int} (h : SumC w B S fl N Er O W total) (hm : Mod [B.ob, B.wb] w w') (ho : Blk w' B.ob 21 (i32s O')) (hw : Blk w' B.wb 21 (i32s W')) (lo : O'.length = S.length) (lw : W'.length = S.length) : SumC w' B S fl N Er O' W' total := by
  obtain ⟨⟨n1, n2, n3, n4⟩, ⟨n5, n6, n7⟩, ⟨n8, n9⟩, n10⟩ := h.ne
  exact ⟨hm.blk h.blk (by simp; exact ⟨n3, n4⟩), h.idx.mod hm (fun b hb hb' => by
    simp only [List.mem_cons, List.not_mem_nil, or_false] at hb'
    rcases hb' with rfl | rfl
    · exact h.ni _ (by simp [SB.own]) hb
    · exact h.ni _ (by simp [SB.own]) hb), hm.blk h.cn (by simp; exact ⟨n6, n7⟩), hm.blk h.ce (by simp; exact ⟨n8, n9⟩), ho, hw, h.ln, h.le, lo, lw, h.whole, h.nd, h.ni⟩
end
def RisePost (B : SB) (S : List (Option (List UInt8))) (fl : List Nat) (N Er : List Int) (total : Int) (ps : List Nat) (E : List Ent) (k a : Nat) (w : World) (e : Ending) (w' : World) : Prop :=
  (∃ v, e = .returned v) ∧ (∃ O' W', SumC w' B S fl N Er O' W' total ∧ Rep S N Er O' W' (move k a ps) (move k a E)) ∧ Mod [B.ob, B.wb] w w'
set_option maxRecDepth 8000 in
set_option maxHeartbeats 3200000 in
theorem rise_any {w : World} {B : SB} {S : List (Option (List UInt8))} {fl : List Nat} {N Er O W : List Int} {total : Int} {ps : List Nat} {E : List Ent} {k i : Nat} {e : Ent} (h : SumC w B S fl N Er O W total) (hr : Rep S N Er O W ps E) (hi : ps[k]? = some i) (he : E[k]? = some e) :
    Calls Try.prog 31 #[.pointer (some ⟨B.p, 0, none⟩), .int .i64 i] w (RisePost B S fl N Er total ps E k (riseTo E e.n k) w) := by
  obtain ⟨hS, hN, hE, hO, hW⟩ := hr.at_ k i e hi he
  have hk : k < E.length := (List.getElem?_eq_some_iff.1 he).1
  have hfew := h.few
  have hiS : i < S.length := (List.getElem?_eq_some_iff.1 hS).1
  have hkS : k < S.length := by have := (List.getElem?_eq_some_iff.1 hO).1; rw [h.lo] at this; exact this
  have hlt : ∀ p ∈ ps, p < S.length := fun p hp => by
    obtain ⟨j, hj⟩ := List.getElem?_of_mem hp
    have hjl : j < E.length := by rw [← hr.len]; exact (List.getElem?_eq_some_iff.1 hj).1
    exact (List.getElem?_eq_some_iff.1 (hr.at_ j p _ hj (List.getElem?_eq_getElem hjl)).1).1
  have hpm : ps.length ≤ S.length := by
    rcases Nat.lt_or_ge S.length ps.length with hq | hq
    · exfalso
      have hjl : S.length < E.length := by rw [← hr.len]; exact hq
      have := (hr.at_ S.length _ _ (List.getElem?_eq_getElem hq) (List.getElem?_eq_getElem hjl)).2.2.2.1
      have := (List.getElem?_eq_some_iff.1 this).1
      rw [h.lo] at this; omega
    · exact hq
  have H := Lib.hid h
  have HR := Lib.hid hr
  have HI := Lib.hid hi
  have HE := Lib.hid he
  have LT := Lib.hid hlt
  have PM := Lib.hid hpm
  have H0 := Lib.hid (hole_start hr hk h.lo h.lw)
  have c5 := h.blk.cell (i := 5) rfl
  have cW := h.cw.cell (i32s_get hW)
  have CN := Lib.hid (i64s_get hN)
  clear h hr hi he hlt hpm hS hN hE hO hW
  obtain ⟨ek, en, ee⟩ := e
  simp only at *
  go_enter Try.func31, Try.ntmps31
  generalize hm : S.length = m at *
  have HM := Lib.hid hm
  clear hm
  go_wp2_with fail
  go_loopw [4] (fun v wr => ∃ (a : Nat) (O' W' : List Int), a ≤ k ∧ v = .int .i64 (a : Int) ∧ Hole k a ps m O' W' ∧ SumC wr B S fl N Er O' W' total ∧ riseTo E en a = riseTo E en k ∧ Mod [B.ob, B.wb] w wr) (fun v _ => (intOf v).toNat)
  case atStart => exact ⟨k, O, W, Nat.le_refl _, rfl, H0.out, H.out, rfl, Mod.refl _ _⟩
  case round =>
    clear H H0 c5 cW
    obtain ⟨a, O', W', ha, rfl, hH, hC, hT, hM⟩ := hrel
    have HH := Lib.hid hH
    have HC := Lib.hid hC
    have HT := Lib.hid hT
    have MR := Lib.hid hM
    have c2 := hC.blk.cell (i := 2) rfl
    have c4 := hC.blk.cell (i := 4) rfl
    have c5 := hC.blk.cell (i := 5) rfl
    rw [HM.out] at c2 c4 c5
    have cN := hC.cn.cell CN.out
    clear hH hC hT hM
    cases a with
    | zero =>
      obtain ⟨z1, hz1⟩ : ∃ z, O'[0]? = some z := ⟨_, List.getElem?_eq_getElem (by rw [HH.out.lo]; omega)⟩
      obtain ⟨z2, hz2⟩ : ∃ z, W'[i]? = some z := ⟨_, List.getElem?_eq_getElem (by rw [HH.out.lw]; omega)⟩
      have cO := HC.out.co.cell (i32s_get hz1)
      have cW := HC.out.cw.cell (i32s_get hz2)
      have fO := HC.out.co.free 0
      have fW := HC.out.cw.free i
      have nn := HC.out.ne.2.2.2
      have np := HC.out.ne.1
      clear hz1 hz2

      go_wp2_with fail
      refine wp_region_lex (by kernel_rfl) (by kernel_rfl) ?_
      go_wp2_with fail

      refine ⟨by kernel_rfl, ?_⟩
      go_wp2_with fail
      refine wp_region_lex (by kernel_rfl) (by kernel_rfl) ?_
      go_wp2_with fail
      refine ⟨by kernel_rfl, ?_⟩
      go_wp2_with fail
      go_end0
      have hC := HC.out.mod (((Mod.refl [] wr).drew).drew) (by simp)
      obtain ⟨⟨n1, n2, n3, n4⟩, ⟨n5, n6, n7⟩, ⟨n8, n9⟩, n10⟩ := hC.ne
      have MS := (((((Mod.refl [B.ob, B.wb] wr).drew).drew).setCell (p := ⟨B.ob, 0, none⟩) (.inl (by simp)) (.int .i32 (i : Int))).setCell (p := ⟨B.wb, i, none⟩) (.inl (by simp)) (.int .i32 0))
      have BO := (hC.co.set 0 (.int .i32 (i : Int))).other (a := ⟨B.wb, i, none⟩) (by simp; exact n10) (.int .i32 0)
      have BW := (hC.cw.other (a := ⟨B.ob, 0, none⟩) (by simp; exact fun e => n10 e.symm) (.int .i32 (i : Int))).set i (.int .i32 0)
      rw [i32s_set] at BO BW
      have hlo := HH.out.lo
      have hlw := HH.out.lw
      rw [show riseTo E en k = 0 from HT.out.symm]
      exact ⟨⟨_, rfl⟩, ⟨_, _, HC.out.ow MS BO BW (by rw [List.length_set, hlo, HM.out]) (by rw [List.length_set, hlw, HM.out]), hole_end HR.out LT.out PM.out (by omega) (by omega) HI.out HH.out⟩, MR.out.trans MS⟩
    | succ b =>
      obtain ⟨q, e', hq, he', hS', hN', _, _, _⟩ := HR.out.get (k := b) (by omega)
      obtain ⟨hOb, hWb⟩ := HH.out.at_ b q (by omega) (by rw [move_get (by rw [HR.out.len]; omega) ha, if_pos (by omega)]; exact hq)
      have hqS : q < m := by have := (List.getElem?_eq_some_iff.1 hS').1; rw [HM.out] at this; exact this
      have cOb := HC.out.co.cell (i32s_get hOb)
      have cNq := HC.out.cn.cell (i64s_get hN')
      have hgd : (E.getD b default).n = e'.n := by rw [List.getD_eq_getElem?_getD, he']; rfl
      have hb1 : (((b + 1 : Nat) : Int) - 1) = (b : Int) := by omega
      obtain ⟨fk, fn, fe⟩ := e'
      simp only at *
      have HQ := Lib.hid hq
      by_cases hlt : fn < en
      · have d1 : decide (fn < en) = true := by simpa using hlt
        have hT2 : riseTo E en b = riseTo E en k := by
          have h1 : riseTo E en (b + 1) = riseTo E en b := by show (if _ then _ else _) = _; rw [hgd, if_pos hlt]
          rw [← HT.out, h1]
        have HT2 := Lib.hid hT2
        obtain ⟨z1, hz1⟩ : ∃ z, O'[b + 1]? = some z := ⟨_, List.getElem?_eq_getElem (by rw [HH.out.lo]; omega)⟩
        obtain ⟨z2, hz2⟩ : ∃ z, W'[q]? = some z := ⟨_, List.getElem?_eq_getElem (by rw [HH.out.lw]; omega)⟩
        have cO1 := HC.out.co.cell (i32s_get hz1)
        have cWq := HC.out.cw.cell (i32s_get hz2)
        have fO := HC.out.co.free (b + 1)
        have fW := HC.out.cw.free q
        have nn := HC.out.ne.2.2.2
        have np := HC.out.ne.1
        clear hz1 hz2 hT2 hgd hS' hN' hOb hWb he' hq
        go_wp2_with fail
        refine wp_region_lex (by kernel_rfl) (by kernel_rfl) ?_
        go_wp2_with fail
        refine ⟨by kernel_rfl, ?_⟩
        go_wp2_with fail
        refine wp_region_lex (by kernel_rfl) (by kernel_rfl) ?_
        go_wp2_with fail
        refine ⟨by kernel_rfl, ?_⟩
        go_wp2_with fail
        refine wp_region_lex (by kernel_rfl) (by kernel_rfl) ?_
        go_wp2_with fail
        refine ⟨by kernel_rfl, ?_⟩
        go_wp2_with fail
        go_roundw
        case rel =>
          have hC := HC.out.mod ((((Mod.refl [] wr).drew).drew).drew) (by simp)
          obtain ⟨⟨n1, n2, n3, n4⟩, ⟨n5, n6, n7⟩, ⟨n8, n9⟩, n10⟩ := hC.ne
          have MS := ((((((Mod.refl [B.ob, B.wb] wr).drew).drew).drew).setCell (p := ⟨B.ob, b + 1, none⟩) (.inl (by simp)) (.int .i32 (q : Int))).setCell (p := ⟨B.wb, q, none⟩) (.inl (by simp)) (.int .i32 ((b + 1 : Nat) : Int)))
          have BO := (hC.co.set (b + 1) (.int .i32 (q : Int))).other (a := ⟨B.wb, q, none⟩) (by simp; exact n10) (.int .i32 ((b + 1 : Nat) : Int))
          have BW := (hC.cw.other (a := ⟨B.ob, b + 1, none⟩) (by simp; exact fun e => n10 e.symm) (.int .i32 (q : Int))).set q (.int .i32 ((b + 1 : Nat) : Int))
          rw [i32s_set] at BO BW
          have hlo := HH.out.lo
          have hlw := HH.out.lw
          exact ⟨b, _, _, by omega, by go_num, hole_next HR.out.nd LT.out PM.out (by rw [HR.out.len]; omega) ha HQ.out HH.out, HC.out.ow MS BO BW (by rw [List.length_set, hlo, HM.out]) (by rw [List.length_set, hlw, HM.out]), HT2.out, MR.out.trans MS⟩
        case measure => simp [intOf]
      · have d1 : decide (fn < en) = false := by simpa using hlt
        have hT2 : riseTo E en k = b + 1 := by
          rw [← HT.out]
          show (if _ then _ else _) = _
          rw [hgd, if_neg hlt]
        have HT2 := Lib.hid hT2
        clear hT2 hgd hS' hN' hOb hWb he' hq
        obtain ⟨z1, hz1⟩ : ∃ z, O'[(b + 1)]? = some z := ⟨_, List.getElem?_eq_getElem (by rw [HH.out.lo]; omega)⟩
        obtain ⟨z2, hz2⟩ : ∃ z, W'[i]? = some z := ⟨_, List.getElem?_eq_getElem (by rw [HH.out.lw]; omega)⟩
        have cO := HC.out.co.cell (i32s_get hz1)
        have cW := HC.out.cw.cell (i32s_get hz2)
        have fO := HC.out.co.free (b + 1)
        have fW := HC.out.cw.free i
        have nn := HC.out.ne.2.2.2
        have np := HC.out.ne.1
        clear hz1 hz2
        go_wp2_with fail
        refine wp_region_lex (by kernel_rfl) (by kernel_rfl) ?_
        go_wp2_with fail
        refine ⟨by kernel_rfl, ?_⟩
        go_wp2_with fail
        refine wp_region_lex (by kernel_rfl) (by kernel_rfl) ?_
        go_wp2_with fail
        refine ⟨by kernel_rfl, ?_⟩
        go_wp2_with fail
        go_end0
        have hC := HC.out.mod (((Mod.refl [] wr).drew).drew) (by simp)
        obtain ⟨⟨n1, n2, n3, n4⟩, ⟨n5, n6, n7⟩, ⟨n8, n9⟩, n10⟩ := hC.ne
        have MS := (((((Mod.refl [B.ob, B.wb] wr).drew).drew).setCell (p := ⟨B.ob, (b + 1), none⟩) (.inl (by simp)) (.int .i32 (i : Int))).setCell (p := ⟨B.wb, i, none⟩) (.inl (by simp)) (.int .i32 ((b + 1 : Nat) : Int)))
        have BO := (hC.co.set (b + 1) (.int .i32 (i : Int))).other (a := ⟨B.wb, i, none⟩) (by simp; exact n10) (.int .i32 ((b + 1 : Nat) : Int))
        have BW := (hC.cw.other (a := ⟨B.ob, (b + 1), none⟩) (by simp; exact fun e => n10 e.symm) (.int .i32 (i : Int))).set i (.int .i32 ((b + 1 : Nat) : Int))
        rw [i32s_set] at BO BW
        have hlo := HH.out.lo
        have hlw := HH.out.lw
        rw [HT2.out]
        exact ⟨⟨_, rfl⟩, ⟨_, _, HC.out.ow MS BO BW (by rw [List.length_set, hlo, HM.out]) (by rw [List.length_set, hlw, HM.out]), hole_end HR.out LT.out PM.out (by omega) (by omega) HI.out HH.out⟩, MR.out.trans MS⟩
end Go.Proofs.Ytpobjhmfidebbaa.Sum
