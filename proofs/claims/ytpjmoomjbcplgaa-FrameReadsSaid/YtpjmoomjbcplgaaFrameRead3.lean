/- frame: (*Said).read: lists; all signs. -/
import Derived.Test.YtpjmoomjbcplgaaFrameRead2
namespace Go.Proofs.Ytpjmoomjbcplgaa.Frame
open Go Go.RowKit Go.YtpjmoomjbcplgaaMem Go.YtpjmoomjbcplgaaLex
set_option linter.unusedVariables false
set_option linter.unusedSimpArgs false

theorem top_post {w W w' : World} {gs : Nat} {bs : List UInt8} {x : Value} {l : List Cnt} (S : saidOf 4 bs = (listOf (bs.drop 2) (nb bs 1)).map fun l => (⟨4, nb bs 0, 0, 0, 0, 0, 0, 0, 0, 0, 0⟩, l)) (hM : Mod [gs] w W)
    (hl : ∀ l', listOf (bs.drop 2) (nb bs 1) = some l' → l = l') (hB : Blk w' gs 55 ((⟨4, nb bs 0, 0, 0, 0, 0, 0, 0, 0, 0, 0⟩ : Said).cells x)) (hO : OwnC w' W.heap.size x l) (hM2 : Mod [gs] W w') :
    ReadPost w gs 4 bs (.returned (.bool (listOf (bs.drop 2) (nb bs 1)).isSome)) w' := by
  refine ⟨hM.trans hM2, ?_⟩
  cases h : listOf (bs.drop 2) (nb bs 1) with
  | none => exact .inl ⟨by rw [S, h]; rfl, rfl⟩
  | some l' =>
    obtain rfl := hl l' h
    exact .inr ⟨_, l, x, by rw [S, h]; rfl, rfl, hB, own_base hO hM.size⟩
set_option maxRecDepth 4000 in
set_option maxHeartbeats 3200000 in
theorem read_top {w : World} {gs b off cap op : Nat} {bs : List UInt8} (hop : op = 4) (hb1 : 1 ≤ bs.length) (hbl : bs.length ≤ 60000) (hc1 : bs.length ≤ cap) (hc2 : cap ≤ 9223372036854775807) (hbox : Blk w gs 55 ((Said.zero op).cells (.slice none 0 0))) (hb : b < gs)
    (hcell : ∀ i u, (vb bs)[i]? = some u → w.cell? ⟨b, off + i, none⟩ = some u) :
    Calls Try.prog 35 #[.pointer (some ⟨gs, 0, none⟩), .slice (some ⟨b, off, none⟩) bs.length cap] w (ReadPost w gs op bs) := by
  have hgl := hbox.lt
  have HB := Lib.hid hbox
  have B := Lib.hid (hbox.alloc (.cells #[.slice (some ⟨b, off, none⟩) bs.length cap] 28))
  have g0 := B.out.cell (i := 0) rfl
  have c0 : (w.alloc (.cells #[.slice (some ⟨b, off, none⟩) bs.length cap] 28)).cell? ⟨b, off, none⟩ = some (.int .u8 (nb bs 0)) := ((Mod.refl [] w).alloc _).cell (by show b < _; omega) (by simp) |>.trans (hcell 0 _ (nb_get (by omega)))
  have HC := Lib.hid hcell
  subst hop
  clear hbox hcell
  simp only [Said.zero] at g0
  by_cases h2 : 2 ≤ bs.length
  · have S : Hid (saidOf 4 bs = (listOf (bs.drop 2) (nb bs 1)).map fun l => (⟨4, nb bs 0, 0, 0, 0, 0, 0, 0, 0, 0, 0⟩, l)) := Lib.hid (by unfold saidOf; rw [if_neg (by omega), if_neg (by omega), if_pos ⟨rfl, h2⟩]; rfl)
    have k0 := HB.out.cell (i := 0) rfl
    have k1 := HB.out.cell (i := 1) rfl
    have l1 := HB.out.free 1
    have g1 := B.out.cell (i := 1) rfl
    have f1 := B.out.free 1
    have ew : wrap64 (nb bs 0) = nb bs 0 := by unfold wrap64; have := nb_lt bs 0; omega
    have W1 : Hid (∀ i u, (vb bs)[i]? = some u → ((w.setCell ⟨gs, 1, none⟩ (.int .i64 (nb bs 0))).alloc (.cells #[.slice (some ⟨b, off, none⟩) bs.length cap] 28)).cell? ⟨b, off + i, none⟩ = some u) := Lib.hid fun i u hu => ((((Mod.refl [gs] w).setCell (p := ⟨gs, 1, none⟩) (by simp) _).alloc _).cell (by show b < _; omega) (by simp; omega)).trans (HC.out i u hu)
    have D2 : Hid (∀ i u, (vb (bs.drop 2))[i]? = some u → ((w.setCell ⟨gs, 1, none⟩ (.int .i64 (nb bs 0))).alloc (.cells #[.slice (some ⟨b, off, none⟩) bs.length cap] 28)).cell? ⟨b, off + 2 + i, none⟩ = some u) := Lib.hid fun i u hu => by
      rw [show off + 2 + i = off + (2 + i) by omega]
      refine W1.out (2 + i) u ?_
      rw [← hu]; unfold vb; simp
    have c1 := W1.out 1 _ (nb_get (by omega))
    have hlen : (bs.drop 2).length = bs.length - 2 := by simp
    have HLN := Lib.hid hlen
    have n1 := nb_lt bs 1
    have BX := Lib.hid ((HB.out.set 1 (.int .i64 (nb bs 0))).alloc (.cells #[.slice (some ⟨b, off, none⟩) bs.length cap] 28)).drew
    have MW : Hid (Mod [gs] w ((w.setCell ⟨gs, 1, none⟩ (.int .i64 (nb bs 0))).alloc (.cells #[.slice (some ⟨b, off, none⟩) bs.length cap] 28)).drew) := Lib.hid (((Mod.refl [gs] w).setCell (p := ⟨gs, 1, none⟩) (by simp) _).alloc _).drew
    clear hlen
    by_cases hcap : cap = 2
    · subst hcap
      have hl2 : bs.length - 2 = 0 := by omega
      go_enter Try.func35, Try.ntmps35
      go_wp2_with fail
      refine wp_region_lex (by kernel_rfl) (by kernel_rfl) ?_
      go_wp2_with fail
      refine (list_any (w := ((w.setCell ⟨gs, 1, none⟩ (.int .i64 (nb bs 0))).alloc (.cells #[.slice (some ⟨b, off, none⟩) bs.length 2] 28)).drew) (gs := gs) (b := b) (off := off + 2) (cap := 2 - 2) (bs := bs.drop 2) ⟨4, nb bs 0, 0, 0, 0, 0, 0, 0, 0, 0, 0⟩ (nb bs 1) (by omega) (by rw [HLN.out]; omega) (by rw [HLN.out]; omega) (by unfold maxLen; omega) BX.out hb D2.out _ (.inr ⟨_, _, by rw [HLN.out]; omega, rfl⟩)).mono ?_
      rintro e w2 ⟨x, l, rfl, hl, hB, hO, hM⟩
      have HL := Lib.hid hl
      have HBX := Lib.hid hB
      have HOX := Lib.hid hO
      have HM := Lib.hid hM
      clear hl hB hO hM
      go_wp2_with fail
      refine ⟨by kernel_rfl, ?_⟩
      go_wp2_with fail
      go_ret
      exact top_post S.out MW.out HL.out HBX.out HOX.out HM.out
    · go_enter Try.func35, Try.ntmps35
      go_wp2_with fail
      refine wp_region_lex (by kernel_rfl) (by kernel_rfl) ?_
      go_wp2_with fail
      by_cases h3 : 0 < bs.length - 2
      · refine (list_any (w := ((w.setCell ⟨gs, 1, none⟩ (.int .i64 (nb bs 0))).alloc (.cells #[.slice (some ⟨b, off, none⟩) bs.length cap] 28)).drew) (gs := gs) (b := b) (off := off + 2) (cap := cap - 2) (bs := bs.drop 2) ⟨4, nb bs 0, 0, 0, 0, 0, 0, 0, 0, 0, 0⟩ (nb bs 1) (by omega) (by rw [HLN.out]; omega) (by rw [HLN.out]; omega) (by unfold maxLen; omega) BX.out hb D2.out _ (.inl ⟨by rw [HLN.out]; exact h3, by rw [HLN.out]⟩)).mono ?_
        rintro e w2 ⟨x, l, rfl, hl, hB, hO, hM⟩
        have HL := Lib.hid hl
        have HBX := Lib.hid hB
        have HOX := Lib.hid hO
        have HM := Lib.hid hM
        clear hl hB hO hM
        go_wp2_with fail
        refine ⟨by kernel_rfl, ?_⟩
        go_wp2_with fail
        go_ret
        exact top_post S.out MW.out HL.out HBX.out HOX.out HM.out
      · refine (list_any (w := ((w.setCell ⟨gs, 1, none⟩ (.int .i64 (nb bs 0))).alloc (.cells #[.slice (some ⟨b, off, none⟩) bs.length cap] 28)).drew) (gs := gs) (b := b) (off := off + 2) (cap := cap - 2) (bs := bs.drop 2) ⟨4, nb bs 0, 0, 0, 0, 0, 0, 0, 0, 0, 0⟩ (nb bs 1) (by omega) (by rw [HLN.out]; omega) (by rw [HLN.out]; omega) (by unfold maxLen; omega) BX.out hb D2.out _ (.inr ⟨some ⟨b, off + 2, none⟩, cap - 2, by rw [HLN.out]; omega, by congr 1; omega⟩)).mono ?_
        rintro e w2 ⟨x, l, rfl, hl, hB, hO, hM⟩
        have HL := Lib.hid hl
        have HBX := Lib.hid hB
        have HOX := Lib.hid hO
        have HM := Lib.hid hM
        clear hl hB hO hM
        go_wp2_with fail
        refine ⟨by kernel_rfl, ?_⟩
        go_wp2_with fail
        go_ret
        exact top_post S.out MW.out HL.out HBX.out HOX.out HM.out
  · have S : Hid (saidOf 4 bs = none) := Lib.hid (by unfold saidOf; rw [if_neg (by omega), if_neg (by omega), if_neg (by omega), if_neg (by omega)])
    go_enter Try.func35, Try.ntmps35
    go_wp2_with fail
    go_ret
    exact ⟨(Mod.refl [gs] w).alloc _, .inl ⟨S.out, rfl⟩⟩

theorem read_any {w : World} {gs b off cap op : Nat} {bs : List UInt8} (hb1 : 1 ≤ bs.length) (hbl : bs.length ≤ 60000) (hc1 : bs.length ≤ cap) (hc2 : cap ≤ 9223372036854775807) (hbox : Blk w gs 55 ((Said.zero op).cells (.slice none 0 0))) (hb : b < gs)
    (hcell : ∀ i u, (vb bs)[i]? = some u → w.cell? ⟨b, off + i, none⟩ = some u) :
    Calls Try.prog 35 #[.pointer (some ⟨gs, 0, none⟩), .slice (some ⟨b, off, none⟩) bs.length cap] w (ReadPost w gs op bs) := by
  by_cases h1 : op = 1 ∨ op = 2
  · exact read_check h1 hb1 hbl hc1 hc2 hbox hb hcell
  by_cases h3 : op = 3
  · exact read_stats h3 hb1 hbl hc1 hc2 hbox hb hcell
  by_cases h4 : op = 4
  · exact read_top h4 hb1 hbl hc1 hc2 hbox hb hcell
  by_cases h5 : op = 127
  · exact read_fault h5 hb1 hbl hc1 hc2 hbox hb hcell
  · exact read_other (by omega) hbox
end Go.Proofs.Ytpjmoomjbcplgaa.Frame
