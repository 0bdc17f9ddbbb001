/- summary.Summary: Len, Total, Count, Least; of nil, too. -/
import Derived.Test.YtpobjhmfidebbaaSumN
import Derived.Test.YtpobjhmfidebbaaHeld
namespace Go.Proofs.Ytpobjhmfidebbaa.Sum
open Go Go.RowKit Go.YtpobjhmfidebbaaMem Go.YtpobjhmfidebbaaLex Go.Proofs.Ytpobjhmfidebbaa.Hash Go.Proofs.Ytpobjhmfidebbaa.Keys Go.Proofs.Ytpobjhmfidebbaa.Index
set_option linter.unusedVariables false
set_option linter.unusedSimpArgs false

theorem i64s_get {N : List Int} {p : Nat} {z : Int} (h : N[p]? = some z) : (i64s N)[p]? = some (.int .i64 z) := by unfold i64s; rw [List.getElem?_map, h]; rfl
theorem i32s_get {N : List Int} {p : Nat} {z : Int} (h : N[p]? = some z) : (i32s N)[p]? = some (.int .i32 z) := by unfold i32s; rw [List.getElem?_map, h]; rfl
theorem i64s_set (N : List Int) (p : Nat) (z : Int) : (i64s N).set p (.int .i64 z) = i64s (N.set p z) := by unfold i64s; rw [List.map_set]
theorem i32s_set (N : List Int) (p : Nat) (z : Int) : (i32s N).set p (.int .i32 z) = i32s (N.set p z) := by unfold i32s; rw [List.map_set]

section
variable {w : World} {B : SB} {S : List (Option (List UInt8))} {fl : List Nat} {N Er O W : List Int} {total : Int}
theorem len_c (h : SumC w B S fl N Er O W total) : Calls Try.prog 17 #[.pointer (some ⟨B.p, 0, none⟩)] w fun e w' => e = .returned (.int .i64 (used S : Nat)) ∧ w = w' := by
  have U := Lib.hid (used_at h.idx)
  have c0 := h.blk.cell (i := 0) rfl
  clear h
  generalize used S = u at *
  go_enter Try.func17, Try.ntmps17
  go_wp2_with fail
  refine U.out.mono ?_
  rintro e1 w1 ⟨rfl, rfl⟩
  go_wp2_with fail
  go_ret
  exact ⟨rfl, rfl⟩
end
section
variable {w : World} {B : SB} {n : Nat} {E : List Ent} {total : Int}
theorem len_any (h : SumAt w B n E total) : Calls Try.prog 17 #[.pointer (some ⟨B.p, 0, none⟩)] w fun e w' => e = .returned (.int .i64 (E.length : Nat)) ∧ w = w' := by
  obtain ⟨S, fl, N, Er, O, W, ps, h1, h2, h3⟩ := h
  have := len_c h2
  rwa [h3.used] at this
theorem total_any (h : SumAt w B n E total) : Calls Try.prog 20 #[.pointer (some ⟨B.p, 0, none⟩)] w fun e w' => e = .returned (.int .i64 total) ∧ w = w' := by
  obtain ⟨S, fl, N, Er, O, W, ps, h1, h2, h3⟩ := h
  have c6 := h2.blk.cell (i := 6) rfl
  clear h1 h2 h3
  go_enter Try.func20, Try.ntmps20
  go_wp2_with fail
  go_ret
  exact ⟨rfl, rfl⟩
/-- What is told of a key. -/
def countE (E : List Ent) (key : List UInt8) : Int × Int × Bool :=
  match findE E key with
  | some k => ((E.getD k default).n, (E.getD k default).err, true)
  | none => (0, 0, false)
def CountPost (c : Int × Int × Bool) (w : World) (e : Ending) (w' : World) : Prop := e = .returned (.tuple #[.int .i64 c.1, .int .i64 c.2.1, .bool c.2.2]) ∧ Mod [] w w'
set_option maxRecDepth 4000 in
theorem count_any (h : SumAt w B n E total) (key : List UInt8) (hl : key.length ≤ 1000000) :
    Calls Try.prog 16 #[.pointer (some ⟨B.p, 0, none⟩), .string ⟨key.toArray⟩] w (CountPost (countE E key) w) := by
  obtain ⟨S, fl, N, Er, O, W, ps, h1, h2, h3⟩ := h
  have F := Lib.hid (Index.find_any h2.idx key hl)
  have hfew := h2.few
  have HB := Lib.hid h2.blk
  have c1 := h2.blk.cell (i := 1) rfl
  unfold CountPost
  cases hf : findE E key with
  | none =>
    rw [h3.find_none hf] at F
    simp only [optInt] at F
    have hc : countE E key = (0, 0, false) := by unfold countE; rw [hf]
    rw [hc]
    clear h1 h2 h3 hf hc
    go_enter Try.func16, Try.ntmps16
    go_wp2_with fail
    refine F.out.mono ?_
    rintro e1 w1 ⟨rfl, hM⟩
    have M1 := Lib.hid hM
    clear hM
    go_wp2_with fail
    refine bodyPost_ret (v := .tuple #[.int .i64 0, .int .i64 0, .bool false]) (by simp [results, Try.results16, go_sem]) rfl ?_
    exact ⟨rfl, M1.out⟩
  | some k =>
    obtain ⟨p, e, hp, he, hk, hpl⟩ := h3.find_some h2.idx.uniq hf
    obtain ⟨hS, hN, hE, hO, hW⟩ := h3.at_ k p e hp he
    rw [hpl] at F
    simp only [optInt] at F
    have hc : countE E key = (e.n, e.err, true) := by unfold countE; rw [hf]; simp only; rw [List.getD_eq_getElem?_getD, he]; rfl
    rw [hc]
    have CN := Lib.hid (show ∀ W', Mod [] w W' → W'.cell? ⟨B.nb, p, none⟩ = some (.int .i64 e.n) ∧ W'.cell? ⟨B.eb, p, none⟩ = some (.int .i64 e.err) from fun W' hM => ⟨(hM.blk h2.cn (by simp)).cell (i64s_get hN), (hM.blk h2.ce (by simp)).cell (i64s_get hE)⟩)
    have hpS : p < S.length := (List.getElem?_eq_some_iff.1 hS).1
    clear h1 h2 h3 hf hc hS hN hE hO hW hp he hk hpl
    generalize S.length = m at *
    obtain ⟨ek, en, ee⟩ := e
    simp only at *
    go_enter Try.func16, Try.ntmps16
    go_wp2_with fail
    refine F.out.mono ?_
    rintro e1 w1 ⟨rfl, hM⟩
    obtain ⟨n1, n2⟩ := CN.out w1 hM
    have M1 := Lib.hid hM
    have c2 := (hM.blk HB.out (by simp)).cell (i := 2) rfl
    have c3 := (hM.blk HB.out (by simp)).cell (i := 3) rfl
    clear hM
    go_wp2_with fail
    refine wp_region_lex (by kernel_rfl) (by kernel_rfl) ?_
    go_wp2_with fail
    refine ⟨by kernel_rfl, ?_⟩
    go_wp2_with fail
    refine bodyPost_ret (v := .tuple #[.int .i64 en, .int .i64 ee, .bool true]) (by simp [results, Try.results16, go_sem]) rfl ?_
    exact ⟨rfl, M1.out.drew⟩
set_option maxRecDepth 4000 in
theorem least_any (h : SumAt w B n E total) (hn1 : 1 ≤ n) (hle : E.length ≤ n) : Calls Try.prog 21 #[.pointer (some ⟨B.p, 0, none⟩)] w fun e w' => e = .returned (.int .i64 (leastOf n E)) ∧ Mod [] w w' := by
  obtain ⟨S, fl, N, Er, O, W, ps, rfl, h2, h3⟩ := h
  have L := Lib.hid (len_c (h2.mod ((Mod.refl [] w).drew) (by simp)))
  rw [h3.used] at L
  have hfew := h2.few
  have c2 := h2.blk.cell (i := 2) rfl
  have c4 := h2.blk.cell (i := 4) rfl
  have isc : IsC w.drew B.p := isC_of_cell (w := w) c2
  have IS := Lib.hid isc
  unfold leastOf
  by_cases hl : E.length = S.length
  · rw [if_pos hl]
    obtain ⟨p, e, hp, he, hS, hN, hE, hO, hW⟩ := h3.get (k := S.length - 1) (by omega)
    have c5 := h2.co.cell (i32s_get hO)
    have c6 := h2.cn.cell (i64s_get hN)
    have hpS : p < S.length := (List.getElem?_eq_some_iff.1 hS).1
    have hg : (E.getD (S.length - 1) default).n = e.n := by rw [List.getD_eq_getElem?_getD, he]; rfl
    rw [hg]
    have d1 : decide (E.length < S.length) = false := by simp; omega
    have d2 : decide ((E.length : Int) < S.length) = false := by simp; omega
    have hi : ((S.length : Int) - 1) = ((S.length - 1 : Nat) : Int) := by omega
    have hlt : S.length - 1 < S.length := by omega
    clear h2 h3 isc hS hN hE hO hW hp he hl hg
    generalize hm1 : S.length - 1 = m1 at *
    have hm : (S.length : Int) - 1 = (m1 : Int) := by omega
    clear hm1 hi
    generalize S.length = m at *
    obtain ⟨ek, en, ee⟩ := e
    simp only at *
    go_enter Try.func21, Try.ntmps21
    go_wp2_with fail
    refine wp_region_held [5] [8] [] (by kernel_rfl) (by kernel_rfl) ?_
    simp only [wpCut, List.take_succ_cons, List.take_zero, List.drop_succ_cons, List.drop_zero, List.cons_append, List.nil_append]
    go_wp2_with fail
    refine L.out.mono ?_
    rintro e1 w1 ⟨rfl, rfl⟩
    go_wp2_with fail
    refine ⟨Mod.refl _ _, ?_⟩
    go_wp2_with fail
    refine ⟨by kernel_rfl, ⟨⟨by simp, IS.out⟩, trivial⟩, ?_⟩
    go_wp2_with fail
    refine wp_region_lex (by kernel_rfl) (by kernel_rfl) ?_
    go_wp2_with fail
    refine ⟨by kernel_rfl, ?_⟩
    go_wp2_with fail
    go_ret
    exact ⟨rfl, ((Mod.refl [] w).drew).drew⟩
  · rw [if_neg hl]
    have d1 : decide ((E.length : Int) < S.length) = true := by simp; omega
    have d2 : decide (E.length < S.length) = true := by simp; omega
    clear h2 h3 isc
    generalize E.length = u at *
    generalize S.length = m at *
    go_enter Try.func21, Try.ntmps21
    go_wp2_with fail
    refine wp_region_held [5] [8] [] (by kernel_rfl) (by kernel_rfl) ?_
    simp only [wpCut, List.take_succ_cons, List.take_zero, List.drop_succ_cons, List.drop_zero, List.cons_append, List.nil_append]
    go_wp2_with fail
    refine L.out.mono ?_
    rintro e1 w1 ⟨rfl, rfl⟩
    go_wp2_with fail
    refine ⟨Mod.refl _ _, ?_⟩
    go_wp2_with fail
    refine ⟨by kernel_rfl, ⟨⟨by simp, IS.out⟩, trivial⟩, ?_⟩
    go_wp2_with fail
    go_ret
    exact ⟨rfl, (Mod.refl [] w).drew⟩
end
/-! Of nil. -/
theorem len_nil (w : World) : Calls Try.prog 17 #[.pointer none] w fun e w' => e = .returned (.int .i64 0) ∧ w = w' := by
  go_enter Try.func17, Try.ntmps17
  go_wp2_with fail
  go_ret
  exact ⟨rfl, rfl⟩
end Go.Proofs.Ytpobjhmfidebbaa.Sum
