/- summary's laws: SummaryBounds. -/
import Derived.Test.YtpobjhmfidebbaaSumLaw5
import Derived.Test.YtpobjhmfidebbaaDefer
import Derived.Test.YtpobjhmfidebbaaArrArg
namespace Go.Proofs.Ytpobjhmfidebbaa.Sum
open Go Go.RowKit Go.YtpobjhmfidebbaaMem Go.YtpobjhmfidebbaaLex Go.YtpobjhmfidebbaaRange Go.Proofs.Ytpobjhmfidebbaa.Hash Go.Proofs.Ytpobjhmfidebbaa.Keys Go.Proofs.Ytpobjhmfidebbaa.Index
set_option linter.unusedVariables false
set_option linter.unusedSimpArgs false
attribute [local go_sem] Oper.semAt_some

def BoundsRight (w : World) (e : Ending) (w' : World) : Prop := e = .returned (.bool true) ∧ Mod [] w w'
set_option maxRecDepth 8000 in
set_option maxHeartbeats 12800000 in
theorem bounds_main (w : World) (nz : Int) (a0 a1 a2 : Nat) (ha : ∀ x ∈ [a0, a1, a2], x < 18446744073709551616) (a : Option Addr) (cp : Nat) (l : List KW) (hm : l.length ≤ maxLen) (hP : InRow w a 2 KW.cells l) (hok : ∀ q ∈ l, q.ok) (hl : lightB l = true) :
    Calls Try.prog 5 #[.int .i64 nz, v3 a0 a1 a2, .slice a l.length cp] w (BoundsRight w) := by
  obtain ⟨n0, hn0, hn15⟩ : ∃ n0 : Nat, bits .and .i64 nz 15 = (n0 : Int) ∧ n0 ≤ 15 := ⟨(nz % 16).toNat, by rw [show (15 : Int) = 2 ^ 4 - 1 from rfl, and_mask _ _ (by omega)]; omega, by omega⟩
  have R1 := Lib.hid (fun W : World => row_any a0 a1 a2 (ha a0 (by simp)) (ha a1 (by simp)) (ha a2 (by simp)) W)
  have hr1 := rowOf_ok [a0, a1, a2]
  unfold RowPost v3 at R1
  unfold v3
  generalize rowOf [a0, a1, a2] = r1 at *
  have N1 := Lib.hid (fun W : World => new_any (n0 + 1) (by omega) (by omega) r1 hr1 W)
  rw [show ((n0 + 1 : Nat) : Int) = (n0 : Int) + 1 by omega] at N1
  have LG := Lib.hid (fun (W : World) (h : Mod [w.heap.size] (((w.alloc (.cells #[.int .i64 nz] 3)).alloc (.cells #[.int .u64 (a0 : Int), .int .u64 (a1 : Int), .int .u64 (a2 : Int)] 23)).alloc (.cells #[.bool false] 4)) W) => light_any (w := W) (a := a) (l := l) (fun i q hq => by
    obtain ⟨b, off, h1, h2, h3⟩ := hP i q hq
    have M0 := ((((Mod.refl [] w).alloc (.cells #[.int .i64 nz] 3)).alloc (.cells #[.int .u64 (a0 : Int), .int .u64 (a1 : Int), .int .u64 (a2 : Int)] 23)).alloc (.cells #[.bool false] 4)).trans' h (fun b hb => .inr (by simp at hb; omega))
    exact ⟨b, off, h1, M0.lt h2, fun j u hu => (M0.cell (a := ⟨b, off + i * 2 + j, none⟩) h2 (by simp)).trans (h3 j u hu)⟩) hm cp)
  rw [hl] at LG
  have hl150 : l.length ≤ 150 := by unfold lightB at hl; simp at hl; exact hl.1
  have HK : Hid (∀ q ∈ l, q.key.length ≤ 100) := Lib.hid (by unfold lightB at hl; simp at hl; exact hl.2)
  have HP := Lib.hid hP
  have HO := Lib.hid hok
  have HL := Lib.hid hl150
  have X3 := Lib.hid (((Blk.new w [.int .i64 nz] 3).alloc (.cells #[.int .u64 (a0 : Int), .int .u64 (a1 : Int), .int .u64 (a2 : Int)] 23)).alloc (.cells #[.bool false] 4))
  have X4 := Lib.hid ((Blk.new (w.alloc (.cells #[.int .i64 nz] 3)) [.int .u64 (a0 : Int), .int .u64 (a1 : Int), .int .u64 (a2 : Int)] 23).alloc (.cells #[.bool false] 4))
  have X6 := Lib.hid (Blk.new ((w.alloc (.cells #[.int .i64 nz] 3)).alloc (.cells #[.int .u64 (a0 : Int), .int .u64 (a1 : Int), .int .u64 (a2 : Int)] 23)) [.bool false] 4)
  rw [show (w.alloc (.cells #[.int .i64 nz] 3)).heap.size = w.heap.size + 1 by simp] at X4
  rw [show ((w.alloc (.cells #[.int .i64 nz] 3)).alloc (.cells #[.int .u64 (a0 : Int), .int .u64 (a1 : Int), .int .u64 (a2 : Int)] 23)).heap.size = w.heap.size + 2 by simp] at X6
  have M0 := Lib.hid (((((Mod.refl [] w).alloc (.cells #[.int .i64 nz] 3)).alloc (.cells #[.int .u64 (a0 : Int), .int .u64 (a1 : Int), .int .u64 (a2 : Int)] 23))).alloc (.cells #[.bool false] 4))
  have hmm := @run_makeMap Try.prog
  clear ha hr1 hP hok hl hm hl150
  refine calls_of_wp_marks Try.func5 rfl ?_
  simp only [Try.ntmps5, List.size_toArray, List.length_cons, List.length_nil, Nat.reduceAdd, Nat.reduceSub, Array.replicate_succ, Array.replicate_zero, List.push_toArray, List.append_toArray, List.nil_append, List.cons_append]
  go_wp2_with fail
  refine (fit_any _).mono ?_
  rintro e1 w1 ⟨rfl, hM1⟩
  have D1 := Lib.hid hM1
  have Y3 := Lib.hid (hM1.blk X3.out (by simp))
  have k3 := Y3.out.cell (i := 0) rfl
  have f3 := Y3.out.free 0
  clear hM1
  go_wp2_with fail
  have D2 : Hid (Mod [w.heap.size] (((w.alloc (.cells #[.int .i64 nz] 3)).alloc (.cells #[.int .u64 (a0 : Int), .int .u64 (a1 : Int), .int .u64 (a2 : Int)] 23)).alloc (.cells #[.bool false] 4)) (w1.setCell ⟨w.heap.size, 0, none⟩ (.int .i64 ((n0 : Int) + 1)))) := Lib.hid ((D1.out.mono (by simp)).setCell (p := ⟨w.heap.size, 0, none⟩) (.inl (by simp)) _)
  have Y3' : Hid (Blk (w1.setCell ⟨w.heap.size, 0, none⟩ (.int .i64 ((n0 : Int) + 1))) w.heap.size 3 [.int .i64 ((n0 : Int) + 1)]) := Lib.hid (Y3.out.set 0 _)
  refine (LG.out _ D2.out).mono ?_
  rintro e2 w2 ⟨rfl, hM2⟩
  have D3 := Lib.hid (D2.out.trans (hM2.mono (by simp)))
  have Z3 := Lib.hid (hM2.blk Y3'.out (by simp))
  have Z4 := Lib.hid (D3.out.blk X4.out (by simp))
  have Z6 := Lib.hid (D3.out.blk X6.out (by simp))
  have M2 := Lib.hid (M0.out.trans' D3.out (fun b hb => .inr (by simp at hb; omega)))
  clear hM2 k3 f3
  have z3 := Z3.out.cell (i := 0) rfl
  have z40 := Z4.out.cell (i := 0) rfl
  have z41 := Z4.out.cell (i := 1) rfl
  have z42 := Z4.out.cell (i := 2) rfl
  have IS := Lib.hid (show IsC w2.drew w.heap.size from isC_of_cell (w := w2) z3)
  go_wp2_with fail
  refine wp_region_held [3] [0] [] (by kernel_rfl) (by kernel_rfl) ?_
  simp only [wpCut, List.take_succ_cons, List.take_zero, List.drop_succ_cons, List.drop_zero, List.cons_append, List.nil_append]
  go_wp2_with fail
  refine (R1.out _).mono ?_
  rintro e3 w3 ⟨rfl, hM3⟩
  have D3 := Lib.hid hM3
  have M3 := Lib.hid (M2.out.drew.trans hM3)
  have V3 := Lib.hid (hM3.blk Z3.out.drew (by simp))
  have V6 := Lib.hid (hM3.blk Z6.out.drew (by simp))
  clear hM3 z3 z40 z41 z42
  have z3 := V3.out.cell (i := 0) rfl
  go_wp2_with fail
  refine ⟨D3.out, ?_⟩
  go_wp2_with fail
  refine (N1.out _).mono ?_
  rintro e4 w4 ⟨B, rfl, hA, hB, hM4⟩
  have A4 := Lib.hid hA
  have M4 := Lib.hid (M3.out.trans hM4)
  have U3 := Lib.hid (hM4.blk V3.out (by simp))
  have U6 := Lib.hid (hM4.blk V6.out (by simp))
  have BL : Hid (∀ b, b ∈ B.all → w.heap.size + 2 < b) := Lib.hid fun b hb => by have := hB b hb; have := V6.out.lt; omega
  obtain ⟨n, hn⟩ : ∃ n, n0 + 1 = n := ⟨_, rfl⟩
  have hnn : (n0 : Int) + 1 = (n : Int) := by omega
  have hn1 : 1 ≤ n ∧ n ≤ 16 := by omega
  rw [hn] at A4
  rw [hnn] at U3
  clear hA hB hM4 z3 hn hn0 hn15
  go_wp2_with fail
  refine ⟨by kernel_rfl, ⟨⟨by simp, IS.out⟩, trivial⟩, ?_⟩
  have hs4 := U6.out.lt
  have MA := Lib.hid ((((Mod.refl [] w4).alloc (.map #[] 0)).alloc (.cells #[.map (some w4.heap.size)] 32)).alloc (.cells #[.int .i64 0] 2))
  have A5 := Lib.hid (A4.out.mod MA.out (by simp))
  have MP := Lib.hid (((MapW.made (P := Try.prog) (kt := 9) (et := 2) w4).mod ((((Mod.refl [] _).alloc (.cells #[.map (some w4.heap.size)] 32)).alloc (.cells #[.int .i64 0] 2))) (by simp)))
  have HB := Lib.hid ((Blk.new (w4.alloc (.map #[] 0)) [.map (some w4.heap.size)] 32).alloc (.cells #[.int .i64 0] 2))
  have AB := Lib.hid (Blk.new ((w4.alloc (.map #[] 0)).alloc (.cells #[.map (some w4.heap.size)] 32)) [.int .i64 0] 2)
  rw [show (w4.alloc (.map #[] 0)).heap.size = w4.heap.size + 1 by simp] at HB
  rw [show ((w4.alloc (.map #[] 0)).alloc (.cells #[.map (some w4.heap.size)] 32)).heap.size = w4.heap.size + 1 + 1 by simp] at AB
  have hsL : (((w4.alloc (.map #[] 0)).alloc (.cells #[.map (some w4.heap.size)] 32)).alloc (.cells #[.int .i64 0] 2)).heap.size = w4.heap.size + 3 := by simp
  have U3L := Lib.hid (MA.out.blk U3.out (by simp))
  have U6L := Lib.hid (MA.out.blk U6.out (by simp))
  have ML := Lib.hid (M4.out.trans MA.out)
  have BLt : Hid (∀ b, b ∈ B.all → b < w4.heap.size) := Lib.hid fun b hb => A4.out.lt b hb
  have HSL := Lib.hid hsL
  clear hsL
  go_wp2_with fail
  have hsL := HSL.out
  clear HSL
  obtain ⟨mb, hmb⟩ : ∃ mb, w4.heap.size = mb := ⟨_, rfl⟩
  obtain ⟨wL, hwL⟩ : ∃ wL, (((w4.alloc (.map #[] 0)).alloc (.cells #[.map (some w4.heap.size)] 32)).alloc (.cells #[.int .i64 0] 2)) = wL := ⟨_, rfl⟩
  rw [hwL] at MA A5 MP HB AB hsL U3L U6L ML ⊢
  rw [hmb] at MP HB AB hsL BLt hs4 ⊢
  obtain ⟨hb, hhb⟩ : ∃ hb, mb + 1 = hb := ⟨_, rfl⟩
  obtain ⟨ab, hab⟩ : ∃ ab, mb + 1 + 1 = ab := ⟨_, rfl⟩
  rw [hhb] at HB
  rw [hab] at AB
  rw [hab, hhb]
  clear hwL
  have hlay : w.heap.size + 2 < mb ∧ mb < hb ∧ hb < ab ∧ ab < wL.heap.size := by omega
  clear hmb hhb hab hsL hmm MA M0 M2 M3 M4 X3 X4 X6 D1 D2 D3 Y3 Y3' Z3 Z4 Z6 V3 V6 U3 U6 R1 N1 LG IS A4
  refine wp_loop (fun a' wr => ∃ (Ds : List Nat) (u11 u12 u13 u14 u35 u36 u37 u38 u39 u40 u41 u42 u43 u44 u45 u46 u47 u48 u49 u50 u51 u52 u53 u54 u55 u56 u57 u58 u59 u60 u61 u62 u63 u64 u65 u66 u67 u68 u69 u70 u71 u72 u73 u74 u75 u76 u77 u78 u79 u80 u81 u82 u83 u84 u85 u86 u87 u88 u89 u90 u91 u92 u93 u94 u95 u96 u97 u98 u99 u100 u101 u102 u103 u104 : Value), (∃ (j : Nat) (f : List UInt8 → Option Int) (E : List Ent) (t : Int) (nm c : Nat), j ≤ l.length ∧ u35 = .int .i64 (j : Int) ∧ nm ≤ j ∧ SumAt wr B n E t ∧ OkE n E t ∧ BndI n f E t ∧ t ≤ 65536 * j ∧ (∀ k z, f k = some z → k.length ≤ 64) ∧ MS wr mb nm f c ∧ Blk wr ab 2 [.int .i64 t] ∧ Mod (mb :: ab :: B.all) wL wr ∧ Shut Ds wr ∧ ∀ D ∈ Ds, wL.heap.size ≤ D) ∧ a' = ⟨List.toArray (Value.int .i64 nz :: Value.agg #[Value.int .u64 (a0 : Int), Value.int .u64 (a1 : Int), Value.int .u64 (a2 : Int)] :: Value.slice a l.length cp :: Value.pointer (some ⟨w.heap.size, 0, none⟩) :: Value.pointer (some ⟨w.heap.size + 1, 0, none⟩) :: undef :: Value.pointer (some ⟨w.heap.size + 1 + 1, 0, none⟩) :: Value.pointer (some ⟨B.p, 0, none⟩) :: Value.pointer (some ⟨hb, 0, none⟩) :: Value.pointer (some ⟨ab, 0, none⟩) :: undef :: u11 :: u12 :: u13 :: u14 :: undef :: undef :: undef :: undef :: undef :: Value.bool true :: Value.bool false :: Value.int .i64 nz :: Value.int .i64 (n0 : Int) :: Value.int .i64 (n : Int) :: Value.slice a l.length cp :: Value.bool true :: Value.bool false :: Value.int .i64 (n : Int) :: Value.agg #[Value.int .u64 (a0 : Int), Value.int .u64 (a1 : Int), Value.int .u64 (a2 : Int)] :: Value.agg #[Value.int .u64 (r1.x : Int), Value.int .u64 (r1.a : Int), Value.int .u64 (r1.b : Int)] :: Value.pointer (some ⟨B.p, 0, none⟩) :: Value.map (some mb) :: Value.slice a l.length cp :: Value.int .i64 (l.length : Int) :: u35 :: u36 :: u37 :: u38 :: u39 :: u40 :: u41 :: u42 :: u43 :: u44 :: u45 :: u46 :: u47 :: u48 :: u49 :: u50 :: u51 :: u52 :: u53 :: u54 :: u55 :: u56 :: u57 :: u58 :: u59 :: u60 :: u61 :: u62 :: u63 :: u64 :: u65 :: u66 :: u67 :: u68 :: u69 :: u70 :: u71 :: u72 :: u73 :: u74 :: u75 :: u76 :: u77 :: u78 :: u79 :: u80 :: u81 :: u82 :: u83 :: u84 :: u85 :: u86 :: u87 :: u88 :: u89 :: u90 :: u91 :: u92 :: u93 :: u94 :: u95 :: u96 :: u97 :: u98 :: u99 :: u100 :: u101 :: u102 :: u103 :: u104 :: undef :: undef :: undef :: undef :: undef :: undef :: undef :: undef :: undef :: undef :: undef :: undef :: undef :: undef :: undef :: undef :: undef :: undef :: undef :: undef :: undef :: undef :: []), Ds.map coll⟩) (fun a' wr => l.length - (intOf (a'.tmps.getD 35 undef)).toNat) ?_ ?_
  · refine ⟨[], ?_⟩
    repeat apply Exists.intro
    refine ⟨⟨0, fun _ => none, [], 0, 0, 0, Nat.zero_le _, rfl, Nat.le_refl _, A5.out, ok_nil n, bnd_nil n hn1.1, by omega, by simp, MP.out, AB.out, Mod.refl _ _, shut_nil _, by simp⟩, rfl⟩
  · intro _ wr hinv
    obtain ⟨Ds, hinv⟩ := hinv
    obtain ⟨u11, hinv⟩ := hinv
    obtain ⟨u12, hinv⟩ := hinv
    obtain ⟨u13, hinv⟩ := hinv
    obtain ⟨u14, hinv⟩ := hinv
    obtain ⟨u35, hinv⟩ := hinv
    obtain ⟨u36, hinv⟩ := hinv
    obtain ⟨u37, hinv⟩ := hinv
    obtain ⟨u38, hinv⟩ := hinv
    obtain ⟨u39, hinv⟩ := hinv
    obtain ⟨u40, hinv⟩ := hinv
    obtain ⟨u41, hinv⟩ := hinv
    obtain ⟨u42, hinv⟩ := hinv
    obtain ⟨u43, hinv⟩ := hinv
    obtain ⟨u44, hinv⟩ := hinv
    obtain ⟨u45, hinv⟩ := hinv
    obtain ⟨u46, hinv⟩ := hinv
    obtain ⟨u47, hinv⟩ := hinv
    obtain ⟨u48, hinv⟩ := hinv
    obtain ⟨u49, hinv⟩ := hinv
    obtain ⟨u50, hinv⟩ := hinv
    obtain ⟨u51, hinv⟩ := hinv
    obtain ⟨u52, hinv⟩ := hinv
    obtain ⟨u53, hinv⟩ := hinv
    obtain ⟨u54, hinv⟩ := hinv
    obtain ⟨u55, hinv⟩ := hinv
    obtain ⟨u56, hinv⟩ := hinv
    obtain ⟨u57, hinv⟩ := hinv
    obtain ⟨u58, hinv⟩ := hinv
    obtain ⟨u59, hinv⟩ := hinv
    obtain ⟨u60, hinv⟩ := hinv
    obtain ⟨u61, hinv⟩ := hinv
    obtain ⟨u62, hinv⟩ := hinv
    obtain ⟨u63, hinv⟩ := hinv
    obtain ⟨u64, hinv⟩ := hinv
    obtain ⟨u65, hinv⟩ := hinv
    obtain ⟨u66, hinv⟩ := hinv
    obtain ⟨u67, hinv⟩ := hinv
    obtain ⟨u68, hinv⟩ := hinv
    obtain ⟨u69, hinv⟩ := hinv
    obtain ⟨u70, hinv⟩ := hinv
    obtain ⟨u71, hinv⟩ := hinv
    obtain ⟨u72, hinv⟩ := hinv
    obtain ⟨u73, hinv⟩ := hinv
    obtain ⟨u74, hinv⟩ := hinv
    obtain ⟨u75, hinv⟩ := hinv
    obtain ⟨u76, hinv⟩ := hinv
    obtain ⟨u77, hinv⟩ := hinv
    obtain ⟨u78, hinv⟩ := hinv
    obtain ⟨u79, hinv⟩ := hinv
    obtain ⟨u80, hinv⟩ := hinv
    obtain ⟨u81, hinv⟩ := hinv
    obtain ⟨u82, hinv⟩ := hinv
    obtain ⟨u83, hinv⟩ := hinv
    obtain ⟨u84, hinv⟩ := hinv
    obtain ⟨u85, hinv⟩ := hinv
    obtain ⟨u86, hinv⟩ := hinv
    obtain ⟨u87, hinv⟩ := hinv
    obtain ⟨u88, hinv⟩ := hinv
    obtain ⟨u89, hinv⟩ := hinv
    obtain ⟨u90, hinv⟩ := hinv
    obtain ⟨u91, hinv⟩ := hinv
    obtain ⟨u92, hinv⟩ := hinv
    obtain ⟨u93, hinv⟩ := hinv
    obtain ⟨u94, hinv⟩ := hinv
    obtain ⟨u95, hinv⟩ := hinv
    obtain ⟨u96, hinv⟩ := hinv
    obtain ⟨u97, hinv⟩ := hinv
    obtain ⟨u98, hinv⟩ := hinv
    obtain ⟨u99, hinv⟩ := hinv
    obtain ⟨u100, hinv⟩ := hinv
    obtain ⟨u101, hinv⟩ := hinv
    obtain ⟨u102, hinv⟩ := hinv
    obtain ⟨u103, hinv⟩ := hinv
    obtain ⟨u104, hinv⟩ := hinv
    obtain ⟨hrel, ha⟩ := hinv
    subst ha
    dsimp only
    clear A5 MP
    obtain ⟨j, f, E, t, nm, c, hj, rfl, hnm, hA, hO, hF, ht, hKL, hMP, hT, hM, hS, hDs⟩ := hrel
    have AR := Lib.hid hA
    have OR := Lib.hid hO
    have FR := Lib.hid hF
    have TR := Lib.hid ht
    have KL := Lib.hid hKL
    clear hKL
    have PR := Lib.hid hMP
    have TB := Lib.hid hT
    have MR := Lib.hid hM
    have SR := Lib.hid hS
    have DR := Lib.hid hDs
    have hl150 := HL.out
    have ht0 := hO.lt
    have hwr := hM.size
    have HSS : Hid (∀ b, b ∈ mb :: ab :: B.all → b < wL.heap.size ∧ w.heap.size + 2 < b) := Lib.hid fun b hb => by
      rcases List.mem_cons.1 hb with rfl | hb
      · omega
      · rcases List.mem_cons.1 hb with rfl | hb
        · omega
        · have := BLt.out b hb; have := BL.out b hb; omega
    have MW := Lib.hid (ML.out.trans' MR.out (fun b hb => .inr (by have := HSS.out b hb; omega)))
    have H8 := Lib.hid (MR.out.blk HB.out (fun hb => by
      rcases List.mem_cons.1 hb with h | hb
      · omega
      · rcases List.mem_cons.1 hb with h | hb
        · omega
        · have := BLt.out _ hb; omega))
    have H3 := Lib.hid (MR.out.blk U3L.out (fun hb => by have := HSS.out _ hb; omega))
    have H6 := Lib.hid (MR.out.blk U6L.out (fun hb => by have := HSS.out _ hb; omega))
    have NM : Hid (mb ∉ B.all ∧ ab ∉ B.all ∧ hb ∉ B.all) := Lib.hid ⟨fun h => by have := BLt.out _ h; omega, fun h => by have := BLt.out _ h; omega, fun h => by have := BLt.out _ h; omega⟩
    by_cases hlt : j < l.length
    · obtain ⟨q, hq⟩ : ∃ q, l[j]? = some q := ⟨_, List.getElem?_eq_getElem hlt⟩
      obtain ⟨b, off, rfl, hb', hcell⟩ := HP.out j q hq
      have hk100 := HK.out q (List.mem_of_getElem? hq)
      have hzw := wf_i64_of (HO.out q (List.mem_of_getElem? hq))
      obtain ⟨key, z⟩ := q
      simp only at hk100 hzw
      have c0 := (MW.out.cell (a := ⟨b, off + j * 2, none⟩) hb' (by simp)).trans (hcell 0 _ rfl)
      have c1 := (MW.out.cell (a := ⟨b, off + j * 2 + 1, none⟩) hb' (by simp)).trans (hcell 1 _ rfl)
      simp only at c0 c1
      have hsz : (ByteArray.mk key.toArray).size = key.length := by simp [ByteArray.size]
      have NB := Lib.hid (Blk.new wr [.string ⟨key.toArray⟩, .int .i64 z] 34)
      have A1 := Lib.hid ((Mod.refl [] wr).alloc (.cells #[.string ⟨key.toArray⟩, .int .i64 z] 34))
      have AA := Lib.hid (AR.out.mod A1.out (by simp))
      have HN : Hid (wr.heap.size ∉ B.all) := Lib.hid fun h => by have := hA.lt _ h; omega
      obtain ⟨v, hv, hv1⟩ : ∃ v, bits .and .i64 z 65535 = v ∧ 0 ≤ v ∧ v ≤ 65535 := ⟨_, rfl, by rw [show (65535 : Int) = 2 ^ 16 - 1 from rfl, and_mask _ _ (by omega)]; omega⟩
      by_cases h64 : key.length ≤ 64
      · have d1 : decide ((64 : Int) < key.length) = false := by simp; omega
        have hkm : key.length ≤ maxLen := by unfold maxLen; omega
        have hmz : nm < maxLen := by unfold maxLen; omega
        have hKM := Lib.hid hkm
        have hMZ := Lib.hid hmz
        have OF := offer_plain (n := n) (s := (E, t)) (key := key) (z := v + 1) (by omega) (by omega) (by simp only; omega) ht0.1
        have F1 := Lib.hid (offer_ok (s := (E, t)) AA.out OR.out hn1.1 key (by omega) (v + 1) (by omega))
        rw [OF] at F1
        obtain ⟨E2, hE2⟩ : ∃ E2, offerE n E key (v + 1) = E2 := ⟨_, rfl⟩
        obtain ⟨t2, ht2⟩ : ∃ t2, t + (v + 1) = t2 := ⟨_, rfl⟩
        rw [hE2] at F1
        have T2 : Hid (t + (v + 1) ≤ 65536 * ((j + 1 : Nat) : Int)) := Lib.hid (by omega)
        have HE2 := Lib.hid hE2
        have HT2 := Lib.hid ht2
        have hp := FR.out.pos key
        have hple : (f key).getD 0 ≤ t := by
          cases hf : f key with
          | none => simp; omega
          | some x => have := (FR.out.le OR.out hn1.1 hf).2; simpa using this
        clear hA hO hF ht hMP hM hT hS hDs hcell hq hb' hkm hmz OF hE2 ht2
        go_wp2_with fail
        refine F1.out.mono ?_
        rintro e1 w1 ⟨⟨v1, rfl⟩, hA1, hO1, hM1⟩
        simp only at hA1 hO1
        have A2 := Lib.hid hA1
        have O2 := Lib.hid (show OkE n E2 t2 by rw [← HT2.out]; exact hO1)
        have A2' := Lib.hid (show SumAt w1 B n E2 t2 by rw [← HT2.out]; exact hA1)
        have F2 := Lib.hid (FR.out.step OR.out hn1.1 (key := key) (z := v + 1) (by omega) (by rw [HE2.out]; exact hO1))
        rw [HE2.out, HT2.out] at F2
        have X1 := Lib.hid ((A1.out.mono (by simp)).trans hM1 (S := B.all))
        have P1 := Lib.hid (PR.out.mod X1.out NM.out.1)
        have h8 := (X1.out.blk H8.out NM.out.2.2).cell (i := 0) rfl
        have k0 := (hM1.blk NB.out HN.out).cell (i := 0) rfl
        have gt := map_get P1.out hKM.out
        obtain ⟨x_, hx_⟩ : ∃ x, (f key).getD 0 = x := ⟨_, rfl⟩
        rw [hx_] at gt hp hple F2
        obtain ⟨w2, pt, P2, N2⟩ := P1.out.put (mt := 32) Try.underlying32 Try.underlying9 Try.underlying2 hMZ.out hKM.out (z := x_ + (v + 1)) (WalkArith.wf_i64 (by omega))
        have P3 := Lib.hid P2
        have A3 := Lib.hid (A2'.out.mod N2 (by simp; exact fun b hb hm => NM.out.1 (hm ▸ hb)))
        have X2 := Lib.hid ((X1.out.mono (S' := mb :: ab :: B.all) (fun b hb => .inl (by simp [hb]))).trans (N2.mono (by simp)))
        have T2b := Lib.hid (N2.blk (X1.out.blk TB.out NM.out.2.1) (by simp; omega))
        have q0 := T2b.out.cell (i := 0) rfl
        have g0 := T2b.out.free 0
        have h82 := (N2.blk (X1.out.blk H8.out NM.out.2.2) (by simp; omega)).cell (i := 0) rfl
        have T3 := Lib.hid (show Blk (w2.setCell ⟨ab, 0, none⟩ (.int .i64 (t + (v + 1)))) ab 2 [.int .i64 (t + (v + 1))] from T2b.out.set 0 _)
        have N3 : Hid (Mod [ab] w2 (w2.setCell ⟨ab, 0, none⟩ (.int .i64 (t + (v + 1))))) := Lib.hid ((Mod.refl [ab] w2).setCell (p := ⟨ab, 0, none⟩) (.inl (by simp)) _)
        clear hA1 hO1 hM1 P2 N2 c0 c1 hx_
        have N4 := Lib.hid ((Mod.refl [] (w2.setCell ⟨ab, 0, none⟩ (.int .i64 (t + (v + 1))))).alloc (.cells #[.int .i64 0] 2))
        have I8 := Lib.hid (Blk.new (w2.setCell ⟨ab, 0, none⟩ (.int .i64 (t + (v + 1)))) [.int .i64 0] 2)
        have NX := Lib.hid (N3.out.trans (N4.out.mono (by simp)))
        have A8 := Lib.hid (A3.out.mod NX.out (by simp; exact fun b hb hm => NM.out.2.1 (hm ▸ hb)))
        have P8 := Lib.hid (P3.out.mod NX.out (by simp; omega))
        have T8 := Lib.hid (N4.out.blk T3.out (by simp))
        have X8 := Lib.hid (X2.out.trans (NX.out.mono (by simp)))
        have M8 := Lib.hid (MR.out.trans X8.out)
        have H88 := Lib.hid (X8.out.blk H8.out (by have := NM.out.2.2; simp [this]; omega))
        have H38 := Lib.hid (X8.out.blk H3.out (fun hb => by have := HSS.out _ hb; omega))
        have S8 := Lib.hid (SR.out.mod X8.out (fun D hD hb => by have := DR.out D hD; have := HSS.out D hb; omega))
        have hs8' : Hid (wL.heap.size ≤ (w2.setCell ⟨ab, 0, none⟩ (.int .i64 (t + (v + 1)))).heap.size) := Lib.hid (MR.out.trans (X2.out.trans (N3.out.mono (by simp)))).size
        rw [HT2.out] at I8 T8 NX A8 P8 X8 M8 H88 H38 S8 N4 hs8'
        go_wp2_with fail
        try rw [HT2.out]
        clear q0 g0 h82 gt pt k0 h8
        obtain ⟨wS, hwS⟩ : ∃ wS, w2.setCell ⟨ab, 0, none⟩ (.int .i64 t2) = wS := ⟨_, rfl⟩
        try rw [hwS]
        rw [hwS] at I8 T8 NX A8 P8 X8 M8 H88 H38 S8 N4 hs8'
        have hws2 : wS.heap.size = w2.heap.size := by rw [← hwS]; simp
        obtain ⟨sb, hsb⟩ : ∃ b, w2.heap.size = b := ⟨_, rfl⟩
        rw [hsb] at hws2 ⊢
        obtain ⟨w8, hw8⟩ : ∃ w8, wS.alloc (.cells #[.int .i64 0] 2) = w8 := ⟨_, rfl⟩
        have hs8 : sb < w8.heap.size := by rw [← hw8, ← hws2]; simp
        have hsLb : wL.heap.size ≤ sb := by rw [← hws2]; exact hs8'.out
        rw [hw8] at I8 T8 NX A8 P8 X8 M8 H88 H38 S8
        rw [hws2] at I8
        rw [hw8]
        have KL2 : Hid (∀ k z, upd f key (some (x_ + (v + 1))) k = some z → k.length ≤ 64) := Lib.hid fun k z hk => by
          by_cases e : k = key
          · subst e; exact h64
          · rw [upd_other e] at hk; exact KL.out k z hk
        have HDS : Hid (∀ D ∈ Ds, D < sb) := Lib.hid fun D hD => by
          have q1 := SR.out.lt D hD
          have q2 := X2.out.size
          omega
        have hsbn : ∀ b, b ∈ B.all → b < sb := fun b hb => by have := BLt.out b hb; omega
        have HSB := Lib.hid hsbn
        clear hw8 hwS N4 hs8' T3 N3 T2b hws2 hsb hsbn NX A3 P3 P1 X1 A2 A2' X2 F1 FR OR AR PR TB AA
        refine wp_range (Kp := Under w8.heap.size [sb]) (encs := encS) (xs := E2) rfl (enters_of Try.func19 (by kernel_rfl) rfl)
          (all_iter A8.out (fun A A' hA hK b hb => hK.block b (A8.out.lt b hb) (by simp; have := HSB.out b hb; omega)))
          (fun h k => h.trans k) (fun h => h.mono (by simp)) (fun _ => rfl)
          (fun pre W => Mod [sb] w8 W ∧ Blk W sb 2 [.int .i64 (sumN pre)])
          (fun c pre W => False)
          ?hI (fun c pre A B' h hu => h) ⟨Mod.refl _ _, I8.out⟩ ?round ?done ?stop
        case hI => exact fun pre A B' h hu => ⟨mod_under h.1 hu, blk_under h.2 hu (by omega)⟩
        case stop => exact fun D c pre x post W _ _ h _ => h.elim
        case round =>
          rename_i K2 h2 Q1 K1 h1 K0 h0
          clear h0 h1 h2
          rintro l0 pre x W hl1 hl2 ⟨hM, hB⟩ ⟨post, hx⟩
          have MW2 := Lib.hid hM
          have hWs := hM.size
          have hxE : x ∈ E2 := by rw [hx]; simp
          have hu := F2.out.up x hxE
          have hd := F2.out.down x hxE
          have he := F2.out.err x hxE
          have hp2 := F2.out.pos x.key
          have hpo := O2.out.pos x hxE
          have hea := O2.out.each x hxE
          have h642 := O2.out.k64 x hxE
          have ht20 := O2.out.lt
          have hsum : 0 ≤ sumN pre ∧ sumN pre + x.n ≤ t2 := by
            have hs := O2.out.sum
            rw [hx] at hs
            unfold sumN at hs ⊢
            rw [List.map_append, List.sum_append, List.map_cons, List.sum_cons] at hs
            have q1 := (sum_nonneg (l := pre.map (·.n)) (fun y hy => by obtain ⟨e', he', rfl⟩ := List.mem_map.1 hy; exact (O2.out.each e' (by rw [hx]; simp [he'])).1)).1
            have q2 := (sum_nonneg (l := post.map (·.n)) (fun y hy => by obtain ⟨e', he', rfl⟩ := List.mem_map.1 hy; exact (O2.out.each e' (by rw [hx]; simp [he'])).1)).1
            omega
          have hxq : x.err ≤ t2 / (n : Int) := by
            rw [Int.le_ediv_iff_mul_le (by omega)]; exact he
          have N9 := Lib.hid (Blk.new W x.cells 46)
          have D9 := Lib.hid ((Mod.refl [] W).alloc (.cells x.cells.toArray 46))
          have B7 := Lib.hid hB
          have PW := Lib.hid (P8.out.mod hM (by simp; omega))
          obtain ⟨fv, hfv⟩ : ∃ fv, (upd f key (some (x_ + (v + 1))) x.key).getD 0 = fv := ⟨_, rfl⟩
          have HFV := Lib.hid hfv
          rw [hfv] at hu hd hp2
          have hk9 : x.key.length ≤ maxLen := by unfold maxLen; omega
          have hpn : (pre ++ [x]).map (·.n) = pre.map (·.n) ++ [x.n] := by simp
          have hsn : sumN (pre ++ [x]) = sumN pre + x.n := by unfold sumN; rw [hpn, List.sum_append]; simp
          have HSN := Lib.hid hsn
          obtain ⟨sp, hsp⟩ : ∃ sp, sumN pre = sp := ⟨_, rfl⟩
          rw [hsp] at hsum HSN B7
          obtain ⟨tq, htq⟩ : ∃ tq, t2 / (n : Int) = tq := ⟨_, rfl⟩
          have htq2 : t2.tdiv (n : Int) = tq := by rw [Int.tdiv_eq_ediv_of_nonneg ht20.1]; exact htq
          rw [htq] at hxq
          have htq0 : 0 ≤ tq ∧ tq < 4611686018427387904 := by
            have q1 := Int.ediv_nonneg ht20.1 (show (0 : Int) ≤ (n : Int) by omega)
            have q2 := Int.ediv_le_self (n : Int) ht20.1
            omega
          have HK9 := Lib.hid hk9
          obtain ⟨ek, en, ee⟩ := x
          simp only [Ent.cells, encS, Ent.val] at *
          clear hx hB hM hxE he hpn hsn hsp hfv hk9
          gi_wp2
          refine ⟨Over.of_mod D9.out (by simp), Under.of_mod (D9.out.mono (by simp)) hWs, fun o => ?_⟩
          obtain ⟨W2, hW2⟩ : ∃ W2, (W.alloc (.cells #[.string ⟨ek.toArray⟩, .int .i64 en, .int .i64 ee] 46)).putObj l0 o = W2 := ⟨_, rfl⟩
          have M2 : Hid (Mod [l0] (W.alloc (.cells #[.string ⟨ek.toArray⟩, .int .i64 en, .int .i64 ee] 46)) W2) := Lib.hid (by rw [← hW2]; exact mod_putObj _ _ _)
          have C7 := Lib.hid (M2.out.blk (B7.out.alloc _) (by simp; omega))
          have C9 := Lib.hid (M2.out.blk N9.out (by simp; omega))
          have MW3 := Lib.hid ((MW2.out.trans (D9.out.mono (by simp))).trans' M2.out (fun b hb => .inr (by simp at hb; omega)))
          have PW2 := Lib.hid ((PW.out.mod D9.out (by simp)).mod M2.out (by simp; omega))
          rw [hW2]
          have hs2 := MW3.out.size
          clear hW2
          have c8 := (MW3.out.blk H88.out (by simp; omega)).cell (i := 0) rfl
          have c9 := (MW3.out.blk T8.out (by simp; omega)).cell (i := 0) rfl
          have c3 := (MW3.out.blk H38.out (by simp; omega)).cell (i := 0) rfl
          have c7 := C7.out.cell (i := 0) rfl
          have f7 := C7.out.free 0
          have e0 := C9.out.cell (i := 0) rfl
          have e1 := C9.out.cell (i := 1) rfl
          have e2 := C9.out.cell (i := 2) rfl
          have ISX := Lib.hid (show IsC W2.drew W.heap.size from isC_of_cell (w := W2) e0)
          have gt2 := map_get (PW2.out.mod ((Mod.refl [] W2).drew) (by simp)) HK9.out
          rw [HFV.out] at gt2
          have hb7l : sb < W2.heap.size := C7.out.lt
          have da : decide (en < fv) = false := by simp; omega
          have db : decide (fv < en - ee) = false := by simp; omega
          have dc : decide (tq < ee) = false := by simp; omega
          clear PW PW2 HFV HK9
          gi_wp2
          refine wpIn_region_held [4, 8] [5, 13, 15] [] (by kernel_rfl) (by kernel_rfl) ?hno (by kernel_rfl) ?_
          case hno => rintro ⟨a0, w0, h⟩; exact h
          simp only [wpCut, List.take_succ_cons, List.take_zero, List.drop_succ_cons, List.drop_zero, List.cons_append, List.nil_append]
          go_wp2_with fail
          refine ⟨Mod.refl _ _, ?_⟩
          go_wp2_with fail
          refine ⟨Mod.refl _ _, ?_⟩
          go_wp2_with fail
          refine ⟨by kernel_rfl, ⟨⟨by simp, ISX.out⟩, ⟨by simp, ISX.out⟩, ⟨by simp, ISX.out⟩, trivial⟩, ?_⟩
          gi_wp2
          have MS : Hid (Mod [sb] W2 (W2.drew.setCell ⟨sb, 0, none⟩ (.int .i64 (sp + en)))) := Lib.hid ((((Mod.refl [sb] W2).drew).setCell (p := ⟨sb, 0, none⟩) (.inl (by simp)) _))
          refine ⟨Over.of_mod MS.out (by simp; omega), Under.of_mod MS.out hs2, MW3.out.trans MS.out, ?_⟩
          rw [HSN.out]
          exact (C7.out.drew.set 0 (.int .i64 (sp + en)))
        case done =>
          rintro D W hD ⟨hM, hB⟩ hK
          have hs20 := O2.out.sum
          rw [hs20] at hB
          have MD := Lib.hid hM
          have AD := Lib.hid ((A8.out.mod hM (fun b hb h => by simp at h; have := HSB.out b hb; omega)).mod ((Mod.refl [] W).drew) (by simp))
          have TD := Lib.hid (total_any AD.out)
          have T9 := Lib.hid (hM.blk T8.out (by simp; omega))
          have PD := Lib.hid ((P8.out.mod hM (by simp; omega)).mod ((Mod.refl [] W).drew) (by simp))
          have SD := Lib.hid ((S8.out.mod hM (fun D hD h => by simp at h; have := HDS.out D hD; omega)).cons hK (fun h => by have := HDS.out D h; omega))
          have MQ := Lib.hid ((M8.out.trans' hM (fun b hb => .inr (by simp at hb; omega))).drew)
          have c9 := T9.out.drew.cell (i := 0) rfl
          have c7 := hB.drew.cell (i := 0) rfl
          have c9' := T9.out.cell (i := 0) rfl
          have IS := Lib.hid (show IsC W.drew ab from isC_of_cell (w := W) c9')
          clear hM hB hK hs20
          go_wp2_with fail
          refine wp_region_held [2] [2] [] (by kernel_rfl) (by kernel_rfl) ?_
          simp only [wpCut, List.take_succ_cons, List.take_zero, List.drop_succ_cons, List.drop_zero, List.cons_append, List.nil_append]
          go_wp2_with fail
          refine TD.out.mono ?_
          rintro e9 w9 ⟨rfl, rfl⟩
          go_wp2_with fail
          refine ⟨Mod.refl _ _, ?_⟩
          go_wp2_with fail
          refine ⟨by kernel_rfl, ⟨⟨by simp, IS.out⟩, trivial⟩, ?_⟩
          go_wp2_with fail
          refine ⟨⟨D :: Ds, ?_⟩, ?measure⟩
          (repeat apply Exists.intro)
          refine ⟨?rel, rfl⟩
          case rel => exact ⟨j + 1, _, E2, t2, nm + 1, _, by omega, by go_num, by omega, AD.out, O2.out, F2.out, by have := T2.out; rw [HT2.out] at this; exact this, KL2.out, PD.out, T9.out.drew, MQ.out, SD.out.mod ((Mod.refl [] W).drew) (by simp), fun x hx => by
            rcases List.mem_cons.1 hx with rfl | hx
            · omega
            · exact DR.out x hx⟩
          case measure => simp [intOf]; omega
      · have d1 : decide ((64 : Int) < key.length) = true := by simp; omega
        have d2 : decide (64 < key.length) = true := by simp; omega
        have SR' := Lib.hid (SR.out.mod A1.out (by simp))
        have PA := Lib.hid (PR.out.mod A1.out (by simp))
        have TA := Lib.hid (A1.out.blk TB.out (by simp))
        have MA := Lib.hid (MR.out.trans (A1.out.mono (by simp)))
        clear hA hO hF ht hMP hM hT hS hDs hcell hq hb'
        go_wp2_with fail
        refine ⟨⟨Ds, ?_⟩, ?measure⟩
        (repeat apply Exists.intro)
        refine ⟨?rel, rfl⟩
        case rel => exact ⟨j + 1, f, E, t, nm, c, by omega, by go_num, by omega, AA.out, OR.out, FR.out, by have := TR.out; omega, KL.out, PA.out, TA.out, MA.out, SR'.out, DR.out⟩
        case measure => simp [intOf]; omega
    · obtain rfl : j = l.length := by omega
      have SHD : Hid (∀ D ∈ Ds, D < wr.heap.size ∧ w.heap.size + 2 < D) := Lib.hid fun D hD => by have := DR.out D hD; exact ⟨SR.out.lt D hD, by omega⟩
      clear hA hO hF ht hMP hM hT hS hDs
      have h8 := H8.out.cell (i := 0) rfl
      obtain ⟨w7, rg, P7, M7r, hsz7⟩ := PR.out.range (mt := 32) Try.underlying32 Try.underlying9
      have A7 := Lib.hid (AR.out.mod M7r (by simp))
      have M7 := Lib.hid (MW.out.trans M7r)
      have S7 := Lib.hid (SR.out.mod M7r (by simp))
      have R7 := Lib.hid (M7r.blk H6.out (by simp))
      have RG7 := Lib.hid P7
      have NL7 : Hid (wr.heap.size ∉ B.all) := Lib.hid fun h => by have := AR.out.lt _ h; omega
      clear hsz7 M7r P7
      go_wp2_with fail
      obtain ⟨rr, hrr⟩ : ∃ rr, wr.heap.size = rr := ⟨_, rfl⟩
      have hrw : w.heap.size + 2 < rr ∧ wL.heap.size ≤ rr := by rw [← hrr]; exact ⟨by omega, hwr⟩
      rw [hrr] at RG7 NL7 SHD ⊢
      clear rg hrr h8
      go_loopw [15, 16] (fun _ _ wr => RS wr mb rr nm f c ∧ SumAt wr B n E t ∧ Mod [] w wr ∧ Shut Ds wr ∧ Blk wr (w.heap.size + 2) 4 [.bool false]) (fun _ _ wr => wr.rangeLeft mb rr)
      case atStart => exact ⟨RG7.out, A7.out, M7.out, S7.out, R7.out⟩
      case round =>
        clear RG7 A7 M7 S7 R7
        obtain ⟨hR, hA, hM, hS, hB⟩ := hrel
        have RR := Lib.hid hR
        have A8 := Lib.hid hA
        have M8 := Lib.hid hM
        have S8 := Lib.hid hS
        have B8 := Lib.hid hB
        clear hR hA hM hS hB
        rcases RR.out.next Try.underlying9 Try.underlying2 0 with nx | ⟨k, zk, w9, hkl9, hfk, nx, R9, hlt9, M9r, hsz9, en⟩
        · have b6 := B8.out.cell (i := 0) rfl
          have f6 := B8.out.free 0
          go_wp2_with fail
          have B9 : Blk (wr.setCell ⟨w.heap.size + 2, 0, none⟩ (.bool true)) (w.heap.size + 2) 4 [.bool true] := B8.out.set 0 _
          have MS := ((Mod.refl [w.heap.size + 2] wr).setCell (p := ⟨w.heap.size + 2, 0, none⟩) (.inl (by simp)) (.bool true))
          have S9 := S8.out.mod MS (fun D hD h => by simp at h; have := (SHD.out D hD).2; omega)
          have BE := closeAll_blk S9 B9
          have r6 := BE.cell (i := 0) rfl
          refine leaveN S9 (v := .bool true) (by simp [results, Try.results5, go_sem, r6]) ⟨rfl, ?_⟩
          exact (M8.out.trans' MS (fun b hb => .inr (by simp at hb; omega))).trans' (closeAll_mod Ds _) (fun b hb => .inr (by have := (SHD.out b hb).2; omega))
        · have A9 := Lib.hid (A8.out.mod M9r (fun b hb hb' => by simp at hb'; subst hb'; exact NL7.out hb))
          have M9 := Lib.hid (M8.out.trans' M9r (fun b hb => .inr (by simp at hb; omega)))
          have S9 := Lib.hid (S8.out.mod M9r (fun D hD h => by simp at h; have := (SHD.out D hD).1; omega))
          have B9 := Lib.hid (M9r.blk B8.out (by simp; omega))
          have R9' := Lib.hid R9
          have H9 := Lib.hid hlt9
          have hk64 := KL.out k zk hfk
          have hle := FR.out.le OR.out hn1.1 hfk
          have CN := Lib.hid (count_any A9.out k (by omega))
          by_cases hin : ∃ e ∈ E, e.key = k
          · obtain ⟨e, he, hek⟩ := hin
            have hce := countE_mem OR.out.nd he
            rw [hek] at hce
            rw [hce] at CN
            clear R9 hlt9 M9r hsz9 hce hek he hfk
            go_wp2_with fail
            refine CN.out.mono ?_
            rintro e10 w10 ⟨rfl, hM10⟩
            have N10 := Lib.hid hM10
            clear hM10
            go_wp2_with fail
            go_roundw
            case rel => exact ⟨R9'.out.mod N10.out (by simp) (by simp), A9.out.mod N10.out (by simp), M9.out.trans N10.out, S9.out.mod N10.out (by simp), N10.out.blk B9.out (by simp)⟩
            case measure => rw [R9'.out.left_mod N10.out (by simp) (by simp)]; exact H9.out
          · have hno : ∀ e ∈ E, e.key ≠ k := fun e he hk => hin ⟨e, he, hk⟩
            have hce := countE_no hno
            have hr := FR.out.rest k hno
            rw [hfk] at hr
            have hr2 : zk ≤ leastOf n E := hr
            have hll := OR.out.least_le_t hn1.1
            have htl := OR.out.lt
            rw [hce] at CN
            have LS : Hid (∀ W, Mod [] w9 W → Calls Try.prog 21 #[.pointer (some ⟨B.p, 0, none⟩)] W fun e w' => e = .returned (.int .i64 (leastOf n E)) ∧ Mod [] W w') := Lib.hid fun W hM => least_any (A9.out.mod hM (by simp)) hn1.1 OR.out.len
            obtain ⟨lo, hlo⟩ : ∃ lo, leastOf n E = lo := ⟨_, rfl⟩
            rw [hlo] at LS hr2 hll
            have dl : decide (lo < zk) = false := by simp; omega
            clear R9 hlt9 M9r hsz9 hce hfk hr hno hin hlo
            go_wp2_with fail
            refine CN.out.mono ?_
            rintro e10 w10 ⟨rfl, hM10⟩
            have N10 := Lib.hid hM10
            clear hM10
            go_wp2_with fail
            refine (LS.out _ N10.out).mono ?_
            rintro e11 w11 ⟨rfl, hM11⟩
            have N11 := Lib.hid (N10.out.trans hM11)
            clear hM11
            go_wp2_with fail
            go_roundw
            case rel => exact ⟨R9'.out.mod N11.out (by simp) (by simp), A9.out.mod N11.out (by simp), M9.out.trans N11.out, S9.out.mod N11.out (by simp), N11.out.blk B9.out (by simp)⟩
            case measure => rw [R9'.out.left_mod N11.out (by simp) (by simp)]; exact H9.out
set_option maxRecDepth 8000 in
theorem bounds_walk (w : World) (nz : Int) (hw1 : (Lit.int .i64 nz).wf = true) (v : Value) (ds : List Nat) (hv : v = .agg (ds.map fun x : Nat => Value.int .u64 (x : Int)).toArray) (hd : ds.length = 3) (ha : ∀ x ∈ ds, x < 18446744073709551616) (a : Option Addr) (cp : Nat) (l : List KW) (hm : l.length ≤ maxLen) (hP : InRow w a 2 KW.cells l) (hok : ∀ q ∈ l, q.ok) :
    Calls Try.prog 5 #[.int .i64 nz, v, .slice a l.length cp] w fun e w' => e = .returned (.bool true) ∧ Mod [] w w' := by
  subst hv
  match ds, hd with
  | [a0, a1, a2], _ =>
    cases hl : lightB l with
    | true => exact bounds_main w nz a0 a1 a2 ha a cp l hm hP hok hl
    | false =>
      obtain ⟨n0, hn0, hn15⟩ : ∃ n0 : Nat, bits .and .i64 nz 15 = (n0 : Int) ∧ n0 ≤ 15 := ⟨(nz % 16).toNat, by rw [show (15 : Int) = 2 ^ 4 - 1 from rfl, and_mask _ _ (by omega)]; omega, by omega⟩
      have LG := Lib.hid (fun (W : World) (h : Mod [w.heap.size] (((w.alloc (.cells #[.int .i64 nz] 3)).alloc (.cells #[.int .u64 (a0 : Int), .int .u64 (a1 : Int), .int .u64 (a2 : Int)] 23)).alloc (.cells #[.bool false] 4)) W) => light_any (w := W) (a := a) (l := l) (fun i q hq => by
        obtain ⟨b, off, h1, h2, h3⟩ := hP i q hq
        have M0 := ((((Mod.refl [] w).alloc (.cells #[.int .i64 nz] 3)).alloc (.cells #[.int .u64 (a0 : Int), .int .u64 (a1 : Int), .int .u64 (a2 : Int)] 23)).alloc (.cells #[.bool false] 4)).trans' h (fun b hb => .inr (by simp at hb; omega))
        exact ⟨b, off, h1, M0.lt h2, fun j u hu => (M0.cell (a := ⟨b, off + i * 2 + j, none⟩) h2 (by simp)).trans (h3 j u hu)⟩) hm cp)
      rw [hl] at LG
      have X3 := Lib.hid (((Blk.new w [.int .i64 nz] 3).alloc (.cells #[.int .u64 (a0 : Int), .int .u64 (a1 : Int), .int .u64 (a2 : Int)] 23)).alloc (.cells #[.bool false] 4))
      have X6 := Lib.hid (Blk.new ((w.alloc (.cells #[.int .i64 nz] 3)).alloc (.cells #[.int .u64 (a0 : Int), .int .u64 (a1 : Int), .int .u64 (a2 : Int)] 23)) [.bool false] 4)
      rw [show ((w.alloc (.cells #[.int .i64 nz] 3)).alloc (.cells #[.int .u64 (a0 : Int), .int .u64 (a1 : Int), .int .u64 (a2 : Int)] 23)).heap.size = w.heap.size + 2 by simp] at X6
      have M0 := Lib.hid (((((Mod.refl [] w).alloc (.cells #[.int .i64 nz] 3)).alloc (.cells #[.int .u64 (a0 : Int), .int .u64 (a1 : Int), .int .u64 (a2 : Int)] 23))).alloc (.cells #[.bool false] 4))
      clear hP hl hw1 hok
      simp only [List.map_cons, List.map_nil]
      refine calls_of_wp_marks Try.func5 rfl ?_
      simp only [Try.ntmps5, List.size_toArray, List.length_cons, List.length_nil, Nat.reduceAdd, Nat.reduceSub, Array.replicate_succ, Array.replicate_zero, List.push_toArray, List.append_toArray, List.nil_append, List.cons_append]
      go_wp2_with fail
      refine (fit_any _).mono ?_
      rintro e1 w1 ⟨rfl, hM1⟩
      have D1 := Lib.hid hM1
      have Y3 := Lib.hid (hM1.blk X3.out (by simp))
      have k3 := Y3.out.cell (i := 0) rfl
      have f3 := Y3.out.free 0
      clear hM1
      go_wp2_with fail
      have D2 : Hid (Mod [w.heap.size] (((w.alloc (.cells #[.int .i64 nz] 3)).alloc (.cells #[.int .u64 (a0 : Int), .int .u64 (a1 : Int), .int .u64 (a2 : Int)] 23)).alloc (.cells #[.bool false] 4)) (w1.setCell ⟨w.heap.size, 0, none⟩ (.int .i64 ((n0 : Int) + 1)))) := Lib.hid ((D1.out.mono (by simp)).setCell (p := ⟨w.heap.size, 0, none⟩) (.inl (by simp)) _)
      refine (LG.out _ D2.out).mono ?_
      rintro e2 w2 ⟨rfl, hM2⟩
      have D3 := Lib.hid (D2.out.trans (hM2.mono (by simp)))
      have Z6 := Lib.hid (D3.out.blk X6.out (by simp))
      have M2 := Lib.hid (M0.out.trans' D3.out (fun b hb => .inr (by simp at hb; omega)))
      have f4 := Z6.out.free 0
      have g4 := Z6.out.cell (i := 0) rfl
      clear hM2 k3 f3
      go_wp2_with fail
      have r4 := (Z6.out.set 0 (.bool true)).cell (i := 0) rfl
      exact ⟨.bool true, by simp [results, Try.results5, go_sem, r4], rfl, M2.out.setCell (p := ⟨w.heap.size + 2, 0, none⟩) (.inr (by show w.heap.size ≤ w.heap.size + 2; omega)) _⟩
end Go.Proofs.Ytpobjhmfidebbaa.Sum
