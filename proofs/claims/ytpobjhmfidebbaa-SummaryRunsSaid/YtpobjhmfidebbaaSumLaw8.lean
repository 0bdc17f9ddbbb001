/- summary's laws: SummaryRuns. -/
import Derived.Test.YtpobjhmfidebbaaSumMdl4
import Derived.Test.YtpobjhmfidebbaaDefer
import Derived.Test.YtpobjhmfidebbaaArrArg
namespace Go.Proofs.Ytpobjhmfidebbaa.Sum
open Go Go.RowKit Go.YtpobjhmfidebbaaMem Go.YtpobjhmfidebbaaLex Go.YtpobjhmfidebbaaRange Go.Proofs.Ytpobjhmfidebbaa.Hash Go.Proofs.Ytpobjhmfidebbaa.Keys Go.Proofs.Ytpobjhmfidebbaa.Index
set_option linter.unusedVariables false
set_option linter.unusedSimpArgs false
attribute [local go_sem] Oper.semAt_some

def RunsRight (w : World) (e : Ending) (w' : World) : Prop := e = .returned (.bool true) ∧ Mod [] w w'
set_option maxRecDepth 8000 in
set_option maxHeartbeats 12800000 in
theorem runs_main (w : World) (nz : Int) (a0 a1 a2 : Nat) (ha : ∀ x ∈ [a0, a1, a2], x < 18446744073709551616) (a : Option Addr) (cp : Nat) (l : List KW) (hm : l.length ≤ maxLen) (hP : InRow w a 2 KW.cells l) (hok : ∀ q ∈ l, q.ok) (hl : lightB l = true) :
    Calls Try.prog 9 #[.int .i64 nz, v3 a0 a1 a2, .slice a l.length cp] w (RunsRight w) := by
  obtain ⟨n0, hn0, hn15⟩ : ∃ n0 : Nat, bits .and .i64 nz 7 = (n0 : Int) ∧ n0 ≤ 7 := ⟨(nz % 8).toNat, by rw [show (7 : Int) = 2 ^ 3 - 1 from rfl, and_mask _ _ (by omega)]; omega, by omega⟩
  have R1 := Lib.hid (fun W : World => row_any a0 a1 a2 (ha a0 (by simp)) (ha a1 (by simp)) (ha a2 (by simp)) W)
  have hr1 := rowOf_ok [a0, a1, a2]
  unfold RowPost v3 at R1
  unfold v3
  generalize rowOf [a0, a1, a2] = r1 at *
  have N1 := Lib.hid (fun W : World => new_any (n0 + 1) (by omega) (by omega) r1 hr1 W)
  rw [show ((n0 + 1 : Nat) : Int) = (n0 : Int) + 1 by omega] at N1
  have LG := Lib.hid (fun (W : World) (h : Mod [] w W) => light_any (w := W) (a := a) (l := l) (fun i q hq => by
    obtain ⟨b, off, h1, h2, h3⟩ := hP i q hq
    exact ⟨b, off, h1, h.lt h2, fun j u hu => (h.cell (a := ⟨b, off + i * 2 + j, none⟩) h2 (by simp)).trans (h3 j u hu)⟩) hm cp)
  rw [hl] at LG
  have hl150 : l.length ≤ 150 := by unfold lightB at hl; simp at hl; exact hl.1
  have HK : Hid (∀ q ∈ l, q.key.length ≤ 100) := Lib.hid (by unfold lightB at hl; simp at hl; exact hl.2)
  have HP := Lib.hid hP
  have HO := Lib.hid hok
  have HL := Lib.hid hl150
  have X4 := Lib.hid ((Blk.new w [.int .u64 (a0 : Int), .int .u64 (a1 : Int), .int .u64 (a2 : Int)] 23).alloc (.cells #[.bool false] 4))
  have X6 := Lib.hid (Blk.new (w.alloc (.cells #[.int .u64 (a0 : Int), .int .u64 (a1 : Int), .int .u64 (a2 : Int)] 23)) [.bool false] 4)
  rw [show (w.alloc (.cells #[.int .u64 (a0 : Int), .int .u64 (a1 : Int), .int .u64 (a2 : Int)] 23)).heap.size = w.heap.size + 1 by simp] at X6
  have M0 := Lib.hid (((Mod.refl [] w).alloc (.cells #[.int .u64 (a0 : Int), .int .u64 (a1 : Int), .int .u64 (a2 : Int)] 23)).alloc (.cells #[.bool false] 4))
  clear ha hr1 hP hok hl hm hl150
  refine calls_of_wp_marks Try.func9 rfl ?_
  simp only [Try.ntmps9, List.size_toArray, List.length_cons, List.length_nil, Nat.reduceAdd, Nat.reduceSub, Array.replicate_succ, Array.replicate_zero, List.push_toArray, List.append_toArray, List.nil_append, List.cons_append]
  go_wp2_with fail
  refine (fit_any _).mono ?_
  rintro e1 w1 ⟨rfl, hM1⟩
  have M1 := Lib.hid (M0.out.trans hM1)
  have Y4 := Lib.hid (hM1.blk X4.out (by simp))
  have Y6 := Lib.hid (hM1.blk X6.out (by simp))
  clear hM1
  go_wp2_with fail
  refine (LG.out _ M1.out).mono ?_
  rintro e2 w2 ⟨rfl, hM2⟩
  have M2 := Lib.hid (M1.out.trans hM2)
  have Z4 := Lib.hid (hM2.blk Y4.out (by simp))
  have Z6 := Lib.hid (hM2.blk Y6.out (by simp))
  clear hM2
  have z40 := Z4.out.cell (i := 0) rfl
  have z41 := Z4.out.cell (i := 1) rfl
  have z42 := Z4.out.cell (i := 2) rfl
  go_wp2_with fail
  refine (R1.out _).mono ?_
  rintro e3 w3 ⟨rfl, hM3⟩
  have M3 := Lib.hid (M2.out.trans hM3)
  have V6 := Lib.hid (hM3.blk Z6.out (by simp))
  clear hM3 z40 z41 z42
  go_wp2_with fail
  refine (N1.out _).mono ?_
  rintro e4 w4 ⟨B, rfl, hA, hB, hM4⟩
  have A4 := Lib.hid hA
  have M4 := Lib.hid (M3.out.trans hM4)
  have U6 := Lib.hid (hM4.blk V6.out (by simp))
  have BL : Hid (∀ b, b ∈ B.all → w.heap.size + 1 < b) := Lib.hid fun b hb => by have := hB b hb; have := V6.out.lt; omega
  obtain ⟨n, hn⟩ : ∃ n, n0 + 1 = n := ⟨_, rfl⟩
  have hnn : (n0 : Int) + 1 = (n : Int) := by omega
  have hn1 : 1 ≤ n ∧ n ≤ 8 := by omega
  rw [hn] at A4
  clear hA hB hM4 hn hn0 hn15
  have MA := Lib.hid (((Mod.refl [] w4).alloc (.cells #[.slice none 0 0, .int .i64 0] 59)).alloc (.cells #[.pointer (some ⟨w4.heap.size, 0, none⟩)] 57))
  have A5 := Lib.hid (A4.out.mod MA.out (by simp))
  have MB := Lib.hid ((Blk.new w4 [.slice none 0 0, .int .i64 0] 59).alloc (.cells #[.pointer (some ⟨w4.heap.size, 0, none⟩)] 57))
  have PB := Lib.hid (Blk.new (w4.alloc (.cells #[.slice none 0 0, .int .i64 0] 59)) [.pointer (some ⟨w4.heap.size, 0, none⟩)] 57)
  rw [show (w4.alloc (.cells #[.slice none 0 0, .int .i64 0] 59)).heap.size = w4.heap.size + 1 by simp] at PB
  have HSL := Lib.hid (show ((w4.alloc (.cells #[.slice none 0 0, .int .i64 0] 59)).alloc (.cells #[.pointer (some ⟨w4.heap.size, 0, none⟩)] 57)).heap.size = w4.heap.size + 2 by simp)
  have U6L := Lib.hid (MA.out.blk U6.out (by simp))
  have ML := Lib.hid (M4.out.trans MA.out)
  have BLt : Hid (∀ b, b ∈ B.all → b < w4.heap.size) := Lib.hid fun b hb => A4.out.lt b hb
  have hs4 := U6.out.lt
  go_wp2_with fail
  have hsL := HSL.out
  clear HSL
  obtain ⟨mb, hmb⟩ : ∃ mb, w4.heap.size = mb := ⟨_, rfl⟩
  obtain ⟨wL, hwL⟩ : ∃ wL, ((w4.alloc (.cells #[.slice none 0 0, .int .i64 0] 59)).alloc (.cells #[.pointer (some ⟨w4.heap.size, 0, none⟩)] 57)) = wL := ⟨_, rfl⟩
  rw [hwL] at MA A5 MB PB hsL U6L ML ⊢
  rw [hmb] at MB PB hsL BLt hs4 ⊢
  obtain ⟨pb, hpb⟩ : ∃ pb, mb + 1 = pb := ⟨_, rfl⟩
  rw [hpb] at PB ⊢
  clear hwL
  have hlay : w.heap.size + 1 < mb ∧ mb < pb ∧ pb < wL.heap.size := by omega
  clear hmb hpb hsL MA M0 M1 M2 M3 M4 X4 X6 Y4 Y6 Z4 Z6 V6 U6 R1 N1 LG A4
  refine wp_loop (fun a' wr => ∃ (Ds : List Nat) (u10 u11 u12 u13 u35 u36 u37 u38 u39 u40 u41 u42 u43 u44 u45 u46 u47 u48 u49 u50 u51 u52 u53 u54 u55 u56 u57 u58 u59 u60 u61 u62 u63 u64 u65 u66 u67 u68 u69 u70 u71 u72 u73 u74 u75 u76 u77 u78 u79 u80 u81 u82 u83 u84 u85 u86 u87 u88 u89 u90 u91 u92 u93 u94 u95 u96 u97 u98 u99 u100 u101 u102 u103 u104 u105 u106 u107 u108 u109 u110 u111 u112 u113 u114 u115 u116 u117 u118 u119 : Value), (∃ (j : Nat) (s : List Ent × Int) (v : Value), j ≤ l.length ∧ u35 = .int .i64 (j : Int) ∧ SumAt wr B n s.1 s.2 ∧ OkE n s.1 s.2 ∧ MdlAt wr mb wL.heap.size v s ∧ Mod (mb :: B.all) wL wr ∧ Shut Ds wr ∧ ∀ D ∈ Ds, wL.heap.size ≤ D) ∧ a' = ⟨List.toArray (Value.int .i64 (n : Int) :: Value.agg #[Value.int .u64 (a0 : Int), Value.int .u64 (a1 : Int), Value.int .u64 (a2 : Int)] :: Value.slice a l.length cp :: undef :: Value.pointer (some ⟨w.heap.size, 0, none⟩) :: undef :: Value.pointer (some ⟨w.heap.size + 1, 0, none⟩) :: Value.pointer (some ⟨B.p, 0, none⟩) :: Value.pointer (some ⟨pb, 0, none⟩) :: undef :: u10 :: u11 :: u12 :: u13 :: undef :: undef :: undef :: undef :: undef :: Value.bool true :: Value.bool false :: Value.int .i64 nz :: Value.int .i64 (n0 : Int) :: Value.int .i64 (n : Int) :: Value.slice a l.length cp :: Value.bool true :: Value.bool false :: Value.int .i64 (n : Int) :: Value.agg #[Value.int .u64 (a0 : Int), Value.int .u64 (a1 : Int), Value.int .u64 (a2 : Int)] :: Value.agg #[Value.int .u64 (r1.x : Int), Value.int .u64 (r1.a : Int), Value.int .u64 (r1.b : Int)] :: Value.pointer (some ⟨B.p, 0, none⟩) :: Value.agg #[Value.slice none 0 0, Value.int .i64 0] :: Value.pointer (some ⟨mb, 0, none⟩) :: Value.slice a l.length cp :: Value.int .i64 (l.length : Int) :: u35 :: u36 :: u37 :: u38 :: u39 :: u40 :: u41 :: u42 :: u43 :: u44 :: u45 :: u46 :: u47 :: u48 :: u49 :: u50 :: u51 :: u52 :: u53 :: u54 :: u55 :: u56 :: u57 :: u58 :: u59 :: u60 :: u61 :: u62 :: u63 :: u64 :: u65 :: u66 :: u67 :: u68 :: u69 :: u70 :: u71 :: u72 :: u73 :: u74 :: u75 :: u76 :: u77 :: u78 :: u79 :: u80 :: u81 :: u82 :: u83 :: u84 :: u85 :: u86 :: u87 :: u88 :: u89 :: u90 :: u91 :: u92 :: u93 :: u94 :: u95 :: u96 :: u97 :: u98 :: u99 :: u100 :: u101 :: u102 :: u103 :: u104 :: u105 :: u106 :: u107 :: u108 :: u109 :: u110 :: u111 :: u112 :: u113 :: u114 :: u115 :: u116 :: u117 :: u118 :: u119 :: undef :: undef :: undef :: undef :: undef :: undef :: undef :: undef :: undef :: undef :: undef :: undef :: undef :: undef :: undef :: undef :: undef :: undef :: undef :: undef :: undef :: undef :: undef :: undef :: undef :: undef :: undef :: undef :: undef :: undef :: undef :: undef :: undef :: undef :: undef :: undef :: undef :: undef :: undef :: undef :: undef :: undef :: undef :: undef :: undef :: undef :: undef :: undef :: undef :: undef :: undef :: undef :: undef :: []), Ds.map coll⟩) (fun a' wr => l.length - (intOf (a'.tmps.getD 35 undef)).toNat) ?_ ?_
  · refine ⟨[], ?_⟩
    repeat apply Exists.intro
    refine ⟨⟨0, ([], 0), _, Nat.zero_le _, rfl, A5.out, ok_nil n, ⟨MB.out, World.ownsRow_nil _ _ _ _⟩, Mod.refl _ _, shut_nil _, by simp⟩, rfl⟩
  · intro _ wr hinv
    obtain ⟨Ds, hinv⟩ := hinv
    obtain ⟨u10, hinv⟩ := hinv
    obtain ⟨u11, hinv⟩ := hinv
    obtain ⟨u12, hinv⟩ := hinv
    obtain ⟨u13, hinv⟩ := hinv
    obtain ⟨u35, hinv⟩ := hinv
    obtain ⟨u36, hinv⟩ := hinv
    obtain ⟨u37, hinv⟩ := hinv
    obtain ⟨u38, hinv⟩ := hinv
    obtain ⟨u39, hinv⟩ := hinv
    obtain ⟨u40, hinv⟩ := hinv
    obtain ⟨u41, hinv⟩ := hinv
    obtain ⟨u42, hinv⟩ := hinv
    obtain ⟨u43, hinv⟩ := hinv
    obtain ⟨u44, hinv⟩ := hinv
    obtain ⟨u45, hinv⟩ := hinv
    obtain ⟨u46, hinv⟩ := hinv
    obtain ⟨u47, hinv⟩ := hinv
    obtain ⟨u48, hinv⟩ := hinv
    obtain ⟨u49, hinv⟩ := hinv
    obtain ⟨u50, hinv⟩ := hinv
    obtain ⟨u51, hinv⟩ := hinv
    obtain ⟨u52, hinv⟩ := hinv
    obtain ⟨u53, hinv⟩ := hinv
    obtain ⟨u54, hinv⟩ := hinv
    obtain ⟨u55, hinv⟩ := hinv
    obtain ⟨u56, hinv⟩ := hinv
    obtain ⟨u57, hinv⟩ := hinv
    obtain ⟨u58, hinv⟩ := hinv
    obtain ⟨u59, hinv⟩ := hinv
    obtain ⟨u60, hinv⟩ := hinv
    obtain ⟨u61, hinv⟩ := hinv
    obtain ⟨u62, hinv⟩ := hinv
    obtain ⟨u63, hinv⟩ := hinv
    obtain ⟨u64, hinv⟩ := hinv
    obtain ⟨u65, hinv⟩ := hinv
    obtain ⟨u66, hinv⟩ := hinv
    obtain ⟨u67, hinv⟩ := hinv
    obtain ⟨u68, hinv⟩ := hinv
    obtain ⟨u69, hinv⟩ := hinv
    obtain ⟨u70, hinv⟩ := hinv
    obtain ⟨u71, hinv⟩ := hinv
    obtain ⟨u72, hinv⟩ := hinv
    obtain ⟨u73, hinv⟩ := hinv
    obtain ⟨u74, hinv⟩ := hinv
    obtain ⟨u75, hinv⟩ := hinv
    obtain ⟨u76, hinv⟩ := hinv
    obtain ⟨u77, hinv⟩ := hinv
    obtain ⟨u78, hinv⟩ := hinv
    obtain ⟨u79, hinv⟩ := hinv
    obtain ⟨u80, hinv⟩ := hinv
    obtain ⟨u81, hinv⟩ := hinv
    obtain ⟨u82, hinv⟩ := hinv
    obtain ⟨u83, hinv⟩ := hinv
    obtain ⟨u84, hinv⟩ := hinv
    obtain ⟨u85, hinv⟩ := hinv
    obtain ⟨u86, hinv⟩ := hinv
    obtain ⟨u87, hinv⟩ := hinv
    obtain ⟨u88, hinv⟩ := hinv
    obtain ⟨u89, hinv⟩ := hinv
    obtain ⟨u90, hinv⟩ := hinv
    obtain ⟨u91, hinv⟩ := hinv
    obtain ⟨u92, hinv⟩ := hinv
    obtain ⟨u93, hinv⟩ := hinv
    obtain ⟨u94, hinv⟩ := hinv
    obtain ⟨u95, hinv⟩ := hinv
    obtain ⟨u96, hinv⟩ := hinv
    obtain ⟨u97, hinv⟩ := hinv
    obtain ⟨u98, hinv⟩ := hinv
    obtain ⟨u99, hinv⟩ := hinv
    obtain ⟨u100, hinv⟩ := hinv
    obtain ⟨u101, hinv⟩ := hinv
    obtain ⟨u102, hinv⟩ := hinv
    obtain ⟨u103, hinv⟩ := hinv
    obtain ⟨u104, hinv⟩ := hinv
    obtain ⟨u105, hinv⟩ := hinv
    obtain ⟨u106, hinv⟩ := hinv
    obtain ⟨u107, hinv⟩ := hinv
    obtain ⟨u108, hinv⟩ := hinv
    obtain ⟨u109, hinv⟩ := hinv
    obtain ⟨u110, hinv⟩ := hinv
    obtain ⟨u111, hinv⟩ := hinv
    obtain ⟨u112, hinv⟩ := hinv
    obtain ⟨u113, hinv⟩ := hinv
    obtain ⟨u114, hinv⟩ := hinv
    obtain ⟨u115, hinv⟩ := hinv
    obtain ⟨u116, hinv⟩ := hinv
    obtain ⟨u117, hinv⟩ := hinv
    obtain ⟨u118, hinv⟩ := hinv
    obtain ⟨u119, hinv⟩ := hinv
    obtain ⟨hrel, ha⟩ := hinv
    subst ha
    dsimp only
    clear A5 MB
    obtain ⟨j, s, v, hj, rfl, hA, hO, hMd, hM, hS, hDs⟩ := hrel
    have AR := Lib.hid hA
    have OR := Lib.hid hO
    have MdR := Lib.hid hMd
    have MR := Lib.hid hM
    have SR := Lib.hid hS
    have DR := Lib.hid hDs
    have hl150 := HL.out
    have hwr := hM.size
    have HSS : Hid (∀ b, b ∈ mb :: B.all → b < wL.heap.size ∧ w.heap.size + 1 < b ∧ b ≠ pb) := Lib.hid fun b hb => by
      rcases List.mem_cons.1 hb with rfl | hb
      · omega
      · have := BLt.out b hb; have := BL.out b hb; omega
    have MW := Lib.hid (ML.out.trans' MR.out (fun b hb => .inr (by have := HSS.out b hb; omega)))
    have H8 := Lib.hid (MR.out.blk PB.out (fun hb => (HSS.out _ hb).2.2 rfl))
    have H6 := Lib.hid (MR.out.blk U6L.out (fun hb => by have := HSS.out _ hb; omega))
    have NM : Hid (mb ∉ B.all ∧ pb ∉ B.all) := Lib.hid ⟨fun h => by have := BLt.out _ h; omega, fun h => by have := BLt.out _ h; omega⟩
    have OWL : Hid (∀ b, v.ownBlock = some b → wL.heap.size ≤ b) := Lib.hid (own_block hMd.row)
    by_cases hlt : j < l.length
    · obtain ⟨q, hq⟩ : ∃ q, l[j]? = some q := ⟨_, List.getElem?_eq_getElem hlt⟩
      obtain ⟨b, off, rfl, hb', hcell⟩ := HP.out j q hq
      have hk100 := HK.out q (List.mem_of_getElem? hq)
      have hzw := wf_i64_of (HO.out q (List.mem_of_getElem? hq))
      obtain ⟨key, z⟩ := q
      simp only at hk100 hzw
      have c0 := (MW.out.cell (a := ⟨b, off + j * 2, none⟩) hb' (by simp)).trans (hcell 0 _ rfl)
      have c1 := (MW.out.cell (a := ⟨b, off + j * 2 + 1, none⟩) hb' (by simp)).trans (hcell 1 _ rfl)
      simp only at c0 c1
      have NB := Lib.hid (Blk.new wr [.string ⟨key.toArray⟩, .int .i64 z] 34)
      have A1 := Lib.hid ((Mod.refl [] wr).alloc (.cells #[.string ⟨key.toArray⟩, .int .i64 z] 34))
      have HN : Hid (wr.heap.size ∉ B.all) := Lib.hid fun h => by have := hA.lt _ h; omega
      have F1 := Lib.hid (offer_ok (AR.out.mod A1.out (by simp)) OR.out hn1.1 key (by omega) z (by omega))
      obtain ⟨s2, hs2⟩ : ∃ s2, offer n s key z = s2 := ⟨_, rfl⟩
      rw [hs2] at F1
      have HS2 := Lib.hid hs2
      clear hA hO hMd hM hS hDs hcell hq hb' hs2
      go_wp2_with fail
      refine F1.out.mono ?_
      rintro e1 w1 ⟨⟨v1, rfl⟩, hA1, hO1, hM1⟩
      have A2 := Lib.hid hA1
      have O2 := Lib.hid hO1
      have X1 : Hid (Mod B.all wr w1) := Lib.hid ((A1.out.mono (by simp)).trans hM1)
      have NB1 := Lib.hid (hM1.blk NB.out HN.out)
      have k0 := NB1.out.cell (i := 0) rfl
      have k1 := NB1.out.cell (i := 1) rfl
      have h8 := (X1.out.blk H8.out NM.out.2).cell (i := 0) rfl
      have Md1 := Lib.hid (MdR.out.mod X1.out NM.out.1 (fun b hb h => by have := OWL.out b hb; have := BLt.out b h; omega))
      have G1 := Lib.hid (mdl_offer Md1.out OR.out (by omega) key (by omega) z (by omega) ⟨by omega, by have := (MR.out.trans (X1.out.mono (fun b hb => .inl (by simp [hb])))).size; exact this⟩)
      rw [HS2.out] at G1
      clear hA1 hO1 hM1 c0 c1
      go_wp2_with fail
      refine G1.out.mono ?_
      rintro e2 w2 ⟨⟨v2, rfl⟩, ⟨v', hMd2⟩, hM2⟩
      have hown : ∀ x, x ∈ mb :: v.ownBlock.toList → x = mb ∨ wL.heap.size ≤ x := fun x hx => by
        rcases List.mem_cons.1 hx with h | h
        · exact .inl h
        · exact .inr (OWL.out x (by simpa using h))
      have A3 := Lib.hid (A2.out.mod hM2 (fun b hb h => by rcases hown b h with rfl | h; exact NM.out.1 hb; (have := BLt.out b hb; omega)))
      have H82 := Lib.hid (hM2.blk (X1.out.blk H8.out NM.out.2) (fun h => by rcases hown _ h with h | h <;> omega))
      have M2w := Lib.hid ((MR.out.trans (X1.out.mono (fun b hb => .inl (by simp [hb])))).trans' hM2 (fun b hb => by rcases hown b hb with rfl | h; exact .inl (by simp); exact .inr h))
      have S1 := SR.out.mod X1.out (fun D hD h => by have := DR.out D hD; have := BLt.out D h; omega)
      have S2 := Lib.hid (S1.mod hM2 (fun D hD h => by
        rcases List.mem_cons.1 h with rfl | h
        · have := DR.out D hD; omega
        · exact own_ne_obj Md1.out.row (S1.2 D hD) (fun cs e => by cases e) h))
      have Md2 := Lib.hid hMd2
      have hw2 : wL.heap.size ≤ w2.heap.size := M2w.out.size
      have DS2 : Hid (∀ D ∈ Ds, D < w2.heap.size) := Lib.hid S2.out.lt
      have OW2 : Hid (∀ b, v'.ownBlock = some b → b < w2.heap.size ∧ wL.heap.size ≤ b) := Lib.hid fun b hb => by have := hMd2.row.lt b hb; omega
      have N4 := Lib.hid ((Mod.refl [] w2).alloc (.cells #[.int .i64 0] 3))
      have I8 := Lib.hid (Blk.new w2 [.int .i64 0] 3)
      have A8 := Lib.hid (A3.out.mod N4.out (by simp))
      have H88 := Lib.hid (N4.out.blk H82.out (by simp))
      have M8 := Lib.hid (M2w.out.trans (N4.out.mono (by simp)))
      have S8 := Lib.hid (S2.out.mod N4.out (by simp))
      have Md8 := Lib.hid (Md2.out.mod N4.out (by simp) (by simp))
      clear hM2 hMd2 hown S1 k0 k1 h8
      go_wp2_with fail
      obtain ⟨ib, hib⟩ : ∃ b, w2.heap.size = b := ⟨_, rfl⟩
      obtain ⟨w8, hw8⟩ : ∃ w8, w2.alloc (.cells #[.int .i64 0] 3) = w8 := ⟨_, rfl⟩
      have hs8 : ib < w8.heap.size := by rw [← hw8, ← hib]; simp
      rw [hw8] at I8 A8 H88 M8 S8 Md8 ⊢
      rw [hib] at I8 DS2 OW2 hw2 ⊢
      have HSB : Hid (∀ b, b ∈ B.all → b < ib) := Lib.hid fun b hb => by have := BLt.out b hb; omega
      clear hw8 hib N4 A2 A3 X1 NB1 Md1 G1 H82 M2w S2 Md2 F1 AR MdR OR NB A1
      refine wp_range (Kp := Under w8.heap.size [ib]) (encs := encS) (xs := s2.1) rfl (enters_of Try.func19 (by kernel_rfl) rfl)
        (all_iter A8.out (fun A A' hA hK b hb => hK.block b (A8.out.lt b hb) (by simp; have := HSB.out b hb; omega)))
        (fun h k => h.trans k) (fun h => h.mono (by simp)) (fun _ => rfl)
        (fun pre W => Mod [ib] w8 W ∧ Blk W ib 3 [.int .i64 (pre.length : Int)])
        (fun c pre W => False)
        ?hI (fun c pre A B' h hu => h) ⟨Mod.refl _ _, I8.out⟩ ?round ?done ?stop
      case hI => exact fun pre A B' h hu => ⟨mod_under h.1 hu, blk_under h.2 hu (by omega)⟩
      case stop => exact fun D c pre x post W _ _ h _ => h.elim
      case round =>
        rename_i K2 h2 Q1 K1 h1 K0 h0
        clear h0 h1 h2
        rintro l0 pre x W hl1 hl2 ⟨hM, hB⟩ ⟨post, hx⟩
        have MW2 := Lib.hid hM
        have hWs := hM.size
        have hpl : pre.length < s2.1.length := by have := congrArg List.length hx; simp at this; omega
        have hxe : s2.1[pre.length]? = some x := by rw [hx, List.getElem?_append_right (Nat.le_refl _)]; simp
        have hlen := O2.out.len
        obtain ⟨g, c, hva, _, hgl, _⟩ := own_nil_iff (n := s2.1.length) Md8.out.row (by omega)
        subst hva
        have hgo := OW2.out g rfl
        have p0 := own_get Md8.out.row (i := pre.length * 3) ((flatE_get _ _ x hxe 0 (by omega)).trans rfl)
        have p1 := own_get Md8.out.row (i := pre.length * 3 + 1) (by rw [flatE_get _ _ x hxe 1 (by omega)]; rfl)
        have p2 := own_get Md8.out.row (i := pre.length * 3 + 2) (by rw [flatE_get _ _ x hxe 2 (by omega)]; rfl)
        have N9 := Lib.hid (Blk.new W x.cells 46)
        have D9 := Lib.hid ((Mod.refl [] W).alloc (.cells x.cells.toArray 46))
        have B7 := Lib.hid hB
        have bS : ((pre.length : Int) == (s2.1.length : Int)) = false := by simp; omega
        have bS2 : (pre.length == s2.1.length) = false := by simp; omega
        obtain ⟨ek, en, ee⟩ := x
        simp only [Ent.cells, encS, Ent.val] at *
        clear hx hB hM hxe
        gi_wp2
        refine ⟨Over.of_mod D9.out (by simp), Under.of_mod (D9.out.mono (by simp)) hWs, fun o => ?_⟩
        obtain ⟨W2, hW2⟩ : ∃ W2, (W.alloc (.cells #[.string ⟨ek.toArray⟩, .int .i64 en, .int .i64 ee] 46)).putObj l0 o = W2 := ⟨_, rfl⟩
        have M2 : Hid (Mod [l0] (W.alloc (.cells #[.string ⟨ek.toArray⟩, .int .i64 en, .int .i64 ee] 46)) W2) := Lib.hid (by rw [← hW2]; exact mod_putObj _ _ _)
        have C7 := Lib.hid (M2.out.blk (B7.out.alloc _) (by simp; omega))
        have C9 := Lib.hid (M2.out.blk N9.out (by simp; omega))
        have MW3 := Lib.hid ((MW2.out.trans (D9.out.mono (by simp))).trans' M2.out (fun b hb => .inr (by simp at hb; omega)))
        rw [hW2]
        have hs2 := MW3.out.size
        clear hW2
        have c8 := (MW3.out.blk H88.out (by simp; omega)).cell (i := 0) rfl
        have m0 := (MW3.out.blk Md8.out.blk (by simp; omega)).cell (i := 0) rfl
        have c7 := C7.out.cell (i := 0) rfl
        have f7 := C7.out.free 0
        have e0 := C9.out.cell (i := 0) rfl
        have e1 := C9.out.cell (i := 1) rfl
        have e2 := C9.out.cell (i := 2) rfl
        have g0 := (MW3.out.cell (a := ⟨g, pre.length * 3, none⟩) (by show g < w8.heap.size; omega) (by simp; omega)).trans p0
        have g1 := (MW3.out.cell (a := ⟨g, pre.length * 3 + 1, none⟩) (by show g < w8.heap.size; omega) (by simp; omega)).trans p1
        have g2 := (MW3.out.cell (a := ⟨g, pre.length * 3 + 2, none⟩) (by show g < w8.heap.size; omega) (by simp; omega)).trans p2
        have hb7l : ib < W2.heap.size := C7.out.lt
        have hps : pre.length ≤ 16 := by omega
        clear p0 p1 p2
        gi_wp2
        refine wpIn_region_lex (by kernel_rfl) (by kernel_rfl) ?hno (by kernel_rfl) ?_
        case hno => rintro ⟨a0, w0, h⟩; exact h
        go_wp2_with fail
        refine ⟨by kernel_rfl, ?_⟩
        gi_wp2
        have MS : Hid (Mod [ib] W2 ((W2.setCell ⟨ib, 0, none⟩ (.int .i64 ((pre.length : Int) + 1))).drew)) := Lib.hid (((Mod.refl [ib] W2).setCell (p := ⟨ib, 0, none⟩) (.inl (by simp)) _).drew)
        refine ⟨Over.of_mod MS.out (by simp; omega), Under.of_mod MS.out hs2, MW3.out.trans MS.out, ?_⟩
        have := (C7.out.set 0 (.int .i64 ((pre.length : Int) + 1))).drew
        rw [List.length_append]
        simpa using this
      case done =>
        rintro D W hD ⟨hM, hB⟩ hK
        have hlen := O2.out.len
        have AD := Lib.hid (A8.out.mod hM (fun b hb h => by simp at h; have := HSB.out b hb; omega))
        have MdD := Lib.hid (Md8.out.mod hM (by simp; omega) (fun b hb h => by simp at h; have := OW2.out b hb; omega))
        have SD := Lib.hid ((S8.out.mod hM (fun D hD h => by simp at h; have := DS2.out D hD; omega)).cons hK (fun h => by have := DS2.out D h; omega))
        have MQ := Lib.hid (M8.out.trans' hM (fun b hb => .inr (by simp at hb; omega)))
        have BD := Lib.hid hB
        have H8D := Lib.hid (hM.blk H88.out (by simp; omega))
        have c8 := H8D.out.cell (i := 0) rfl
        have m0 := MdD.out.blk.cell (i := 0) rfl
        have m1 := MdD.out.blk.cell (i := 1) rfl
        have c7 := hB.cell (i := 0) rfl
        obtain ⟨va, vc, hva⟩ := own_slice MdD.out.row
        subst hva
        have IS1 := Lib.hid (show IsC W.drew ib from isC_of_cell (w := W) c7)
        have IS2 := Lib.hid (show IsC W.drew pb from isC_of_cell (w := W) c8)
        have IS3 := Lib.hid (show IsC W.drew mb from isC_of_cell (w := W) m0)
        have LN := Lib.hid (len_any (AD.out.mod ((Mod.refl [] W).drew) (by simp)))
        have TN := Lib.hid (total_any (AD.out.mod ((Mod.refl [] W).drew) (by simp)))
        have LE := Lib.hid (least_any (AD.out.mod ((Mod.refl [] W).drew) (by simp)) hn1.1 O2.out.len)
        have hle := O2.out.least_le_t hn1.1
        by_cases hful : s2.1.length = n
        · obtain ⟨m, hm⟩ : ∃ m : Nat, n = m + 1 := ⟨n - 1, by omega⟩
          have hnm : (n : Int) - 1 = (m : Int) := by omega
          have dq : ((s2.1.length : Int) == (n : Int)) = true := by simp; omega
          obtain ⟨x, hx⟩ : ∃ x, s2.1[m]? = some x := ⟨_, List.getElem?_eq_getElem (by omega)⟩
          obtain ⟨g, c', hv', _, _, _⟩ := own_nil_iff (n := s2.1.length) MdD.out.row (by omega)
          simp only [Value.slice.injEq, true_and] at hv'
          obtain ⟨rfl, rfl⟩ := hv'
          have x1 := own_get MdD.out.row (i := m * 3 + 1) (by rw [flatE_get _ m x hx 1 (by omega)]; rfl)
          have hlo : leastOf n s2.1 = x.n := by unfold leastOf; rw [if_pos hful, hm, Nat.add_sub_cancel, getD_some hx]
          rw [hlo] at LE
          have hsm : m < s2.1.length := by omega
          obtain ⟨lo, hloe⟩ : ∃ lo, x.n = lo := ⟨_, rfl⟩
          rw [hloe] at x1 LE
          clear hM hB hK hlo hful hle hm hx hloe
          go_wp2_with fail
          refine wp_region_held [10, 6] [10, 16, 19] [] (by kernel_rfl) (by kernel_rfl) ?_
          simp only [wpCut, List.take_succ_cons, List.take_zero, List.drop_succ_cons, List.drop_zero, List.cons_append, List.nil_append]
          go_wp2_with fail
          refine LN.out.mono ?_
          rintro e5 w5 ⟨rfl, rfl⟩
          go_wp2_with fail
          refine ⟨Mod.refl _ _, ?_⟩
          go_wp2_with fail
          refine TN.out.mono ?_
          rintro e6 w6 ⟨rfl, rfl⟩
          go_wp2_with fail
          refine ⟨Mod.refl _ _, ?_⟩
          go_wp2_with fail
          refine LE.out.mono ?_
          rintro e7 w7 ⟨rfl, hM7⟩
          have N7 := Lib.hid hM7
          clear hM7
          go_wp2_with fail
          refine ⟨by kernel_rfl, ⟨⟨by simp, IS1.out⟩, ⟨by simp, IS2.out⟩, ⟨by simp, IS3.out⟩, trivial⟩, ?_⟩
          go_wp2_with fail
          have W7 := ((Mod.refl [] W).drew.trans N7.out)
          refine ⟨⟨D :: Ds, ?_⟩, ?measure⟩
          (repeat apply Exists.intro)
          refine ⟨?rel, rfl⟩
          case rel => exact ⟨j + 1, s2, _, by omega, by go_num, AD.out.mod W7 (by simp), O2.out, MdD.out.mod W7 (by simp) (by simp), MQ.out.trans (W7.mono (by simp)), SD.out.mod W7 (by simp), fun x hx => by
            rcases List.mem_cons.1 hx with rfl | hx
            · omega
            · exact DR.out x hx⟩
          case measure => simp [intOf]; omega
        · have dq : ((s2.1.length : Int) == (n : Int)) = false := by simp; omega
          have dq2 : (s2.1.length == n) = false := by simp; omega
          have hlo : leastOf n s2.1 = 0 := by unfold leastOf; rw [if_neg hful]
          rw [hlo] at LE
          clear hM hB hK hlo hful hle
          go_wp2_with fail
          refine wp_region_held [10, 6] [10, 16, 19] [] (by kernel_rfl) (by kernel_rfl) ?_
          simp only [wpCut, List.take_succ_cons, List.take_zero, List.drop_succ_cons, List.drop_zero, List.cons_append, List.nil_append]
          go_wp2_with fail
          refine LN.out.mono ?_
          rintro e5 w5 ⟨rfl, rfl⟩
          go_wp2_with fail
          refine ⟨Mod.refl _ _, ?_⟩
          go_wp2_with fail
          refine TN.out.mono ?_
          rintro e6 w6 ⟨rfl, rfl⟩
          go_wp2_with fail
          refine ⟨Mod.refl _ _, ?_⟩
          go_wp2_with fail
          refine LE.out.mono ?_
          rintro e7 w7 ⟨rfl, hM7⟩
          have N7 := Lib.hid hM7
          clear hM7
          go_wp2_with fail
          refine ⟨by kernel_rfl, ⟨⟨by simp, IS1.out⟩, ⟨by simp, IS2.out⟩, ⟨by simp, IS3.out⟩, trivial⟩, ?_⟩
          go_wp2_with fail
          have W7 := ((Mod.refl [] W).drew.trans N7.out)
          refine ⟨⟨D :: Ds, ?_⟩, ?measure⟩
          (repeat apply Exists.intro)
          refine ⟨?rel, rfl⟩
          case rel => exact ⟨j + 1, s2, _, by omega, by go_num, AD.out.mod W7 (by simp), O2.out, MdD.out.mod W7 (by simp) (by simp), MQ.out.trans (W7.mono (by simp)), SD.out.mod W7 (by simp), fun x hx => by
            rcases List.mem_cons.1 hx with rfl | hx
            · omega
            · exact DR.out x hx⟩
          case measure => simp [intOf]; omega
    · obtain rfl : j = l.length := by omega
      have SHD : Hid (∀ D ∈ Ds, w.heap.size + 1 < D ∧ D ∉ B.all) := Lib.hid fun D hD => by have := DR.out D hD; exact ⟨by omega, fun h => by have := BLt.out D h; omega⟩
      obtain ⟨va, vc, hva⟩ := own_slice hMd.row
      subst hva
      have hlen := OR.out.len
      have c8 := H8.out.cell (i := 0) rfl
      have m0 := MdR.out.blk.cell (i := 0) rfl
      have hel : s.1.length ≤ 8 := by omega
      clear hA hO hMd hM hS hDs
      go_wp2_with fail
      obtain ⟨wE, hwE⟩ : ∃ wE, wE = wr := ⟨_, rfl⟩
      rw [← hwE] at AR MdR SR MW H6 hwr ⊢
      clear hwE
      go_loopw [125] (fun i wr => ∃ k : Nat, k ≤ s.1.length ∧ i = .int .i64 (k : Int) ∧ Mod [] wE wr) (fun i _ => s.1.length - (intOf i).toNat)
      case atStart => exact ⟨0, Nat.zero_le _, rfl, Mod.refl _ _⟩
      case round =>
        obtain ⟨k, hk, rfl, hM⟩ := hrel
        have MK := Lib.hid hM
        by_cases hlt2 : k < s.1.length
        · obtain ⟨x, hx⟩ : ∃ x, s.1[k]? = some x := ⟨_, List.getElem?_eq_getElem hlt2⟩
          obtain ⟨g, c', hv', _, hgl, _⟩ := own_nil_iff (n := s.1.length) MdR.out.row (by omega)
          simp only [Value.slice.injEq, true_and] at hv'
          obtain ⟨rfl, rfl⟩ := hv'
          have RW := hM.own MdR.out.row (by simp)
          have x0 := own_get RW (i := k * 3) ((flatE_get _ k x hx 0 (by omega)).trans rfl)
          have x1 := own_get RW (i := k * 3 + 1) (by rw [flatE_get _ k x hx 1 (by omega)]; rfl)
          have x2 := own_get RW (i := k * 3 + 2) (by rw [flatE_get _ k x hx 2 (by omega)]; rfl)
          have NB := Lib.hid (Blk.new wr x.cells 46)
          have A1 := Lib.hid ((Mod.refl [] wr).alloc (.cells x.cells.toArray 46))
          have h64 := OR.out.k64 x (List.mem_of_getElem? hx)
          have CN := Lib.hid (count_any ((AR.out.mod hM (by simp)).mod A1.out (by simp)) x.key (by omega))
          have hce := countE_mem OR.out.nd (List.mem_of_getElem? hx)
          rw [hce] at CN
          obtain ⟨xk, xn, xe⟩ := x
          simp only [Ent.cells] at *
          clear hM RW hx hce
          go_wp2_with fail
          refine CN.out.mono ?_
          rintro e5 w5 ⟨rfl, hM5⟩
          have N5 := Lib.hid (A1.out.trans hM5)
          have k1 := (hM5.blk NB.out (by simp)).cell (i := 1) rfl
          have k2 := (hM5.blk NB.out (by simp)).cell (i := 2) rfl
          clear hM5
          go_wp2_with fail
          go_roundw
          case rel => exact ⟨k + 1, by omega, by go_num, MK.out.trans N5.out⟩
          case measure => simp [intOf]; omega
        · obtain rfl : k = s.1.length := by omega
          have CL := Lib.hid (clear_any (AR.out.mod hM (by simp)))
          clear hM
          go_wp2_with fail
          refine CL.out.mono ?_
          rintro e5 w5 ⟨⟨v5, rfl⟩, hA5, hM5⟩
          have A5 := Lib.hid hA5
          have N5 := Lib.hid ((MK.out.mono (by simp)).trans hM5)
          have LN := Lib.hid (len_any hA5)
          have TN := Lib.hid (total_any hA5)
          have LE := Lib.hid (least_any hA5 hn1.1 (by simp))
          have hl0 : leastOf n [] = 0 := by unfold leastOf; rw [if_neg (by simp; omega)]
          rw [hl0] at LE
          simp only [List.length_nil] at LN
          clear hA5 hM5 hl0
          go_wp2_with fail
          refine LN.out.mono ?_
          rintro e6 w6 ⟨rfl, rfl⟩
          go_wp2_with fail
          refine TN.out.mono ?_
          rintro e7 w7 ⟨rfl, rfl⟩
          go_wp2_with fail
          refine LE.out.mono ?_
          rintro e8 w8 ⟨rfl, hM8⟩
          have N8 := Lib.hid (N5.out.trans (hM8.mono (by simp)))
          have TP := Lib.hid (top_any (A5.out.mod hM8 (by simp)) hn1.1 (by simp) 5 (by omega))
          simp only [List.take_nil] at TP
          clear hM8
          go_wp2_with fail
          refine TP.out.mono ?_
          rintro e9 w9 ⟨va9, rfl, hown9, hM9⟩
          obtain ⟨xa, xc, hxa⟩ := own_slice hown9
          subst hxa
          have N9 := Lib.hid (N8.out.trans (hM9.mono (by simp)))
          have R9 := Lib.hid (N9.out.blk H6.out (fun h => by have := BL.out _ h; omega))
          have S9 := Lib.hid (SR.out.mod N9.out (fun D hD h => (SHD.out D hD).2 h))
          have M9 := Lib.hid (MW.out.trans' N9.out (fun b hb => .inr (by have := BL.out b hb; omega)))
          have r6 := R9.out.cell (i := 0) rfl
          have f6 := R9.out.free 0
          clear hown9 hM9
          go_wp2_with fail
          have B9 : Blk (w9.setCell ⟨w.heap.size + 1, 0, none⟩ (.bool true)) (w.heap.size + 1) 4 [.bool true] := R9.out.set 0 _
          have MS := ((Mod.refl [w.heap.size + 1] w9).setCell (p := ⟨w.heap.size + 1, 0, none⟩) (.inl (by simp)) (.bool true))
          have S10 := S9.out.mod MS (fun D hD h => by simp at h; have := (SHD.out D hD).1; omega)
          have BE := closeAll_blk S10 B9
          have r7 := BE.cell (i := 0) rfl
          refine leaveN S10 (v := .bool true) (by simp [results, Try.results9, go_sem, r7]) ⟨rfl, ?_⟩
          exact (M9.out.trans' MS (fun b hb => .inr (by simp at hb; omega))).trans' (closeAll_mod Ds _) (fun b hb => .inr (by have := (SHD.out b hb).1; omega))
set_option maxRecDepth 8000 in
theorem runs_walk (w : World) (nz : Int) (hw1 : (Lit.int .i64 nz).wf = true) (v : Value) (ds : List Nat) (hv : v = .agg (ds.map fun x : Nat => Value.int .u64 (x : Int)).toArray) (hd : ds.length = 3) (ha : ∀ x ∈ ds, x < 18446744073709551616) (a : Option Addr) (cp : Nat) (l : List KW) (hm : l.length ≤ maxLen) (hP : InRow w a 2 KW.cells l) (hok : ∀ q ∈ l, q.ok) :
    Calls Try.prog 9 #[.int .i64 nz, v, .slice a l.length cp] w fun e w' => e = .returned (.bool true) ∧ Mod [] w w' := by
  subst hv
  match ds, hd with
  | [a0, a1, a2], _ =>
    cases hl : lightB l with
    | true => exact runs_main w nz a0 a1 a2 ha a cp l hm hP hok hl
    | false =>
      obtain ⟨n0, hn0, hn15⟩ : ∃ n0 : Nat, bits .and .i64 nz 7 = (n0 : Int) ∧ n0 ≤ 7 := ⟨(nz % 8).toNat, by rw [show (7 : Int) = 2 ^ 3 - 1 from rfl, and_mask _ _ (by omega)]; omega, by omega⟩
      have LG := Lib.hid (fun (W : World) (h : Mod [] w W) => light_any (w := W) (a := a) (l := l) (fun i q hq => by
        obtain ⟨b, off, h1, h2, h3⟩ := hP i q hq
        exact ⟨b, off, h1, h.lt h2, fun j u hu => (h.cell (a := ⟨b, off + i * 2 + j, none⟩) h2 (by simp)).trans (h3 j u hu)⟩) hm cp)
      rw [hl] at LG
      have X6 := Lib.hid (Blk.new (w.alloc (.cells #[.int .u64 (a0 : Int), .int .u64 (a1 : Int), .int .u64 (a2 : Int)] 23)) [.bool false] 4)
      rw [show (w.alloc (.cells #[.int .u64 (a0 : Int), .int .u64 (a1 : Int), .int .u64 (a2 : Int)] 23)).heap.size = w.heap.size + 1 by simp] at X6
      have M0 := Lib.hid (((Mod.refl [] w).alloc (.cells #[.int .u64 (a0 : Int), .int .u64 (a1 : Int), .int .u64 (a2 : Int)] 23)).alloc (.cells #[.bool false] 4))
      clear hP hl hw1 hok
      simp only [List.map_cons, List.map_nil]
      refine calls_of_wp_marks Try.func9 rfl ?_
      simp only [Try.ntmps9, List.size_toArray, List.length_cons, List.length_nil, Nat.reduceAdd, Nat.reduceSub, Array.replicate_succ, Array.replicate_zero, List.push_toArray, List.append_toArray, List.nil_append, List.cons_append]
      go_wp2_with fail
      refine (fit_any _).mono ?_
      rintro e1 w1 ⟨rfl, hM1⟩
      have M1 := Lib.hid (M0.out.trans hM1)
      have Y6 := Lib.hid (hM1.blk X6.out (by simp))
      clear hM1
      go_wp2_with fail
      refine (LG.out _ M1.out).mono ?_
      rintro e2 w2 ⟨rfl, hM2⟩
      have M2 := Lib.hid (M1.out.trans hM2)
      have Z6 := Lib.hid (hM2.blk Y6.out (by simp))
      have f4 := Z6.out.free 0
      have g4 := Z6.out.cell (i := 0) rfl
      clear hM2
      go_wp2_with fail
      have r4 := (Z6.out.set 0 (.bool true)).cell (i := 0) rfl
      exact ⟨.bool true, by simp [results, Try.results9, go_sem, r4], rfl, M2.out.setCell (p := ⟨w.heap.size + 1, 0, none⟩) (.inr (by show w.heap.size ≤ w.heap.size + 1; omega)) _⟩
end Go.Proofs.Ytpobjhmfidebbaa.Sum
