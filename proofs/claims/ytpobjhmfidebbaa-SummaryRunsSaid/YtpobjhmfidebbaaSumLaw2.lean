/- summary's laws: SummaryAlike. -/
import Derived.Test.YtpobjhmfidebbaaSumPlain
import Derived.Test.YtpobjhmfidebbaaArrArg
namespace Go.Proofs.Ytpobjhmfidebbaa.Sum
open Go Go.RowKit Go.YtpobjhmfidebbaaMem Go.YtpobjhmfidebbaaLex Go.YtpobjhmfidebbaaRange Go.Proofs.Ytpobjhmfidebbaa.Hash Go.Proofs.Ytpobjhmfidebbaa.Keys Go.Proofs.Ytpobjhmfidebbaa.Index
set_option linter.unusedVariables false
set_option linter.unusedSimpArgs false

theorem flatE_get : ∀ (E : List Ent) (i : Nat) (e : Ent), E[i]? = some e → ∀ j, j < 3 → (flatE E)[i * 3 + j]? = e.cells[j]?
  | [], i, c, h, j, hj => by simp at h
  | x :: C, 0, c, h, j, hj => by
    simp at h; subst h
    unfold flatE
    rw [List.flatMap_cons, Nat.zero_mul, Nat.zero_add, List.getElem?_append_left (by simp [Ent.cells]; omega)]
  | x :: C, i + 1, c, h, j, hj => by
    have ih := flatE_get C i c (by simpa using h) j hj
    unfold flatE at *
    rw [List.flatMap_cons, List.getElem?_append_right (by simp [Ent.cells]; omega)]
    rw [← ih]
    congr 1
    simp [Ent.cells]; omega
/-- A row of entries of one's own, read. -/
theorem own_ents {w : World} {base : Nat} {v : Value} {T : List Ent} (h : w.ownsRow base 46 3 v T.length (flatE T)) (hn : T.length ≠ 0) :
    ∃ g cap, v = .slice (some ⟨g, 0, none⟩) T.length cap ∧ base ≤ g ∧ g < w.heap.size ∧ ∀ i e, T[i]? = some e → w.cell? ⟨g, i * 3, none⟩ = some (.string ⟨e.key.toArray⟩) ∧ w.cell? ⟨g, i * 3 + 1, none⟩ = some (.int .i64 e.n) ∧ w.cell? ⟨g, i * 3 + 2, none⟩ = some (.int .i64 e.err) := by
  rcases h.2 with ⟨_, h0⟩ | ⟨g, cap, cur, rfl, h1, h2, h3, h4, h5, h6⟩
  · exact absurd h0 hn
  · refine ⟨g, cap, rfl, h1, lt_of_some h2, fun i e he => ?_⟩
    have key : ∀ j u, j < 3 → e.cells[j]? = some u → w.cell? ⟨g, i * 3 + j, none⟩ = some u := fun j u hj hu => by
      have := h.cells (g := g) rfl (i * 3 + j) u (by rw [flatE_get T i e he j hj]; exact hu)
      rw [add_eq, Nat.zero_add] at this; exact this
    exact ⟨key 0 _ (by omega) rfl, key 1 _ (by omega) rfl, key 2 _ (by omega) rfl⟩
theorem u8_inf : (Try.prog.info? 5).map (fun i => (i.zero, i.size, i.bytes)) = some (some (.int .u8 0), 1, 1) := by kernel_rfl
theorem make_long (w : World) : (Instr.makeSlice 54 (.int .i64 65) (.int .i64 65)).run Try.prog w = .ok (.slice (some ⟨w.heap.size, 0, none⟩) 65 65) (w.alloc (.cells (vb (List.replicate 65 0)).toArray 5)) := by
  have h := run_make_row' (P := Try.prog) 54 5 (.int .u8 0) 1 Try.underlying54 u8_inf rfl .i64 .i64 65 (by omega) (by omega)
  have e : madeCells #[.int .u8 0] 65 = (vb (List.replicate 65 0)).toArray := by
    rw [← Array.toArray_toList (xs := madeCells _ _), toList_madeCells_one]; unfold vb; rw [List.map_replicate]; rfl
  rw [e] at h
  exact h w
def longK : List UInt8 := List.replicate 65 0
theorem str_long {w : World} {b : Nat} (h : Blk w b 5 (vb (List.replicate 65 0))) : (convert 54 9 (.slice (some ⟨b, 0, none⟩) 65 65)).run Try.prog w = .ok (.string ⟨longK.toArray⟩) w :=
  run_str (P := Try.prog) (bs := longK) (.inr ⟨b, 0, 65, rfl, by simp [longK], by unfold maxLen; omega, h.lt, fun i u hu => by rw [Nat.zero_add]; exact h.cell hu⟩) Try.underlying54 Try.underlying5 Try.underlying9
theorem offer_long (n : Nat) (s : List Ent × Int) (z : Int) : offer n s longK z = s := by unfold offer; rw [if_pos (by right; right; simp [longK])]
theorem offer_none (n : Nat) (s : List Ent × Int) (key : List UInt8) : offer n s key 0 = s := by unfold offer; rw [if_pos (by omega)]
theorem offer_much (n : Nat) (s : List Ent × Int) (key : List UInt8) : offer n s key 4611686018427387904 = s := by unfold offer; rw [if_pos (by omega)]

set_option maxRecDepth 8000 in
set_option maxHeartbeats 12800000 in
theorem alike_main (w : World) (a0 a1 a2 a3 a4 a5 : Nat) (ha : ∀ x ∈ [a0, a1, a2, a3, a4, a5], x < 18446744073709551616) (a : Option Addr) (cp : Nat) (l : List KW) (hm : l.length ≤ maxLen) (hP : InRow w a 2 KW.cells l) (hok : ∀ q ∈ l, q.ok) (hl : lightB l = true) :
    Calls Try.prog 7 #[.agg #[.int .u64 (a0 : Int), .int .u64 (a1 : Int), .int .u64 (a2 : Int), .int .u64 (a3 : Int), .int .u64 (a4 : Int), .int .u64 (a5 : Int)], .slice a l.length cp] w fun e w' => e = .returned (.bool true) ∧ Mod [] w w' := by
  have R1 := Lib.hid (fun W : World => row_any a0 a1 a2 (ha a0 (by simp)) (ha a1 (by simp)) (ha a2 (by simp)) W)
  have R2 := Lib.hid (fun W : World => row_any a3 a4 a5 (ha a3 (by simp)) (ha a4 (by simp)) (ha a5 (by simp)) W)
  have hr1 := rowOf_ok [a0, a1, a2]
  have hr2 := rowOf_ok [a3, a4, a5]
  unfold RowPost v3 at R1 R2
  generalize rowOf [a0, a1, a2] = r1 at *
  generalize rowOf [a3, a4, a5] = r2 at *
  have N1 := Lib.hid (fun W : World => new_any 3 (by omega) (by omega) r1 hr1 W)
  have N2 := Lib.hid (fun W : World => new_any 3 (by omega) (by omega) r2 hr2 W)
  have LG := Lib.hid (fun (W : World) (h : Mod [] w W) => light_any (w := W) (a := a) (l := l) (fun i q hq => by
    obtain ⟨b, off, h1, h2, h3⟩ := hP i q hq
    exact ⟨b, off, h1, h.lt h2, fun j u hu => (h.cell (a := ⟨b, off + i * 2 + j, none⟩) h2 (by simp)).trans (h3 j u hu)⟩) hm cp)
  rw [hl] at LG
  have hl150 : l.length ≤ 150 := by unfold lightB at hl; simp at hl; exact hl.1
  have HK : Hid (∀ q ∈ l, q.key.length ≤ 100) := Lib.hid (by unfold lightB at hl; simp at hl; exact hl.2)
  have HP := Lib.hid hP
  have HO := Lib.hid hok
  have HL := Lib.hid hl150
  have B0 := Lib.hid (Blk.new w [.int .u64 (a0 : Int), .int .u64 (a1 : Int), .int .u64 (a2 : Int), .int .u64 (a3 : Int), .int .u64 (a4 : Int), .int .u64 (a5 : Int)] 53)
  have M0 := Lib.hid ((Mod.refl [] w).alloc (.cells #[.int .u64 (a0 : Int), .int .u64 (a1 : Int), .int .u64 (a2 : Int), .int .u64 (a3 : Int), .int .u64 (a4 : Int), .int .u64 (a5 : Int)] 53))
  clear ha hr1 hr2 hP hok hl hm hl150
  go_enter Try.func7, Try.ntmps7
  go_wp2_with fail
  refine (fit_any _).mono ?_
  rintro e1 w1 ⟨rfl, hM1⟩
  have M1 := Lib.hid (M0.out.trans hM1)
  have B1 := Lib.hid (hM1.blk B0.out (by simp))
  clear hM1
  go_wp2_with fail
  refine (LG.out _ M1.out).mono ?_
  rintro e2 w2 ⟨rfl, hM2⟩
  have M2 := Lib.hid (M1.out.trans hM2)
  have B2 := Lib.hid (hM2.blk B1.out (by simp))
  have k0 := B2.out.cell (i := 0) rfl
  have k1 := B2.out.cell (i := 1) rfl
  have k2 := B2.out.cell (i := 2) rfl
  have IS := Lib.hid (show IsC w2.drew w.heap.size from isC_of_cell (w := w2) k0)
  clear hM2
  go_wp2_with fail
  refine wp_region_held [3, 1] [5] [] (by kernel_rfl) (by kernel_rfl) ?_
  simp only [wpCut, List.take_succ_cons, List.take_zero, List.drop_succ_cons, List.drop_zero, List.cons_append, List.nil_append]
  go_wp2_with fail
  refine (R1.out _).mono ?_
  rintro e3 w3 ⟨rfl, hM3⟩
  have D3 := Lib.hid hM3
  have M3 := Lib.hid (M2.out.drew.trans hM3)
  have B3 := Lib.hid (hM3.blk B2.out.drew (by simp))
  clear hM3 k0 k1 k2
  go_wp2_with fail
  refine ⟨D3.out, ?_⟩
  go_wp2_with fail
  refine (N1.out _).mono ?_
  rintro e4 w4 ⟨Ba, rfl, hA, hB, hM4⟩
  have D4 := Lib.hid (D3.out.trans hM4)
  have M4 := Lib.hid (M3.out.trans hM4)
  have A4 := Lib.hid hA
  have AL := Lib.hid hB
  have B4 := Lib.hid (hM4.blk B3.out (by simp))
  have k3 := B4.out.cell (i := 3) rfl
  have k4 := B4.out.cell (i := 4) rfl
  have k5 := B4.out.cell (i := 5) rfl
  have hs3 := M3.out.size
  clear hA hB hM4
  go_wp2_with fail
  refine ⟨D4.out, ?_⟩
  go_wp2_with fail
  refine (R2.out _).mono ?_
  rintro e5 w5 ⟨rfl, hM5⟩
  have M5 := Lib.hid (M4.out.trans hM5)
  have A5 := Lib.hid (A4.out.mod hM5 (by simp))
  have hs45 := hM5.size
  clear hM5 k3 k4 k5
  go_wp2_with fail
  refine (N2.out _).mono ?_
  rintro e6 w6 ⟨Bb, rfl, hA, hB, hM6⟩
  have M6 := Lib.hid (M5.out.trans hM6)
  have A6 := Lib.hid (A5.out.mod hM6 (by simp))
  have E6 := Lib.hid hA
  have LL : Hid ((∀ b, b ∈ Ba.all → w.heap.size ≤ b) ∧ (∀ b, b ∈ Bb.all → w.heap.size ≤ b) ∧ (∀ b, b ∈ Ba.all → b ∉ Bb.all) ∧ ∀ b, b ∈ Bb.all → b ∉ Ba.all) := by
    have q1 : ∀ b, b ∈ Ba.all → w.heap.size ≤ b ∧ b < w4.heap.size := fun b hb => ⟨by have := AL.out b hb; omega, A4.out.lt b hb⟩
    have q2 : ∀ b, b ∈ Bb.all → w4.heap.size ≤ b := fun b hb => by have := hB b hb; omega
    have hs4 := M4.out.size
    exact Lib.hid ⟨fun b hb => (q1 b hb).1, fun b hb => by have := q2 b hb; omega, fun b h1 h2 => by have := (q1 b h1).2; have := q2 b h2; omega, fun b h2 h1 => by have := (q1 b h1).2; have := q2 b h2; omega⟩
  clear hA hB hM6 hs3 hs45
  go_wp2_with fail
  refine ⟨by kernel_rfl, ⟨⟨by simp, IS.out⟩, trivial⟩, ?_⟩
  have mk := make_long w6
  have LS := Lib.hid (Blk.new w6 (vb (List.replicate 65 0)) 5)
  have cv := str_long LS.out
  have A7 := Lib.hid (A6.out.mod ((Mod.refl [] w6).alloc (.cells (vb (List.replicate 65 0)).toArray 5)) (by simp))
  have E7 := Lib.hid (E6.out.mod ((Mod.refl [] w6).alloc (.cells (vb (List.replicate 65 0)).toArray 5)) (by simp))
  have M7 := Lib.hid (M6.out.alloc (.cells (vb (List.replicate 65 0)).toArray 5))
  generalize vb (List.replicate 65 0) = L65 at *
  clear B1 M1 B2 M2 M3 B3 M4 A4 AL B4 M5 A5 A6 E6 N1 N2 R1 R2 LG D3 D4 B0 M0 IS
  go_wp2_with fail
  go_loopw [30] (fun i wr => ∃ (j : Nat) (s : List Ent × Int), j ≤ l.length ∧ i = .int .i64 (j : Int) ∧ SumAt wr Ba 3 s.1 s.2 ∧ SumAt wr Bb 3 s.1 s.2 ∧ OkE 3 s.1 s.2 ∧ Mod [] w wr) (fun i _ => l.length - (intOf i).toNat)
  case atStart => exact ⟨0, ([], 0), Nat.zero_le _, rfl, A7.out, E7.out, ok_nil 3, M7.out⟩
  case round =>
    clear A7 E7 M7 mk cv LS
    obtain ⟨j, s, hj, rfl, hA, hE, hO, hM⟩ := hrel
    have AR := Lib.hid hA
    have ER := Lib.hid hE
    have OR := Lib.hid hO
    have MR := Lib.hid hM
    have hl150 := HL.out
    by_cases hlt : j < l.length
    · obtain ⟨q, hq⟩ : ∃ q, l[j]? = some q := ⟨_, List.getElem?_eq_getElem hlt⟩
      obtain ⟨b, off, rfl, hb, hcell⟩ := HP.out j q hq
      have hk100 := HK.out q (List.mem_of_getElem? hq)
      have hzw := wf_i64_of (HO.out q (List.mem_of_getElem? hq))
      obtain ⟨key, z⟩ := q
      simp only at hk100 hzw
      have c0 := (hM.cell (a := ⟨b, off + j * 2, none⟩) hb (by simp)).trans (hcell 0 _ rfl)
      have c1 := (hM.cell (a := ⟨b, off + j * 2 + 1, none⟩) hb (by simp)).trans (hcell 1 _ rfl)
      simp only at c0 c1
      have NB := Lib.hid (Blk.new wr [.string ⟨key.toArray⟩, .int .i64 z] 34)
      have A1 := Lib.hid ((Mod.refl [] wr).alloc (.cells #[.string ⟨key.toArray⟩, .int .i64 z] 34))
      have HN : Hid (wr.heap.size ∉ Ba.all ∧ wr.heap.size ∉ Bb.all) := Lib.hid ⟨fun h => by have := hA.lt _ h; omega, fun h => by have := hE.lt _ h; omega⟩
      have F1 := Lib.hid (offer_ok (AR.out.mod A1.out (by simp)) OR.out (by omega) key (by omega) z (by omega))
      obtain ⟨s2, hs2⟩ : ∃ s2, offer 3 s key z = s2 := ⟨_, rfl⟩
      rw [hs2] at F1
      have HS2 := Lib.hid hs2
      clear hs2 hA hE hO hM hcell hq hb
      go_wp2_with fail
      refine F1.out.mono ?_
      rintro e1 w1 ⟨⟨v1, rfl⟩, hA1, hO1, hM1⟩
      have A1' := Lib.hid hA1
      have O1 := Lib.hid hO1
      have NB1 := Lib.hid (hM1.blk NB.out HN.out.1)
      have k0 := NB1.out.cell (i := 0) rfl
      have k1 := NB1.out.cell (i := 1) rfl
      have E1 := Lib.hid ((ER.out.mod A1.out (by simp)).mod hM1 LL.out.2.2.2)
      have M1 := Lib.hid ((MR.out.trans A1.out).trans' hM1 (fun b hb => .inr (LL.out.1 b hb)))
      have F2 := Lib.hid (offer_ok E1.out OR.out (by omega) key (by omega) z (by omega))
      rw [HS2.out] at F2
      clear hA1 hO1 hM1 c0 c1
      go_wp2_with fail
      refine F2.out.mono ?_
      rintro e2 w2 ⟨⟨v2, rfl⟩, hE2, hO2, hM2⟩
      have E2 := Lib.hid hE2
      have A2 := Lib.hid (A1'.out.mod hM2 LL.out.2.2.1)
      have NB2 := Lib.hid (hM2.blk NB1.out HN.out.2)
      have M2 := Lib.hid (M1.out.trans' hM2 (fun b hb => .inr (LL.out.2.1 b hb)))
      have F3 := Lib.hid (offer_ok E2.out O1.out (by omega) longK (by simp [longK]) 5 (by omega))
      rw [offer_long] at F3
      clear hE2 hO2 hM2 k0 k1
      go_wp2_with fail
      refine F3.out.mono ?_
      rintro e3 w3 ⟨⟨v3, rfl⟩, hE3, hO3, hM3⟩
      have E3 := Lib.hid hE3
      have A3 := Lib.hid (A2.out.mod hM3 LL.out.2.2.1)
      have NB3 := Lib.hid (hM3.blk NB2.out HN.out.2)
      have M3 := Lib.hid (M2.out.trans' hM3 (fun b hb => .inr (LL.out.2.1 b hb)))
      have k0 := NB3.out.cell (i := 0) rfl
      have F4 := Lib.hid (offer_ok E3.out O1.out (by omega) key (by omega) 0 (by omega))
      rw [offer_none] at F4
      clear hE3 hO3 hM3
      go_wp2_with fail
      refine F4.out.mono ?_
      rintro e4 w4 ⟨⟨v4, rfl⟩, hE4, hO4, hM4⟩
      have E4 := Lib.hid hE4
      have A4 := Lib.hid (A3.out.mod hM4 LL.out.2.2.1)
      have NB4 := Lib.hid (hM4.blk NB3.out HN.out.2)
      have M4 := Lib.hid (M3.out.trans' hM4 (fun b hb => .inr (LL.out.2.1 b hb)))
      have F5 := Lib.hid (offer_ok E4.out O1.out (by omega) key (by omega) 4611686018427387904 (by omega))
      rw [offer_much] at F5
      clear hE4 hO4 hM4 k0
      have k0 := NB4.out.cell (i := 0) rfl
      go_wp2_with fail
      refine F5.out.mono ?_
      rintro e5 w5 ⟨⟨v5, rfl⟩, hE5, hO5, hM5⟩
      have E5 := Lib.hid hE5
      have A5 := Lib.hid (A4.out.mod hM5 LL.out.2.2.1)
      have M5 := Lib.hid (M4.out.trans' hM5 (fun b hb => .inr (LL.out.2.1 b hb)))
      have T5 := Lib.hid (top_any A5.out (by omega) O1.out.len 3 (by omega))
      obtain ⟨T, hT⟩ : ∃ T, s2.1.take (topN 3 3) = T := ⟨_, rfl⟩
      rw [hT] at T5
      have HT := Lib.hid hT
      have hTl : T.length ≤ 3 := by rw [← hT, List.length_take]; have := O1.out.len; omega
      clear hE5 hO5 hM5 k0 hT
      go_wp2_with fail
      refine T5.out.mono ?_
      rintro e6 w6 ⟨va, rfl, hown6, hM6⟩
      have OW6 := Lib.hid hown6
      have A6 := Lib.hid (A5.out.mod hM6 (by simp))
      have E6 := Lib.hid (E5.out.mod hM6 (by simp))
      have M6 := Lib.hid (M5.out.trans hM6)
      have T6 := Lib.hid (top_any E6.out (by omega) O1.out.len 3 (by omega))
      rw [HT.out] at T6
      clear hown6 hM6
      go_wp2_with fail
      refine T6.out.mono ?_
      rintro e7 w7 ⟨vb', rfl, hown7, hM7⟩
      have OA7 := Lib.hid (hM7.own OW6.out (by simp))
      have OB7 := Lib.hid hown7
      have A7 := Lib.hid (A6.out.mod hM7 (by simp))
      have E7 := Lib.hid (E6.out.mod hM7 (by simp))
      have M7 := Lib.hid (M6.out.trans hM7)
      obtain ⟨xa, xc, hxa⟩ := own_slice OA7.out
      obtain ⟨ya, yc, hya⟩ := own_slice OB7.out
      subst hxa hya
      have TA := Lib.hid (total_any A7.out)
      have TB := Lib.hid (total_any E7.out)
      clear hown7 hM7 OW6 A6 E6 M6 T6 T5 E5 A5 M5 F5 F4 F3 F2 F1 E4 A4 NB4 M4 E3 A3 NB3 M3 E2 A2 NB2 M2 E1 M1 NB1
      go_wp2_with fail
      refine TA.out.mono ?_
      rintro e8 w8 ⟨rfl, rfl⟩
      go_wp2_with fail
      refine TB.out.mono ?_
      rintro e9 w9 ⟨rfl, rfl⟩
      go_wp2_with fail
      go_loopw [75] (fun i wr => ∃ k : Nat, k ≤ T.length ∧ i = .int .i64 (k : Int) ∧ Mod [] w7 wr) (fun i _ => T.length - (intOf i).toNat)
      case atStart => exact ⟨0, Nat.zero_le _, rfl, Mod.refl _ _⟩
      case round =>
        obtain ⟨k, hk, rfl, hM⟩ := hrel
        have MI := Lib.hid hM
        by_cases hlt2 : k < T.length
        · obtain ⟨ga, ca, hva, _, hga, hca⟩ := own_ents OA7.out (by omega)
          obtain ⟨gb, cb, hvb, _, hgb, hcb⟩ := own_ents OB7.out (by omega)
          obtain ⟨e, he⟩ : ∃ e, T[k]? = some e := ⟨_, List.getElem?_eq_getElem hlt2⟩
          obtain ⟨p0, p1, p2⟩ := hca k e he
          obtain ⟨q0, q1, q2⟩ := hcb k e he
          simp only [Value.slice.injEq, true_and] at hva hvb
          obtain ⟨rfl, rfl⟩ := hva
          obtain ⟨rfl, rfl⟩ := hvb
          have p0' := (hM.cell (a := ⟨ga, k * 3, none⟩) hga (by simp)).trans p0
          have p1' := (hM.cell (a := ⟨ga, k * 3 + 1, none⟩) hga (by simp)).trans p1
          have p2' := (hM.cell (a := ⟨ga, k * 3 + 2, none⟩) hga (by simp)).trans p2
          have q0' := (hM.cell (a := ⟨gb, k * 3, none⟩) hgb (by simp)).trans q0
          have q1' := (hM.cell (a := ⟨gb, k * 3 + 1, none⟩) hgb (by simp)).trans q1
          have q2' := (hM.cell (a := ⟨gb, k * 3 + 2, none⟩) hgb (by simp)).trans q2
          obtain ⟨ek, en, ee⟩ := e
          simp only at p0' p1' p2' q0' q1' q2'
          clear hM hca hcb p0 p1 p2 q0 q1 q2 he
          go_wp2_with fail
          refine wp_region_lex (by kernel_rfl) (by kernel_rfl) ?_
          go_wp2_with fail
          refine ⟨by kernel_rfl, ?_⟩
          go_wp2_with fail
          go_roundw
          case rel => exact ⟨k + 1, by omega, by go_num, MI.out.drew⟩
          case measure => simp [intOf]; omega
        · obtain rfl : k = T.length := by omega
          clear hM
          go_wp2_with fail
          go_roundw
          case rel => exact ⟨j + 1, s2, by omega, by go_num, A7.out.mod MI.out (by simp), E7.out.mod MI.out (by simp), O1.out, M7.out.trans MI.out⟩
          case measure => simp [intOf]; omega
    · obtain rfl : j = l.length := by omega
      clear hA hE hO hM
      go_wp2_with fail
      go_ret
      exact ⟨rfl, MR.out⟩
set_option maxRecDepth 8000 in
theorem alike_walk (w : World) (v : Value) (ds : List Nat) (hv : v = .agg (ds.map fun x : Nat => Value.int .u64 (x : Int)).toArray) (hd : ds.length = 2 * 3) (ha : ∀ x ∈ ds, x < 18446744073709551616) (a : Option Addr) (cp : Nat) (l : List KW) (hm : l.length ≤ maxLen) (hP : InRow w a 2 KW.cells l) (hok : ∀ q ∈ l, q.ok) :
    Calls Try.prog 7 #[v, .slice a l.length cp] w fun e w' => e = .returned (.bool true) ∧ Mod [] w w' := by
  subst hv
  match ds, hd with
  | [a0, a1, a2, a3, a4, a5], _ =>
    cases hl : lightB l with
    | true => exact alike_main w a0 a1 a2 a3 a4 a5 ha a cp l hm hP hok hl
    | false =>
      have LG := Lib.hid (fun (W : World) (h : Mod [] w W) => light_any (w := W) (a := a) (l := l) (fun i q hq => by
        obtain ⟨b, off, h1, h2, h3⟩ := hP i q hq
        exact ⟨b, off, h1, h.lt h2, fun j u hu => (h.cell (a := ⟨b, off + i * 2 + j, none⟩) h2 (by simp)).trans (h3 j u hu)⟩) hm cp)
      rw [hl] at LG
      have M0 := Lib.hid ((Mod.refl [] w).alloc (.cells #[.int .u64 (a0 : Int), .int .u64 (a1 : Int), .int .u64 (a2 : Int), .int .u64 (a3 : Int), .int .u64 (a4 : Int), .int .u64 (a5 : Int)] 53))
      clear hP hl
      simp only [List.map_cons, List.map_nil]
      go_enter Try.func7, Try.ntmps7
      go_wp2_with fail
      refine (fit_any _).mono ?_
      rintro e1 w1 ⟨rfl, hM1⟩
      have M1 := Lib.hid (M0.out.trans hM1)
      clear hM1
      go_wp2_with fail
      refine (LG.out _ M1.out).mono ?_
      rintro e2 w2 ⟨rfl, hM2⟩
      have M2 := Lib.hid (M1.out.trans hM2)
      clear hM2
      go_wp2_with fail
      go_ret
      exact ⟨rfl, M2.out⟩
end Go.Proofs.Ytpobjhmfidebbaa.Sum
