/- pool's laws: PoolStops. -/
import Derived.Test.YtajadfoannmaiaaPoolLaw1
import Derived.Test.YtajadfoannmaiaaRound
namespace Go.Proofs.Ytajadfoannmaiaa.Pool
open Go Go.RowKit Go.YtajadfoannmaiaaMem Go.YtajadfoannmaiaaLex Go.YtajadfoannmaiaaRange Go.Proofs.Ytajadfoannmaiaa.Hash Go.Proofs.Ytajadfoannmaiaa.Keys Go.Proofs.Ytajadfoannmaiaa.Index Go.Proofs.Ytajadfoannmaiaa.Cell Go.Proofs.Ytajadfoannmaiaa.Arith
set_option linter.unusedVariables false
set_option linter.unusedSimpArgs false
attribute [local go_sem] Oper.semAt_some

theorem rowL_split {n : Nat} {f : Nat → Cell} {pre post : List (List UInt8 × Cell)} {x : List UInt8 × Cell} (h : rowL n f = pre ++ x :: post) : pre.length < n ∧ x = (nk pre.length, f pre.length) := by
  have hl : (rowL n f).length = n := by simp [rowL]
  have h1 : pre.length < n := by rw [← hl, h]; simp
  refine ⟨h1, ?_⟩
  have h2 : (rowL n f)[pre.length]? = some x := by rw [h, List.getElem?_append_right (Nat.le_refl _)]; simp
  unfold rowL at h2
  rw [List.getElem?_map, List.getElem?_range h1] at h2
  simp at h2
  exact h2.symm
theorem str_one {w : World} {b : Nat} {q : UInt8} (h : Blk w b 5 (vb [q])) : (convert 30 9 (.slice (some ⟨b, 0, none⟩) 1 1)).run Try.prog w = .ok (.string ⟨#[q]⟩) w :=
  run_str (P := Try.prog) (bs := [q]) (.inr ⟨b, 0, 1, rfl, by simp, by unfold maxLen; omega, h.lt, fun i u hu => by rw [Nat.zero_add]; exact h.cell hu⟩) Try.underlying30 Try.underlying5 Try.underlying9
theorem vb_one {q : UInt8} {k : Nat} (h : q.toNat = 97 + k) : vb [q] = [.int .u8 (97 + (k : Int))] := by
  unfold vb; simp only [List.map_cons, List.map_nil, h]; simp
def stopCell (i : Nat) : Cell := fresh (i : Int) 0

set_option maxRecDepth 8000 in
set_option maxHeartbeats 12800000 in
theorem stops_walk (w : World) (nz : Int) (hw1 : (Lit.int .i64 nz).wf = true) (stop : Int) (hw2 : (Lit.int .i64 stop).wf = true) :
    Calls Try.prog 3 #[.int .i64 nz, .int .i64 stop] w fun e w' => e = .returned (.bool true) ∧ Mod [] w w' := by
  obtain ⟨n, hn, hn16⟩ : ∃ n : Nat, bits .and .i64 nz 15 = (n : Int) ∧ n < 16 := ⟨(nz % 16).toNat, by rw [show (15 : Int) = 2 ^ 4 - 1 from rfl, and_mask _ _ (by omega)]; omega, by omega⟩
  have N0 := Lib.hid (fun W : World => new_any 16 (by omega) (by omega) ⟨9, 7, 0⟩ ⟨by decide, by decide, by decide⟩ W)
  have X3 := Lib.hid (Blk.new w [.int .i64 stop] 3)
  have X4 := Lib.hid (Blk.new (w.alloc (.cells #[.int .i64 stop] 3)) [.bool false] 4)
  have hsz1 : (w.alloc (.cells #[.int .i64 stop] 3)).heap.size = w.heap.size + 1 := by simp
  rw [hsz1] at X4
  have hsz2 : ((w.alloc (.cells #[.int .i64 stop] 3)).alloc (.cells #[.bool false] 4)).heap.size = w.heap.size + 2 := by simp
  have Y3 := Lib.hid (X3.out.alloc (.cells #[.bool false] 4))
  have M0 := Lib.hid (((Mod.refl [] w).alloc (.cells #[.int .i64 stop] 3)).alloc (.cells #[.bool false] 4))
  have HSZ := Lib.hid hsz2
  clear hw1 hw2 X3 hsz1 hsz2
  refine calls_of_wp_marks Try.func3 rfl ?_
  simp only [Try.ntmps3, List.size_toArray, List.length_cons, List.length_nil, Nat.reduceAdd, Nat.reduceSub, Array.replicate_succ, Array.replicate_zero, List.push_toArray, List.append_toArray, List.nil_append, List.cons_append]
  go_wp2_with fail
  refine (fit_any _).mono ?_
  rintro e1 w1 ⟨rfl, hM1⟩
  have M1 := Lib.hid (M0.out.trans hM1)
  have Z3 := Lib.hid (hM1.blk Y3.out (by simp))
  have Z4 := Lib.hid (hM1.blk X4.out (by simp))
  have hs1 := hM1.size
  rw [HSZ.out] at hs1
  clear hM1
  go_wp2_with fail
  refine (N0.out _).mono ?_
  rintro e2 w2 ⟨B, rfl, hP, hB, hr, hM2⟩
  have P3 := Lib.hid (show At (w2.alloc (.cells #[.pointer (some ⟨B.p, 0, none⟩)] 23)) B (s0 16) from hP.mod ((Mod.refl [] w2).alloc _) (by simp))
  have M3 := Lib.hid ((M1.out.trans hM2).alloc (.cells #[.pointer (some ⟨B.p, 0, none⟩)] 23))
  have V3 := Lib.hid ((hM2.blk Z3.out (by simp)).alloc (.cells #[.pointer (some ⟨B.p, 0, none⟩)] 23))
  have V4 := Lib.hid ((hM2.blk Z4.out (by simp)).alloc (.cells #[.pointer (some ⟨B.p, 0, none⟩)] 23))
  have V5 := Lib.hid (Blk.new w2 [.pointer (some ⟨B.p, 0, none⟩)] 23)
  have hs2 := hM2.size
  have hPl := hP.lt
  have BL : Hid (∀ b, b ∈ B.all → w.heap.size + 1 < b ∧ b < w2.heap.size) := Lib.hid fun b hb => ⟨by have := hB b hb; omega, hPl b hb⟩
  clear hP hB hr hM2 Z3 Z4 hPl
  go_wp2_with fail
  obtain ⟨b5, hb5⟩ : ∃ b5, w2.heap.size = b5 := ⟨_, rfl⟩
  obtain ⟨w3, hw3⟩ : ∃ w3, w2.alloc (.cells #[.pointer (some ⟨B.p, 0, none⟩)] 23) = w3 := ⟨_, rfl⟩
  rw [hw3] at P3 M3 V3 V4 V5
  rw [hb5] at V5 BL hs2
  rw [hw3, hb5]
  clear hw3 hb5
  go_loopw [17] (fun i wr => ∃ (k : Nat) (s : PS), k ≤ n ∧ i = .int .i64 (k : Int) ∧ Row1 16 k s stopCell ∧ At wr B s ∧ Mod B.all w3 wr) (fun i _ => n - (intOf i).toNat)
  case atStart => exact ⟨0, s0 16, Nat.zero_le _, rfl, row1_zero 16 _, P3.out, Mod.refl _ _⟩
  case round =>
    obtain ⟨k, s, hk, rfl, hR, hP, hM⟩ := hrel
    have RR := Lib.hid hR
    have PR := Lib.hid hP
    have MR := Lib.hid hM
    have MW := Lib.hid (M3.out.trans' hM (fun b hb => .inr (by have := BL.out b hb; omega)))
    have U5 := Lib.hid (hM.blk V5.out (fun hb => by have := BL.out _ hb; omega))
    have U3 := Lib.hid (hM.blk V3.out (fun hb => by have := BL.out _ hb; omega))
    have U4 := Lib.hid (hM.blk V4.out (fun hb => by have := BL.out _ hb; omega))
    clear hR hP hM P3
    by_cases hlt : k < n
    · obtain ⟨q, hq⟩ : ∃ q, UInt8.ofNat (97 + k) = q := ⟨_, rfl⟩
      have hnk : nk k = [q] := by unfold nk; rw [hq]
      have hqn : q.toNat = 97 + k := by rw [← hq, UInt8.toNat_ofNat']; omega
      have HQ := Lib.hid (vb_one hqn)
      have CN := Lib.hid (fun W : World => Cell.new_any (k : Int) 0 W)
      simp only [fresh, Cell.val] at CN
      have hpp := RR.out.putP (show k < 16 by omega) (by omega) (stopCell k)
      have RN := Lib.hid (RR.out.next (show k < 16 by omega) (by omega))
      have PU := Lib.hid (fun (W : World) (hW : Mod [] wr W) => put_at (s := s) (PR.out.mod hW (by simp)) (nk k) (by rw [hnk]; simp) (stopCell k) (fresh_ok (i64_small (by omega) (by omega)) (i64_small (by decide) (by decide))))
      have h1 : (Pool.putP s (nk k) (stopCell k)).1 = some k := by rw [hpp]
      obtain ⟨rs, hrs⟩ : ∃ rs, Pool.putP s (nk k) (stopCell k) = rs := ⟨_, rfl⟩
      rw [hrs] at PU RN h1
      have hca : cellAt B rs.1 = .pointer (some ⟨B.cb, k * 4, none⟩) := by rw [h1]; rfl
      unfold PutPost at PU
      rw [hca, hnk] at PU
      simp only [stopCell, fresh, Cell.val] at PU
      have z5 := U5.out.cell (i := 0) rfl
      clear hq hnk hqn hpp h1 hrs hca
      go_wp2_with fail
      have S0 := Lib.hid (Blk.new wr.drew [.int .u8 (97 + (k : Int))] 5)
      have A0 := Lib.hid ((Mod.refl [] wr).drew.alloc (.cells #[.int .u8 (97 + (k : Int))] 5))
      have z5a := (U5.out.alloc (.cells #[.int .u8 (97 + (k : Int))] 5)).cell (i := 0) rfl
      refine wp_region_sched (by kernel_rfl) fun S => ?_
      rcases before_or 4 7 S with q1 | q1
      · rcases before_or 5 7 S with q2 | q2
        · rcases before_or 0 4 S with q3 | q3
          · refine ⟨[(4, 7), (5, 7), (0, 4)], by simp, by simp [q1, q2, q3], any_of_walk (L := [0, 1, 2, 3, 4, 5, 6, 7, 8, 9]) (by kernel_rfl) ?_⟩
            simp only [edges, edge, pick, List.drop_succ_cons, List.drop_zero, List.take_succ_cons, List.take_zero, List.cons_append, List.nil_append]
            have SA : Hid (Blk (wr.alloc (.cells #[.int .u8 (97 + (k : Int))] 5)) wr.heap.size 5 (vb [q])) := Lib.hid (by rw [HQ.out]; exact S0.out)
            have cv := str_one SA.out
            have cvd := str_one SA.out.drew
            go_wp2_with fail
            refine (CN.out _).mono ?_
            rintro e4 w4 ⟨rfl, hM4⟩
            have M5 := Lib.hid (A0.out.trans hM4)
            have z54 := (M5.out.blk U5.out (by simp)).cell (i := 0) rfl
            have cv4 := str_one (hM4.blk SA.out (by simp))
            clear hM4
            go_wp2_with fail
            refine (PU.out _ M5.out).mono ?_
            rintro e6 w6 ⟨rfl, hP6, hM6⟩
            have P6 := Lib.hid hP6
            have M6 := Lib.hid hM6
            clear hP6 hM6
            go_wp2_with fail
            refine ⟨by kernel_rfl, ?_⟩
            go_wp2_with fail
            go_roundw
            case rel => exact ⟨k + 1, rs.2, by omega, by go_num, RN.out, P6.out, (MR.out.trans (M5.out.mono (by simp))).trans M6.out⟩
            case measure => simp [intOf]; omega
          · rcases before_or 0 7 S with q4 | q4
            · refine ⟨[(4, 7), (5, 7), (4, 0), (0, 7)], by simp, by simp [q1, q2, q3, q4], any_of_walk (L := [1, 2, 3, 4, 0, 5, 6, 7, 8, 9]) (by kernel_rfl) ?_⟩
              simp only [edges, edge, pick, List.drop_succ_cons, List.drop_zero, List.take_succ_cons, List.take_zero, List.cons_append, List.nil_append]
              have SA : Hid (Blk (wr.alloc (.cells #[.int .u8 (97 + (k : Int))] 5)) wr.heap.size 5 (vb [q])) := Lib.hid (by rw [HQ.out]; exact S0.out)
              have cv := str_one SA.out
              have cvd := str_one SA.out.drew
              go_wp2_with fail
              refine (CN.out _).mono ?_
              rintro e4 w4 ⟨rfl, hM4⟩
              have M5 := Lib.hid (A0.out.trans hM4)
              have z54 := (M5.out.blk U5.out (by simp)).cell (i := 0) rfl
              have cv4 := str_one (hM4.blk SA.out (by simp))
              clear hM4
              go_wp2_with fail
              refine (PU.out _ M5.out).mono ?_
              rintro e6 w6 ⟨rfl, hP6, hM6⟩
              have P6 := Lib.hid hP6
              have M6 := Lib.hid hM6
              clear hP6 hM6
              go_wp2_with fail
              refine ⟨by kernel_rfl, ?_⟩
              go_wp2_with fail
              go_roundw
              case rel => exact ⟨k + 1, rs.2, by omega, by go_num, RN.out, P6.out, (MR.out.trans (M5.out.mono (by simp))).trans M6.out⟩
              case measure => simp [intOf]; omega
            · refine ⟨[(4, 7), (5, 7), (7, 0)], by simp, by simp [q1, q2, q4], any_of_walk (L := [1, 2, 3, 4, 5, 6, 7, 0, 8, 9]) (by kernel_rfl) ?_⟩
              simp only [edges, edge, pick, List.drop_succ_cons, List.drop_zero, List.take_succ_cons, List.take_zero, List.cons_append, List.nil_append]
              have SA : Hid (Blk (wr.alloc (.cells #[.int .u8 (97 + (k : Int))] 5)) wr.heap.size 5 (vb [q])) := Lib.hid (by rw [HQ.out]; exact S0.out)
              have cv := str_one SA.out
              have cvd := str_one SA.out.drew
              go_wp2_with fail
              refine (CN.out _).mono ?_
              rintro e4 w4 ⟨rfl, hM4⟩
              have M5 := Lib.hid (A0.out.trans hM4)
              have z54 := (M5.out.blk U5.out (by simp)).cell (i := 0) rfl
              have cv4 := str_one (hM4.blk SA.out (by simp))
              clear hM4
              go_wp2_with fail
              refine (PU.out _ M5.out).mono ?_
              rintro e6 w6 ⟨rfl, hP6, hM6⟩
              have P6 := Lib.hid hP6
              have M6 := Lib.hid hM6
              clear hP6 hM6
              go_wp2_with fail
              refine ⟨by kernel_rfl, ?_⟩
              go_wp2_with fail
              go_roundw
              case rel => exact ⟨k + 1, rs.2, by omega, by go_num, RN.out, P6.out, (MR.out.trans (M5.out.mono (by simp))).trans M6.out⟩
              case measure => simp [intOf]; omega
        · rcases before_or 0 4 S with q3 | q3
          · refine ⟨[(4, 7), (7, 5), (0, 4)], by simp, by simp [q1, q2, q3], any_of_walk (L := [0, 1, 2, 3, 4, 6, 7, 5, 8, 9]) (by kernel_rfl) ?_⟩
            simp only [edges, edge, pick, List.drop_succ_cons, List.drop_zero, List.take_succ_cons, List.take_zero, List.cons_append, List.nil_append]
            have SA : Hid (Blk (wr.alloc (.cells #[.int .u8 (97 + (k : Int))] 5)) wr.heap.size 5 (vb [q])) := Lib.hid (by rw [HQ.out]; exact S0.out)
            have cv := str_one SA.out
            have cvd := str_one SA.out.drew
            go_wp2_with fail
            refine (CN.out _).mono ?_
            rintro e4 w4 ⟨rfl, hM4⟩
            have M5 := Lib.hid (A0.out.trans hM4)
            have z54 := (M5.out.blk U5.out (by simp)).cell (i := 0) rfl
            have cv4 := str_one (hM4.blk SA.out (by simp))
            clear hM4
            go_wp2_with fail
            refine (PU.out _ M5.out).mono ?_
            rintro e6 w6 ⟨rfl, hP6, hM6⟩
            have P6 := Lib.hid hP6
            have M6 := Lib.hid hM6
            clear hP6 hM6
            go_wp2_with fail
            refine ⟨by kernel_rfl, ?_⟩
            go_wp2_with fail
            go_roundw
            case rel => exact ⟨k + 1, rs.2, by omega, by go_num, RN.out, P6.out, (MR.out.trans (M5.out.mono (by simp))).trans M6.out⟩
            case measure => simp [intOf]; omega
          · rcases before_or 0 7 S with q4 | q4
            · refine ⟨[(4, 7), (7, 5), (4, 0), (0, 7)], by simp, by simp [q1, q2, q3, q4], any_of_walk (L := [1, 2, 3, 4, 0, 6, 7, 5, 8, 9]) (by kernel_rfl) ?_⟩
              simp only [edges, edge, pick, List.drop_succ_cons, List.drop_zero, List.take_succ_cons, List.take_zero, List.cons_append, List.nil_append]
              have SA : Hid (Blk (wr.alloc (.cells #[.int .u8 (97 + (k : Int))] 5)) wr.heap.size 5 (vb [q])) := Lib.hid (by rw [HQ.out]; exact S0.out)
              have cv := str_one SA.out
              have cvd := str_one SA.out.drew
              go_wp2_with fail
              refine (CN.out _).mono ?_
              rintro e4 w4 ⟨rfl, hM4⟩
              have M5 := Lib.hid (A0.out.trans hM4)
              have z54 := (M5.out.blk U5.out (by simp)).cell (i := 0) rfl
              have cv4 := str_one (hM4.blk SA.out (by simp))
              clear hM4
              go_wp2_with fail
              refine (PU.out _ M5.out).mono ?_
              rintro e6 w6 ⟨rfl, hP6, hM6⟩
              have P6 := Lib.hid hP6
              have M6 := Lib.hid hM6
              clear hP6 hM6
              go_wp2_with fail
              refine ⟨by kernel_rfl, ?_⟩
              go_wp2_with fail
              go_roundw
              case rel => exact ⟨k + 1, rs.2, by omega, by go_num, RN.out, P6.out, (MR.out.trans (M5.out.mono (by simp))).trans M6.out⟩
              case measure => simp [intOf]; omega
            · refine ⟨[(4, 7), (7, 5), (7, 0)], by simp, by simp [q1, q2, q4], any_of_walk (L := [1, 2, 3, 4, 6, 7, 0, 5, 8, 9]) (by kernel_rfl) ?_⟩
              simp only [edges, edge, pick, List.drop_succ_cons, List.drop_zero, List.take_succ_cons, List.take_zero, List.cons_append, List.nil_append]
              have SA : Hid (Blk (wr.alloc (.cells #[.int .u8 (97 + (k : Int))] 5)) wr.heap.size 5 (vb [q])) := Lib.hid (by rw [HQ.out]; exact S0.out)
              have cv := str_one SA.out
              have cvd := str_one SA.out.drew
              go_wp2_with fail
              refine (CN.out _).mono ?_
              rintro e4 w4 ⟨rfl, hM4⟩
              have M5 := Lib.hid (A0.out.trans hM4)
              have z54 := (M5.out.blk U5.out (by simp)).cell (i := 0) rfl
              have cv4 := str_one (hM4.blk SA.out (by simp))
              clear hM4
              go_wp2_with fail
              refine (PU.out _ M5.out).mono ?_
              rintro e6 w6 ⟨rfl, hP6, hM6⟩
              have P6 := Lib.hid hP6
              have M6 := Lib.hid hM6
              clear hP6 hM6
              go_wp2_with fail
              refine ⟨by kernel_rfl, ?_⟩
              go_wp2_with fail
              go_roundw
              case rel => exact ⟨k + 1, rs.2, by omega, by go_num, RN.out, P6.out, (MR.out.trans (M5.out.mono (by simp))).trans M6.out⟩
              case measure => simp [intOf]; omega
      · rcases before_or 0 7 S with q4 | q4
        · refine ⟨[(7, 4), (0, 7)], by simp, by simp [q1, q4], any_of_walk (L := [0, 1, 2, 3, 6, 7, 4, 5, 8, 9]) (by kernel_rfl) ?_⟩
          simp only [edges, edge, pick, List.drop_succ_cons, List.drop_zero, List.take_succ_cons, List.take_zero, List.cons_append, List.nil_append]
          go_wp2_with fail
          refine (CN.out _).mono ?_
          rintro e4 w4 ⟨rfl, hM4⟩
          have N4 := Lib.hid ((Mod.refl [] wr).drew.trans hM4)
          have M5 := Lib.hid (N4.out.alloc (.cells #[.int .u8 (97 + (k : Int))] 5))
          have z54 := (N4.out.blk U5.out (by simp)).cell (i := 0) rfl
          have z55 := (M5.out.blk U5.out (by simp)).cell (i := 0) rfl
          have SA : Hid (Blk (w4.alloc (.cells #[.int .u8 (97 + (k : Int))] 5)) w4.heap.size 5 (vb [q])) := Lib.hid (by rw [HQ.out]; exact Blk.new w4 _ _)
          have cv := str_one SA.out
          clear hM4
          go_wp2_with fail
          refine (PU.out _ M5.out).mono ?_
          rintro e6 w6 ⟨rfl, hP6, hM6⟩
          have P6 := Lib.hid hP6
          have M6 := Lib.hid hM6
          clear hP6 hM6
          go_wp2_with fail
          refine ⟨by kernel_rfl, ?_⟩
          go_wp2_with fail
          go_roundw
          case rel => exact ⟨k + 1, rs.2, by omega, by go_num, RN.out, P6.out, (MR.out.trans (M5.out.mono (by simp))).trans M6.out⟩
          case measure => simp [intOf]; omega
        · rcases before_or 0 4 S with q3 | q3
          · refine ⟨[(7, 4), (7, 0), (0, 4)], by simp, by simp [q1, q4, q3], any_of_walk (L := [1, 2, 3, 6, 7, 0, 4, 5, 8, 9]) (by kernel_rfl) ?_⟩
            simp only [edges, edge, pick, List.drop_succ_cons, List.drop_zero, List.take_succ_cons, List.take_zero, List.cons_append, List.nil_append]
            go_wp2_with fail
            refine (CN.out _).mono ?_
            rintro e4 w4 ⟨rfl, hM4⟩
            have N4 := Lib.hid ((Mod.refl [] wr).drew.trans hM4)
            have M5 := Lib.hid (N4.out.alloc (.cells #[.int .u8 (97 + (k : Int))] 5))
            have z54 := (N4.out.blk U5.out (by simp)).cell (i := 0) rfl
            have z55 := (M5.out.blk U5.out (by simp)).cell (i := 0) rfl
            have SA : Hid (Blk (w4.alloc (.cells #[.int .u8 (97 + (k : Int))] 5)) w4.heap.size 5 (vb [q])) := Lib.hid (by rw [HQ.out]; exact Blk.new w4 _ _)
            have cv := str_one SA.out
            clear hM4
            go_wp2_with fail
            refine (PU.out _ M5.out).mono ?_
            rintro e6 w6 ⟨rfl, hP6, hM6⟩
            have P6 := Lib.hid hP6
            have M6 := Lib.hid hM6
            clear hP6 hM6
            go_wp2_with fail
            refine ⟨by kernel_rfl, ?_⟩
            go_wp2_with fail
            go_roundw
            case rel => exact ⟨k + 1, rs.2, by omega, by go_num, RN.out, P6.out, (MR.out.trans (M5.out.mono (by simp))).trans M6.out⟩
            case measure => simp [intOf]; omega
          · refine ⟨[(7, 4), (4, 0)], by simp, by simp [q1, q3], any_of_walk (L := [1, 2, 3, 6, 7, 4, 5, 0, 8, 9]) (by kernel_rfl) ?_⟩
            simp only [edges, edge, pick, List.drop_succ_cons, List.drop_zero, List.take_succ_cons, List.take_zero, List.cons_append, List.nil_append]
            go_wp2_with fail
            refine (CN.out _).mono ?_
            rintro e4 w4 ⟨rfl, hM4⟩
            have N4 := Lib.hid ((Mod.refl [] wr).drew.trans hM4)
            have M5 := Lib.hid (N4.out.alloc (.cells #[.int .u8 (97 + (k : Int))] 5))
            have z54 := (N4.out.blk U5.out (by simp)).cell (i := 0) rfl
            have z55 := (M5.out.blk U5.out (by simp)).cell (i := 0) rfl
            have SA : Hid (Blk (w4.alloc (.cells #[.int .u8 (97 + (k : Int))] 5)) w4.heap.size 5 (vb [q])) := Lib.hid (by rw [HQ.out]; exact Blk.new w4 _ _)
            have cv := str_one SA.out
            clear hM4
            go_wp2_with fail
            refine (PU.out _ M5.out).mono ?_
            rintro e6 w6 ⟨rfl, hP6, hM6⟩
            have P6 := Lib.hid hP6
            have M6 := Lib.hid hM6
            clear hP6 hM6
            go_wp2_with fail
            refine ⟨by kernel_rfl, ?_⟩
            go_wp2_with fail
            go_roundw
            case rel => exact ⟨k + 1, rs.2, by omega, by go_num, RN.out, P6.out, (MR.out.trans (M5.out.mono (by simp))).trans M6.out⟩
            case measure => simp [intOf]; omega
    · obtain rfl : k = n := by omega
      have PA := Lib.hid (PR.out.mod ((Mod.refl [] wr).alloc (.cells #[.int .i64 0] 3)) (by simp))
      have A5 := Lib.hid (U5.out.alloc (.cells #[.int .i64 0] 3))
      have A3 := Lib.hid (U3.out.alloc (.cells #[.int .i64 0] 3))
      have A4 := Lib.hid (U4.out.alloc (.cells #[.int .i64 0] 3))
      have A7 := Lib.hid (Blk.new wr [.int .i64 0] 3)
      have MA := Lib.hid (MW.out.alloc (.cells #[.int .i64 0] 3))
      have z5 := A5.out.cell (i := 0) rfl
      have hs3 := MR.out.size
      have hz3 := M3.out.size
      go_wp2_with fail
      obtain ⟨b7, hb7⟩ : ∃ b7, wr.heap.size = b7 := ⟨_, rfl⟩
      obtain ⟨w8, hw8⟩ : ∃ w8, wr.alloc (.cells #[.int .i64 0] 3) = w8 := ⟨_, rfl⟩
      have hs8 : w8.heap.size = b7 + 1 := by rw [← hw8, ← hb7]; simp
      rw [hw8] at PA A5 A3 A4 A7 MA
      rw [hb7] at A7 hs3
      rw [hw8]
      have hb57 : b5 < b7 := Nat.lt_of_lt_of_le V5.out.lt hs3
      have hw7 : w.heap.size + 1 < b7 := by rw [← hb7]; exact U4.out.lt
      clear hw8 z5
      refine wp_range (Kp := Under w8.heap.size [b7]) (encs := encP) (xs := rowL k stopCell) rfl (enters_of Try.func11 (by kernel_rfl) rfl)
        (by rw [← RR.out.pairs (by omega)]; exact all_iter PA.out (fun A A' hA hK b hb => hK.block b (PA.out.lt b hb) (by simp; have := BL.out b hb; omega)))
        (fun h k => h.trans k) (fun h => h.mono (by simp)) (fun _ => rfl)
        (fun pre W => Mod [b7] w8 W ∧ Blk W b7 3 [.int .i64 (pre.length : Int)])
        (fun c pre W => c = .exit 2 ∧ Mod [b7] w8 W ∧ Blk W b7 3 [.int .i64 stop])
        ?hI ?hIx ⟨Mod.refl _ _, A7.out⟩ ?round ?done ?stop
      case hI => exact fun pre A B' h hu => ⟨mod_under h.1 hu, blk_under h.2 hu (by omega)⟩
      case hIx => exact fun c pre A B' h hu => ⟨h.1, mod_under h.2.1 hu, blk_under h.2.2 hu (by omega)⟩
      case round =>
        rintro l pre x W hl1 hl2 ⟨hM, hB⟩ ⟨post, hx⟩
        obtain ⟨hj, rfl⟩ := rowL_split hx
        have MW2 := Lib.hid hM
        have hWs := hM.size
        obtain ⟨j, hjj⟩ : ∃ j, pre.length = j := ⟨_, rfl⟩
        rw [hjj] at hj hB ⊢
        have HJ := Lib.hid hjj
        have HX := Lib.hid hx
        obtain ⟨q, hq⟩ : ∃ q, UInt8.ofNat (97 + j) = q := ⟨_, rfl⟩
        have hnk : nk j = [q] := by unfold nk; rw [hq]
        have hqn : q.toNat = 97 + j := by rw [← hq, UInt8.toNat_ofNat']; omega
        have HQ := Lib.hid (vb_one hqn)
        have hput := RR.out.put j hj
        have hpl : placeOf s.S [q] = some j := placeOf_there PA.out.idx.uniq (by rw [← hnk]; exact hput.1)
        have N9 := Lib.hid (Blk.new W [.int .i64 (j : Int), .int .i64 (j : Int), .int .i64 0, .int .i64 0] 32)
        have D9 := Lib.hid ((Mod.refl [] W).alloc (.cells #[.int .i64 (j : Int), .int .i64 (j : Int), .int .i64 0, .int .i64 0] 32))
        have B7 := Lib.hid hB
        have HP := Lib.hid hpl
        have HC := Lib.hid hput.2
        simp only [encP, hnk, stopCell, fresh, Cell.val]
        clear hjj hx hnk hqn hq hB hM hput hpl
        gi_wp2
        refine ⟨Over.of_mod D9.out (by simp), Under.of_mod (D9.out.mono (by simp)) hWs, fun o => ?_⟩
        obtain ⟨W2, hW2⟩ : ∃ W2, (W.alloc (.cells #[.int .i64 (j : Int), .int .i64 (j : Int), .int .i64 0, .int .i64 0] 32)).putObj l o = W2 := ⟨_, rfl⟩
        have M2 : Hid (Mod [l] (W.alloc (.cells #[.int .i64 (j : Int), .int .i64 (j : Int), .int .i64 0, .int .i64 0] 32)) W2) := Lib.hid (by rw [← hW2]; exact mod_putObj _ _ _)
        have C7 := Lib.hid (M2.out.blk (B7.out.alloc _) (by simp; omega))
        have C9 := Lib.hid (M2.out.blk N9.out (by simp; omega))
        have MW3 := Lib.hid ((MW2.out.trans (D9.out.mono (by simp))).trans' M2.out (fun b hb => .inr (by simp at hb; omega)))
        rw [hW2]
        have hs2 := MW3.out.size
        clear hW2
        obtain ⟨bS, hbS⟩ : ∃ bS, ((j : Int) == stop) = bS := ⟨_, rfl⟩
        have c7 := C7.out.cell (i := 0) rfl
        have c3 := (MW3.out.blk A3.out (by simp; omega)).cell (i := 0) rfl
        cases bS with
        | true =>
          gi_wp2
          refine ⟨Over.refl _ _, rfl, MW3.out, ?_⟩
          have := C7.out
          rw [show (j : Int) = stop by simpa using hbS] at this
          exact this
        | false =>
          gi_wp2
          refine wpIn_region_held [17] [20] [] (by kernel_rfl) (by kernel_rfl) ?hno (by kernel_rfl) ?_
          case hno => rintro ⟨a0, w0, h⟩; exact h
          simp only [wpCut, List.take_succ_cons, List.take_zero, List.drop_succ_cons, List.drop_zero, List.cons_append, List.nil_append]
          clear hbS c7 c3
          have SA : Hid (Blk (W2.alloc (.cells #[.int .u8 (97 + (j : Int))] 5)) W2.heap.size 5 (vb [q])) := Lib.hid (by rw [HQ.out]; exact Blk.new W2 _ _)
          have A0 := Lib.hid (((Mod.refl [] W2).alloc (.cells #[.int .u8 (97 + (j : Int))] 5)).drew)
          have cv := str_one SA.out
          have cvd := str_one SA.out.drew
          have M8 := Lib.hid (MW3.out.trans (A0.out.mono (by simp)))
          have c7 := C7.out.drew.cell (i := 0) rfl
          have c7a := (A0.out.blk C7.out (by simp)).cell (i := 0) rfl
          have c9 := (A0.out.blk C9.out (by simp)).cell (i := 1) rfl
          have c5 := (M8.out.blk A5.out (by simp; omega)).cell (i := 0) rfl
          have P8 := Lib.hid (PA.out.mod M8.out (fun b hb => by have := BL.out b hb; simp; omega))
          have FN := Lib.hid (Pool.find_any P8.out [q] (by simp))
          rw [HP.out, show cellAt B (some j) = .pointer (some ⟨B.cb, j * 4, none⟩) from rfl] at FN
          go_wp2_with fail
          refine (FN.out).mono ?_
          rintro e4 w4 ⟨rfl, hM4⟩
          have M9 := Lib.hid (A0.out.trans hM4)
          have MD : Hid (Mod [] W2.drew w4) := Lib.hid (((Mod.refl [] W2.drew).alloc (.cells #[.int .u8 (97 + (j : Int))] 5)).trans hM4)
          have P9 := Lib.hid (P8.out.mod hM4 (by simp))
          clear hM4 cv cvd c7 c7a c9 c5
          have o1 := (cel4 P9.out.cel HC.out).2.1
          have d7 := (M9.out.blk C7.out (by simp)).cell (i := 0) rfl
          simp only [stopCell, fresh] at o1
          go_wp2_with fail
          refine ⟨MD.out, ?_⟩
          go_wp2_with fail
          refine ⟨by kernel_rfl, ⟨⟨by simp, isC_of_blk C7.out⟩, trivial⟩, ?_⟩
          have D7 := Lib.hid (M9.out.blk C7.out (by simp))
          have f7 := D7.out.free 0
          have hb7l : b7 < w4.heap.size := D7.out.lt
          clear o1
          gi_wp2
          have MS : Hid (Mod [b7] w4 (w4.setCell ⟨b7, 0, none⟩ (.int .i64 ((j : Int) + 1)))) := Lib.hid ((Mod.refl [b7] w4).setCell (.inl (by simp)) _)
          have M10 := Lib.hid ((M9.out.mono (by simp)).trans MS.out)
          refine ⟨Over.of_mod M10.out (by simp; omega), Under.of_mod M10.out hs2, MW3.out.trans M10.out, ?_⟩
          have := D7.out.set 0 (.int .i64 ((j : Int) + 1))
          rw [List.length_append, HJ.out]
          simpa using this
      case done =>
        rintro D W hD ⟨hM, hB⟩ hK
        have hlen : (rowL k stopCell).length = k := by simp [rowL]
        rw [hlen] at hB
        have MW9 := Lib.hid hM
        have HK := Lib.hid hK
        have r7 := hB.cell (i := 0) rfl
        have R4 := Lib.hid (hM.blk A4.out (by simp; omega))
        have f4 := R4.out.free 0
        have g4 := R4.out.cell (i := 0) rfl
        clear hM hK hlen
        go_wp2_with fail
        have S4 : Blk (W.setCell ⟨w.heap.size + 1, 0, none⟩ (.bool true)) (w.heap.size + 1) 4 [.bool true] := R4.out.set 0 _
        have MS := ((Mod.refl [w.heap.size + 1] W).setCell (p := ⟨w.heap.size + 1, 0, none⟩) (.inl (by simp)) (.bool true))
        have KS := MS.heap HK.out (by simp; omega)
        generalize W.setCell ⟨w.heap.size + 1, 0, none⟩ (.bool true) = W3 at *
        have E4 := putObj_blk (o' := .deferred none) S4 KS rfl
        have ME : Mod [] w (W3.putObj D (.deferred none)) := putObj_mod (((MA.out.trans' MW9.out (fun b hb => .inr (by simp at hb; omega)))).trans' MS (fun b hb => .inr (by simp at hb; omega))) (D := D) (by omega) (.deferred none)
        have r4 := E4.cell (i := 0) rfl
        refine leave1 KS (v := .bool true) (by simp [results, Try.results3, go_sem, r4]) ⟨rfl, ME⟩
      case stop =>
        rintro D c pre x post W hD hx ⟨rfl, hM, hB⟩ hK
        have MW9 := Lib.hid hM
        have HK := Lib.hid hK
        have r7 := hB.cell (i := 0) rfl
        have R4 := Lib.hid (hM.blk A4.out (by simp; omega))
        have R3 := Lib.hid (hM.blk A3.out (by simp; omega))
        have r3 := R3.out.cell (i := 0) rfl
        have f4 := R4.out.free 0
        have g4 := R4.out.cell (i := 0) rfl
        obtain ⟨bk, hbk⟩ : ∃ bk, (stop == (k : Int)) = bk := ⟨_, rfl⟩
        clear hM hK hx
        cases bk with
        | true =>
          obtain rfl : stop = (k : Int) := by simpa using hbk
          clear hbk
          go_wp2_with fail
          have S4 : Blk (W.setCell ⟨w.heap.size + 1, 0, none⟩ (.bool true)) (w.heap.size + 1) 4 [.bool true] := R4.out.set 0 _
          have MS := ((Mod.refl [w.heap.size + 1] W).setCell (p := ⟨w.heap.size + 1, 0, none⟩) (.inl (by simp)) (.bool true))
          have KS := MS.heap HK.out (by simp; omega)
          generalize W.setCell ⟨w.heap.size + 1, 0, none⟩ (.bool true) = W3 at *
          have E4 := putObj_blk (o' := .deferred none) S4 KS rfl
          have ME : Mod [] w (W3.putObj D (.deferred none)) := putObj_mod (((MA.out.trans' MW9.out (fun b hb => .inr (by simp at hb; omega)))).trans' MS (fun b hb => .inr (by simp at hb; omega))) (D := D) (by omega) (.deferred none)
          have r4 := E4.cell (i := 0) rfl
          refine leave1 KS (v := .bool true) (by simp [results, Try.results3, go_sem, r4]) ⟨rfl, ME⟩
        | false =>
          go_wp2_with fail
          have S4 : Blk (W.setCell ⟨w.heap.size + 1, 0, none⟩ (.bool true)) (w.heap.size + 1) 4 [.bool true] := R4.out.set 0 _
          have MS := ((Mod.refl [w.heap.size + 1] W).setCell (p := ⟨w.heap.size + 1, 0, none⟩) (.inl (by simp)) (.bool true))
          have KS := MS.heap HK.out (by simp; omega)
          generalize W.setCell ⟨w.heap.size + 1, 0, none⟩ (.bool true) = W3 at *
          have E4 := putObj_blk (o' := .deferred none) S4 KS rfl
          have ME : Mod [] w (W3.putObj D (.deferred none)) := putObj_mod (((MA.out.trans' MW9.out (fun b hb => .inr (by simp at hb; omega)))).trans' MS (fun b hb => .inr (by simp at hb; omega))) (D := D) (by omega) (.deferred none)
          have r4 := E4.cell (i := 0) rfl
          refine leave1 KS (v := .bool true) (by simp [results, Try.results3, go_sem, r4]) ⟨rfl, ME⟩
end Go.Proofs.Ytajadfoannmaiaa.Pool
