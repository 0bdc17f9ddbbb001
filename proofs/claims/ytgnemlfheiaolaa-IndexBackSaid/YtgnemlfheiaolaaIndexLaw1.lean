/- index's laws: IndexAlike. -/
import Derived.Test.YtgnemlfheiaolaaIndex5
import Derived.Test.YtgnemlfheiaolaaArrArg
namespace Go.Proofs.Ytgnemlfheiaolaa.Index
open Go Go.RowKit Go.YtgnemlfheiaolaaMem Go.YtgnemlfheiaolaaLex Go.Proofs.Ytgnemlfheiaolaa.Hash Go.Proofs.Ytgnemlfheiaolaa.Keys Go.Proofs.Ytgnemlfheiaolaa.Probe
set_option linter.unusedVariables false
set_option linter.unusedSimpArgs false

/-- All is below n. -/
def Small (n : Nat) (S : List (Option (List UInt8))) (fl : List Nat) : Prop := S.length = n ∧ ∀ i, i ∈ fl → i < n
theorem small_put {n : Nat} {S : List (Option (List UInt8))} {fl : List Nat} (h : Small n S fl) (key : List UInt8) : Small n (putS S fl key).2.1 (putS S fl key).2.2 ∧ -1 ≤ (putS S fl key).1 ∧ (putS S fl key).1 < n := by
  obtain ⟨h1, h2⟩ := h
  unfold putS
  split
  · rename_i j fl' _
    split
    · have hj := h2 j (by simp)
      exact ⟨⟨by simp [h1], fun i hi => h2 i (by simp [hi])⟩, by simp only; omega, by simp only; omega⟩
    · exact ⟨⟨h1, h2⟩, by simp only; omega, by simp only; omega⟩
  · exact ⟨⟨h1, h2⟩, by simp only; omega, by simp only; omega⟩
theorem place_lt2 {S : List (Option (List UInt8))} {key : List UInt8} {p : Nat} (h : placeOf S key = some p) : p < S.length := (List.getElem?_eq_some_iff.1 (placeOf_get h)).1
theorem small_rem {n : Nat} {S : List (Option (List UInt8))} {fl : List Nat} (h : Small n S fl) (key : List UInt8) : Small n (remS S fl key).2.1 (remS S fl key).2.2 ∧ -1 ≤ (remS S fl key).1 ∧ (remS S fl key).1 < n := by
  obtain ⟨h1, h2⟩ := h
  unfold remS
  split
  · rename_i p hp
    have := place_lt2 hp
    refine ⟨⟨by simp [h1], fun i hi => ?_⟩, by simp only; omega, by simp only; omega⟩
    rcases List.mem_cons.1 hi with rfl | hi
    · omega
    · exact h2 i hi
  · exact ⟨⟨h1, h2⟩, by simp only; omega, by simp only; omega⟩
theorem small_find {n : Nat} {S : List (Option (List UInt8))} {fl : List Nat} (h : Small n S fl) (key : List UInt8) : -1 ≤ optInt (placeOf S key) ∧ optInt (placeOf S key) < n := by
  cases hp : placeOf S key with
  | none => simp only [optInt]; omega
  | some p => have := place_lt2 hp; have := h.1; simp only [optInt]; omega
theorem kind_of (z : Int) : ∃ t : Int, z.tmod 3 = t ∧ -3 < t ∧ t < 3 ∧ ((t + 3).tmod 3 = 0 ∨ (t + 3).tmod 3 = 1 ∨ (t + 3).tmod 3 = 2) := by
  have h1 : -3 < z.tmod 3 := by have := Int.lt_tmod_of_pos z (show (0 : Int) < 3 by omega); omega
  have h2 := Int.tmod_lt_of_pos z (show (0 : Int) < 3 by omega)
  refine ⟨z.tmod 3, rfl, h1, h2, ?_⟩
  rw [Int.tmod_eq_emod_of_nonneg (by omega)]
  omega
theorem range_small (n : Nat) : Small n (emp n) (List.range n) := ⟨by simp [emp], fun i hi => List.mem_range.1 hi⟩

theorem find_puts {w : World} {x g : Nat} {L : List Nat} {r : Row} {S : List (Option (List UInt8))} {fl : List Nat} (h : IdxAt w x g L r S fl) (key : List UInt8) (hl : key.length ≤ 1000000) :
    Calls Try.prog 13 #[.pointer (some ⟨x, 0, none⟩), .string ⟨key.toArray⟩] w fun e w' => e = .returned (.int .i64 (optInt (placeOf S key))) ∧ IdxAt w' x g L r S fl ∧ Mod L w w' :=
  (find_any h key hl).mono fun e w' ⟨h1, h2⟩ => ⟨h1, h.mod h2 (by simp), h2.mono (by simp)⟩
set_option maxRecDepth 8000 in
set_option maxHeartbeats 6400000 in
theorem alike_main (w : World) (a0 a1 a2 a3 a4 a5 : Nat) (ha : ∀ x ∈ [a0, a1, a2, a3, a4, a5], x < 18446744073709551616) (a : Option Addr) (cp : Nat) (l : List (Int × List UInt8)) (hP : InKT w a l) (hl : l.length ≤ 150) :
    Calls Try.prog 3 #[.agg #[.int .u64 (a0 : Int), .int .u64 (a1 : Int), .int .u64 (a2 : Int), .int .u64 (a3 : Int), .int .u64 (a4 : Int), .int .u64 (a5 : Int)], .slice a l.length cp] w fun e w' => e = .returned (.bool true) ∧ Mod [] w w' := by
  have R1 := Lib.hid (fun W : World => row_any a0 a1 a2 (ha a0 (by simp)) (ha a1 (by simp)) (ha a2 (by simp)) W)
  have R2 := Lib.hid (fun W : World => row_any a3 a4 a5 (ha a3 (by simp)) (ha a4 (by simp)) (ha a5 (by simp)) W)
  have hr1 := rowOf_ok [a0, a1, a2]
  have hr2 := rowOf_ok [a3, a4, a5]
  unfold RowPost v3 at R1 R2
  generalize rowOf [a0, a1, a2] = r1 at *
  generalize rowOf [a3, a4, a5] = r2 at *
  have HR1 := Lib.hid hr1
  have HR2 := Lib.hid hr2
  have HP := Lib.hid hP
  have B0 := Lib.hid (Blk.new w [.int .u64 (a0 : Int), .int .u64 (a1 : Int), .int .u64 (a2 : Int), .int .u64 (a3 : Int), .int .u64 (a4 : Int), .int .u64 (a5 : Int)] 24)
  have d1 : decide ((150 : Int) < l.length) = false := by simp; omega
  clear ha hr1 hr2 hP
  go_enter Try.func3, Try.ntmps3
  go_wp2_with fail
  refine (fit_any _).mono ?_
  rintro e1 w1 ⟨rfl, hM1⟩
  have M1 := Lib.hid (((Mod.refl [] w).alloc (.cells #[.int .u64 (a0 : Int), .int .u64 (a1 : Int), .int .u64 (a2 : Int), .int .u64 (a3 : Int), .int .u64 (a4 : Int), .int .u64 (a5 : Int)] 24)).trans hM1)
  have B1 := Lib.hid (hM1.blk B0.out (by simp))
  have k0 := B1.out.cell (i := 0) rfl
  have k1 := B1.out.cell (i := 1) rfl
  have k2 := B1.out.cell (i := 2) rfl
  have isc : IsC w1.drew w.heap.size := isC_of_cell (w := w1) k0
  have IS := Lib.hid isc
  clear hM1 isc
  go_wp2_with fail
  refine wp_region_held [1, 3, 1, 1] [2, 7] [] (by kernel_rfl) (by kernel_rfl) ?_
  simp only [wpCut, List.take_succ_cons, List.take_zero, List.drop_succ_cons, List.drop_zero, List.cons_append, List.nil_append]
  go_wp2_with fail
  refine (Keys.new_any 6 (by omega) _).mono ?_
  rintro e2 w2 ⟨g, b1, b2, b3, bs, nx, rfl, hS, hg, h1, h2, h3, hM2⟩
  have S2 := Lib.hid hS
  have N2 := Lib.hid hM2
  have M2 := Lib.hid (M1.out.drew.trans hM2)
  have B2 := Lib.hid (hM2.blk B1.out (by simp))
  clear k0 k1 k2 hS hM2
  have k0 := B2.out.cell (i := 0) rfl
  have k1 := B2.out.cell (i := 1) rfl
  have k2 := B2.out.cell (i := 2) rfl
  go_wp2_with fail
  refine ⟨N2.out, ?_⟩
  go_wp2_with fail
  refine (R1.out _).mono ?_
  rintro e3 w3 ⟨rfl, hM3⟩
  have N3 := Lib.hid (N2.out.trans hM3)
  have M3 := Lib.hid (M2.out.trans hM3)
  have S3 := Lib.hid (S2.out.mod hM3 (by simp))
  have B3 := Lib.hid (hM3.blk B2.out (by simp))
  clear k0 k1 k2 hM3
  go_wp2_with fail
  refine ⟨N3.out, ?_⟩
  go_wp2_with fail
  refine (new_at S3.out r1 HR1.out).mono ?_
  rintro e4 w4 ⟨x, L, rfl, hI, hL, hx, hM4⟩
  have N4 := Lib.hid (N3.out.trans hM4)
  have M4 := Lib.hid (M3.out.trans hM4)
  have I4 := Lib.hid hI
  have B4 := Lib.hid (hM4.blk B3.out (by simp))
  have hs1 := M1.out.size
  have hs2 := M2.out.size
  have hs3 := M3.out.size
  have hw1 : w.heap.size < w1.heap.size := B1.out.lt
  have hw2 : w1.drew.heap.size = w1.heap.size := rfl
  have hs3' := N3.out.size
  have L4 : Hid (∀ b, b ∈ L → w.heap.size < b) := Lib.hid fun b hb => by
    rcases hL b hb with h | h
    · simp at h; omega
    · omega
  have hxx : w.heap.size ≤ x := by omega
  clear hI hL hM4
  go_wp2_with fail
  refine ⟨N4.out, ?_⟩
  go_wp2_with fail
  refine (Keys.new_any 6 (by omega) _).mono ?_
  rintro e5 w5 ⟨g', c1, c2, c3, bs', nx', rfl, hS, hg', h1', h2', h3', hM5⟩
  have N5 := Lib.hid (N4.out.trans hM5)
  have M5 := Lib.hid (M4.out.trans hM5)
  have I5 := Lib.hid (I4.out.mod hM5 (by simp))
  have S5 := Lib.hid hS
  have B5 := Lib.hid (hM5.blk B4.out (by simp))
  have hLt := Lib.hid I4.out.lt
  have hs4 := M4.out.size
  have q45 := hM5.size
  clear hS hM5
  have k3 := B5.out.cell (i := 3) rfl
  have k4 := B5.out.cell (i := 4) rfl
  have k5 := B5.out.cell (i := 5) rfl
  go_wp2_with fail
  refine ⟨N5.out, ?_⟩
  go_wp2_with fail
  refine (R2.out _).mono ?_
  rintro e6 w6 ⟨rfl, hM6⟩
  have M6 := Lib.hid (M5.out.trans hM6)
  have I6 := Lib.hid (I5.out.mod hM6 (by simp))
  have S6 := Lib.hid (S5.out.mod hM6 (by simp))
  have q56 := hM6.size
  clear k3 k4 k5 hM6
  go_wp2_with fail
  refine (new_at S6.out r2 HR2.out).mono ?_
  rintro e7 w7 ⟨y, L', rfl, hI, hL, hy, hM7⟩
  have M7 := Lib.hid (M6.out.trans hM7)
  have I7 := Lib.hid (I6.out.mod hM7 (by simp))
  have J7 := Lib.hid hI
  have hs5 := M5.out.size
  have hs6 := M6.out.size
  have h45 : w4.heap.size ≤ w6.heap.size := by omega
  have LL : Hid ((∀ b, b ∈ L → w.heap.size ≤ b) ∧ (∀ b, b ∈ L' → w.heap.size ≤ b) ∧ (∀ b, b ∈ L → b ∉ L') ∧ ∀ b, b ∈ L' → b ∉ L) := by
    have q1 : ∀ b, b ∈ L' → w4.heap.size ≤ b := fun b hb => by
      rcases hL b hb with h | h
      · simp at h; omega
      · omega
    refine Lib.hid ⟨fun b hb => by have := L4.out b hb; omega, fun b hb => by have := q1 b hb; omega, fun b hb hb' => ?_, fun b hb' hb => ?_⟩
    · have := hLt.out b hb; have := q1 b hb'; omega
    · have := hLt.out b hb; have := q1 b hb'; omega
  clear hI hL hM7
  go_wp2_with fail
  refine ⟨by kernel_rfl, ⟨⟨by simp, IS.out⟩, ⟨by simp, IS.out⟩, trivial⟩, ?_⟩
  clear hs1 hs2 hs3 hw1 hw2 hs3' hs4 hs5 hs6 h45 q45 q56 hg h1 h2 h3 hg' h1' h2' h3' hx hy
  go_wp2_with fail
  go_loopw [28] (fun i wr => ∃ (j : Nat) (S : List (Option (List UInt8))) (fl : List Nat), j ≤ l.length ∧ i = .int .i64 (j : Int) ∧ Small 6 S fl ∧ IdxAt wr x g L r1 S fl ∧ IdxAt wr y g' L' r2 S fl ∧ Mod [] w wr) (fun i _ => l.length - (intOf i).toNat)
  case atStart => exact ⟨0, emp 6, List.range 6, Nat.zero_le _, rfl, range_small 6, I7.out, J7.out, M7.out⟩
  case round =>
    clear I7 J7 M7 I6 S6 M6 N5 M5 I5 S5 B5 L4 N4 M4 I4 B4 S3 N3 M3 B3 S2 N2 M2 B2 B1 M1 B0 IS R1 R2 HR1 HR2 hLt
    obtain ⟨j, S, fl, hj, rfl, hSm, hI, hJ, hM⟩ := hrel
    have IR := Lib.hid hI
    have JR := Lib.hid hJ
    have MR := Lib.hid hM
    have SR := Lib.hid hSm
    by_cases hlt : j < l.length
    · obtain ⟨q, hq⟩ : ∃ q, l[j]? = some q := ⟨_, List.getElem?_eq_getElem hlt⟩
      obtain ⟨b, off, rfl, hb, p0, p1⟩ := HP.out j q hq
      obtain ⟨z, key⟩ := q
      have c0 := (hM.cell (a := ⟨b, off + j * 2, none⟩) hb (by simp)).trans p0
      have c1 := (hM.cell (a := ⟨b, off + j * 2 + 1, none⟩) hb (by simp)).trans p1
      simp only at c0 c1
      have hsz : (ByteArray.mk key.toArray).size = key.length := by simp [ByteArray.size]
      obtain ⟨t, ht, ht1, ht2, hk⟩ := kind_of z
      have NB := Lib.hid (Blk.new wr [.int .i64 z, .string ⟨key.toArray⟩] 35)
      have A1 := Lib.hid ((Mod.refl [] wr).alloc (.cells #[.int .i64 z, .string ⟨key.toArray⟩] 35))
      have hnL : wr.heap.size ∉ L ∧ wr.heap.size ∉ L' := ⟨fun h => by have := hI.lt _ h; omega, fun h => by have := hJ.lt _ h; omega⟩
      have HNL := Lib.hid hnL
      clear hSm hI hJ hM p0 p1 hq hb hnL
      by_cases h200 : key.length ≤ 200
      · have d2 : decide ((200 : Int) < key.length) = false := by simp; omega
        rcases hk with hk | hk | hk
        · go_wp2_with fail
          refine wp_region_held [4] [6] L (by kernel_rfl) (by kernel_rfl) ?_
          simp only [wpCut, List.take_succ_cons, List.take_zero, List.drop_succ_cons, List.drop_zero, List.cons_append, List.nil_append]
          go_wp2_with fail
          refine (put_any (IR.out.mod A1.out.drew (by simp)) key (by omega)).mono ?_
          rintro e1 w1 ⟨rfl, hI1, hM1⟩
          have I1 := Lib.hid hI1
          have N1 := Lib.hid hM1
          have NB1 := Lib.hid (hM1.blk NB.out.drew HNL.out.1)
          have k1 := NB1.out.cell (i := 1) rfl
          have J1 := Lib.hid ((JR.out.mod A1.out.drew (by simp)).mod hM1 LL.out.2.2.2)
          have M1 := Lib.hid ((MR.out.trans A1.out).drew.trans' hM1 (fun b hb => .inr (LL.out.1 b hb)))
          have hb1 := (small_put SR.out key).2
          have SM1 := Lib.hid ((small_put SR.out key).1)
          clear hI1 hM1
          go_wp2_with fail
          refine ⟨N1.out, ?_⟩
          have isc : IsC (wr.alloc (.cells #[.int .i64 z, .string ⟨key.toArray⟩] 35)).drew wr.heap.size := isC_of_cell (w := wr.alloc _) (NB.out.cell (i := 1) rfl)
          have IS := Lib.hid isc
          clear isc
          go_wp2_with fail
          refine (put_any J1.out key (by omega)).mono ?_
          rintro e2 w2 ⟨rfl, hJ2, hM2⟩
          have J2 := Lib.hid hJ2
          have I2 := Lib.hid (I1.out.mod hM2 LL.out.2.2.1)
          have M2 := Lib.hid (M1.out.trans' hM2 (fun b hb => .inr (LL.out.2.1 b hb)))
          obtain ⟨v, hv⟩ : ∃ v, (putS S fl key).1 = v := ⟨_, rfl⟩
          rw [hv] at hb1 ⊢
          clear hJ2 hM2 hv k1
          go_wp2_with fail
          refine ⟨by kernel_rfl, ⟨⟨HNL.out.1, IS.out⟩, trivial⟩, ?_⟩
          have e1 : decide (v < -1) = false := by simp; omega
          have e2 : decide ((5 : Int) < v) = false := by simp; omega
          go_wp2_with fail
          go_roundw
          case rel => exact ⟨j + 1, _, _, by omega, by go_num, SM1.out, I2.out, J2.out, M2.out⟩
          case measure => simp [intOf]; omega
        · go_wp2_with fail
          refine wp_region_held [4] [6] L (by kernel_rfl) (by kernel_rfl) ?_
          simp only [wpCut, List.take_succ_cons, List.take_zero, List.drop_succ_cons, List.drop_zero, List.cons_append, List.nil_append]
          go_wp2_with fail
          refine (remove_any (IR.out.mod A1.out.drew (by simp)) key (by omega)).mono ?_
          rintro e1 w1 ⟨rfl, hI1, hM1⟩
          have I1 := Lib.hid hI1
          have N1 := Lib.hid hM1
          have NB1 := Lib.hid (hM1.blk NB.out.drew HNL.out.1)
          have k1 := NB1.out.cell (i := 1) rfl
          have J1 := Lib.hid ((JR.out.mod A1.out.drew (by simp)).mod hM1 LL.out.2.2.2)
          have M1 := Lib.hid ((MR.out.trans A1.out).drew.trans' hM1 (fun b hb => .inr (LL.out.1 b hb)))
          have hb1 := (small_rem SR.out key).2
          have SM1 := Lib.hid ((small_rem SR.out key).1)
          clear hI1 hM1
          go_wp2_with fail
          refine ⟨N1.out, ?_⟩
          have isc : IsC (wr.alloc (.cells #[.int .i64 z, .string ⟨key.toArray⟩] 35)).drew wr.heap.size := isC_of_cell (w := wr.alloc _) (NB.out.cell (i := 1) rfl)
          have IS := Lib.hid isc
          clear isc
          go_wp2_with fail
          refine (remove_any J1.out key (by omega)).mono ?_
          rintro e2 w2 ⟨rfl, hJ2, hM2⟩
          have J2 := Lib.hid hJ2
          have I2 := Lib.hid (I1.out.mod hM2 LL.out.2.2.1)
          have M2 := Lib.hid (M1.out.trans' hM2 (fun b hb => .inr (LL.out.2.1 b hb)))
          obtain ⟨v, hv⟩ : ∃ v, (remS S fl key).1 = v := ⟨_, rfl⟩
          rw [hv] at hb1 ⊢
          clear hJ2 hM2 hv k1
          go_wp2_with fail
          refine ⟨by kernel_rfl, ⟨⟨HNL.out.1, IS.out⟩, trivial⟩, ?_⟩
          have e1 : decide (v < -1) = false := by simp; omega
          have e2 : decide ((5 : Int) < v) = false := by simp; omega
          go_wp2_with fail
          go_roundw
          case rel => exact ⟨j + 1, _, _, by omega, by go_num, SM1.out, I2.out, J2.out, M2.out⟩
          case measure => simp [intOf]; omega
        · go_wp2_with fail
          refine wp_region_held [4] [6] L (by kernel_rfl) (by kernel_rfl) ?_
          simp only [wpCut, List.take_succ_cons, List.take_zero, List.drop_succ_cons, List.drop_zero, List.cons_append, List.nil_append]
          go_wp2_with fail
          refine (find_puts (IR.out.mod A1.out.drew (by simp)) key (by omega)).mono ?_
          rintro e1 w1 ⟨rfl, hI1, hM1⟩
          have I1 := Lib.hid hI1
          have N1 := Lib.hid hM1
          have NB1 := Lib.hid (hM1.blk NB.out.drew HNL.out.1)
          have k1 := NB1.out.cell (i := 1) rfl
          have J1 := Lib.hid ((JR.out.mod A1.out.drew (by simp)).mod hM1 LL.out.2.2.2)
          have M1 := Lib.hid ((MR.out.trans A1.out).drew.trans' hM1 (fun b hb => .inr (LL.out.1 b hb)))
          have hb1 := small_find SR.out key
          have SM1 := Lib.hid (SR.out)
          clear hI1 hM1
          go_wp2_with fail
          refine ⟨N1.out, ?_⟩
          have isc : IsC (wr.alloc (.cells #[.int .i64 z, .string ⟨key.toArray⟩] 35)).drew wr.heap.size := isC_of_cell (w := wr.alloc _) (NB.out.cell (i := 1) rfl)
          have IS := Lib.hid isc
          clear isc
          go_wp2_with fail
          refine (find_puts J1.out key (by omega)).mono ?_
          rintro e2 w2 ⟨rfl, hJ2, hM2⟩
          have J2 := Lib.hid hJ2
          have I2 := Lib.hid (I1.out.mod hM2 LL.out.2.2.1)
          have M2 := Lib.hid (M1.out.trans' hM2 (fun b hb => .inr (LL.out.2.1 b hb)))
          obtain ⟨v, hv⟩ : ∃ v, optInt (placeOf S key) = v := ⟨_, rfl⟩
          rw [hv] at hb1 ⊢
          clear hJ2 hM2 hv k1
          go_wp2_with fail
          refine ⟨by kernel_rfl, ⟨⟨HNL.out.1, IS.out⟩, trivial⟩, ?_⟩
          have e1 : decide (v < -1) = false := by simp; omega
          have e2 : decide ((5 : Int) < v) = false := by simp; omega
          go_wp2_with fail
          go_roundw
          case rel => exact ⟨j + 1, _, _, by omega, by go_num, SM1.out, I2.out, J2.out, M2.out⟩
          case measure => simp [intOf]; omega
      · have d2 : decide ((200 : Int) < key.length) = true := by simp; omega
        go_wp2_with fail
        go_ret
        exact ⟨rfl, MR.out.alloc _⟩
    · obtain rfl : j = l.length := by omega
      clear hSm hI hJ hM
      go_wp2_with fail
      go_ret
      exact ⟨rfl, MR.out⟩
set_option maxRecDepth 8000 in
theorem alike_walk (w : World) (v : Value) (ds : List Nat) (hv : v = .agg (ds.map fun x : Nat => Value.int .u64 (x : Int)).toArray) (hd : ds.length = 2 * 3) (ha : ∀ x ∈ ds, x < 18446744073709551616) (a : Option Addr) (cp : Nat) (l : List (Int × List UInt8)) (hm : l.length ≤ maxLen) (hP : InKT w a l) :
    Calls Try.prog 3 #[v, .slice a l.length cp] w fun e w' => e = .returned (.bool true) ∧ Mod [] w w' := by
  subst hv
  match ds, hd with
  | [a0, a1, a2, a3, a4, a5], _ =>
    by_cases hl : l.length ≤ 150
    · exact alike_main w a0 a1 a2 a3 a4 a5 ha a cp l hP hl
    · have d1 : decide ((150 : Int) < l.length) = true := by simp; omega
      unfold maxLen at hm
      clear hP
      simp only [List.map_cons, List.map_nil]
      go_enter Try.func3, Try.ntmps3
      go_wp2_with fail
      refine (fit_any _).mono ?_
      rintro e1 w1 ⟨rfl, hM1⟩
      have M1 := Lib.hid (((Mod.refl [] w).alloc _).trans hM1)
      clear hM1
      go_wp2_with fail
      go_ret
      exact ⟨rfl, M1.out⟩
end Go.Proofs.Ytgnemlfheiaolaa.Index
