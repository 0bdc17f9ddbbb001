/- pool's laws: PoolAlike. -/
import Derived.Test.YtajadfoannmaiaaPoolLaw2
import Derived.Test.YtajadfoannmaiaaEncArg
namespace Go.Proofs.Ytajadfoannmaiaa.Pool
open Go Go.RowKit Go.YtajadfoannmaiaaMem Go.YtajadfoannmaiaaLex Go.YtajadfoannmaiaaRange Go.Proofs.Ytajadfoannmaiaa.Hash Go.Proofs.Ytajadfoannmaiaa.Keys Go.Proofs.Ytajadfoannmaiaa.Index Go.Proofs.Ytajadfoannmaiaa.Cell Go.Proofs.Ytajadfoannmaiaa.Arith
set_option linter.unusedVariables false
set_option linter.unusedSimpArgs false
attribute [local go_sem] Oper.semAt_some

abbrev V6 (a0 a1 a2 a3 a4 a5 : Nat) : Array Value := #[.int .u64 (a0 : Int), .int .u64 (a1 : Int), .int .u64 (a2 : Int), .int .u64 (a3 : Int), .int .u64 (a4 : Int), .int .u64 (a5 : Int)]
theorem rows_at {w : World} {b off c : Nat} {vs : List Value} {T : TypeId} (h : Blk w b T vs) (x y z : Nat) (hx : x < 18446744073709551616 ∧ y < 18446744073709551616 ∧ z < 18446744073709551616) (hc : 3 ≤ c) (hm : c ≤ maxLen)
    (h0 : vs[off]? = some (.int .u64 (x : Int))) (h1 : vs[off + 1]? = some (.int .u64 (y : Int))) (h2 : vs[off + 2]? = some (.int .u64 (z : Int))) :
    Calls Try.prog 13 #[.slice (some ⟨b, off, none⟩) 3 c, .int .i64 1] w (RowsPost [x, y, z] w) :=
  rows_one (l := [x, y, z]) (.inr ⟨b, off, c, rfl, by simpa [v64] using hc, hm, h.lt, fun i u hu => by
    match i, hu with
    | 0, hu => simp [v64] at hu; subst hu; exact h.cell h0
    | 1, hu => simp [v64] at hu; subst hu; exact h.cell h1
    | 2, hu => simp [v64] at hu; subst hu; exact h.cell h2
    | i + 3, hu => simp [v64] at hu⟩) (fun q hq => by simp at hq; omega)

theorem pairs_len (S : List (Option (List UInt8))) (C : List Cell) : (pairs S C).length ≤ S.length := by
  unfold pairs
  have h1 := List.length_filterMap_le pair1 (S.zip C)
  have h2 : (S.zip C).length ≤ S.length := by rw [List.length_zip]; omega
  omega
/-- The keys' values. -/
def ns (xs : List (List UInt8 × Cell)) : List Value := xs.map fun x => .string ⟨x.1.toArray⟩
theorem ns_snoc (xs : List (List UInt8 × Cell)) (x : List UInt8 × Cell) : ns (xs ++ [x]) = ns xs ++ [.string ⟨x.1.toArray⟩] := by simp [ns]
theorem ns_get {pre post : List (List UInt8 × Cell)} {x : List UInt8 × Cell} : (ns (pre ++ x :: post))[pre.length]? = some (.string ⟨x.1.toArray⟩) := by
  unfold ns
  rw [List.getElem?_map, List.getElem?_append_right (Nat.le_refl _)]; simp
theorem Under.of_mod2 {B : Nat} {S S' : List Nat} {w w' : World} (h : Mod S w w') (hB : B ≤ w.heap.size) (hs : ∀ x, x ∈ S → x < B → x ∈ S') : Under B S' w w' :=
  ⟨h.os, h.tape, h.output, h.size, fun k h1 h2 => h.block k (Nat.lt_of_lt_of_le h1 hB) (fun hm => h2 (hs k hm h1))⟩
theorem string_info : ∃ i, Try.prog.info? 9 = some i ∧ i.zero = some (.string ⟨#[]⟩) ∧ i.size = 1 ∧ i.bytes = 16 := info_parts (show (Try.prog.info? 9).map (fun i => (i.zero, i.size, i.bytes)) = some (some (.string ⟨#[]⟩), 1, 16) by kernel_rfl)
theorem app_str_in {F : Fence} {n : Nat} {ops : Array Oper} {rest : List Oper} {o : Oper} {act : Go.Act} {Q : Exit → Go.Act → World → Prop} {w : World} {v : Value} {B m : Nat} {us : List Value} (s : ByteArray) (g : Nat) (hown : w.ownsRow B 9 1 v m us) (hgd : o.guard = none) (sl x : Operand) (ho : o.op = .call { callee := .builtin .append, args := #[sl, x], argTypes := #[47, 47] })
    (hs : act.eval sl = v) (hx : act.eval x = .slice (some ⟨g, 0, none⟩) 1 1) (hn : w.cell? ⟨g, 0, none⟩ = some (.string s)) (hB : B ≤ w.heap.size) (hl : m ≤ 900000)
    (h : ∀ v' w', w'.ownsRow B 9 1 v' (m + 1) (us ++ [.string s]) → Mod v.ownBlock.toList w w' → wpListIn F n Try.prog ops Q rest (act.put o.dst v') w') : wpListIn F n Try.prog ops Q (o :: rest) act w := by
  obtain ⟨i0, hi, hz0, hz1, hz2⟩ := string_info
  refine wpListIn_append_own w hgd sl x 47 ho B 9 i0 (.string ⟨#[]⟩) 1 16 Try.underlying47 hi hz0 hz1 hz2 rfl (by decide) v m us hs hown ⟨g, 0, none⟩ 1 1 [.string s] hx rfl (cells_one hn)
    (fun x hx => by simp at hx; subst hx; rfl) (by unfold maxLen; omega) (by omega) hB fun v' w' h1 h2 _ => h v' w' h1 (grown_mod (Mod.refl [] w) h2)

set_option maxRecDepth 8000 in
set_option maxHeartbeats 12800000 in
theorem alike_main (w : World) (a0 a1 a2 a3 a4 a5 : Nat) (ha : ∀ x ∈ [a0, a1, a2, a3, a4, a5], x < 18446744073709551616) (a : Option Addr) (cp : Nat) (l : List KTA) (hP : InRow w a 3 KTA.cells l) (hok : ∀ q ∈ l, q.ok) (hl : l.length ≤ 100) :
    Calls Try.prog 4 #[.agg (V6 a0 a1 a2 a3 a4 a5), .slice a l.length cp] w fun e w' => e = .returned (.bool true) ∧ Mod [] w w' := by
  have hr1 := rowOf_ok [a0, a1, a2]
  have hr2 := rowOf_ok [a3, a4, a5]
  have R1 : Hid (∀ W : World, Blk W w.heap.size 38 (V6 a0 a1 a2 a3 a4 a5).toList → Calls Try.prog 13 #[.slice (some ⟨w.heap.size, 0, none⟩) 3 3, .int .i64 1] W (RowsPost [a0, a1, a2] W)) :=
    Lib.hid fun W h => rows_at h a0 a1 a2 ⟨ha a0 (by simp), ha a1 (by simp), ha a2 (by simp)⟩ (by omega) (by unfold maxLen; omega) rfl rfl rfl
  have R2 : Hid (∀ W : World, Blk W w.heap.size 38 (V6 a0 a1 a2 a3 a4 a5).toList → Calls Try.prog 13 #[.slice (some ⟨w.heap.size, 3, none⟩) 3 3, .int .i64 1] W (RowsPost [a3, a4, a5] W)) :=
    Lib.hid fun W h => rows_at h a3 a4 a5 ⟨ha a3 (by simp), ha a4 (by simp), ha a5 (by simp)⟩ (by omega) (by unfold maxLen; omega) rfl rfl rfl
  unfold RowsPost at R1 R2
  generalize rowOf [a0, a1, a2] = r1 at *
  generalize rowOf [a3, a4, a5] = r2 at *
  have N1 := Lib.hid (fun W : World => new_any 4 (by omega) (by omega) r1 hr1 W)
  have N2 := Lib.hid (fun W : World => new_any 4 (by omega) (by omega) r2 hr2 W)
  have HP := Lib.hid hP
  have HO := Lib.hid hok
  have HL := Lib.hid hl
  have B0 := Lib.hid ((Blk.new w (V6 a0 a1 a2 a3 a4 a5).toList 38).alloc (.cells #[.bool false] 4))
  have X4 := Lib.hid (Blk.new (w.alloc (.cells (V6 a0 a1 a2 a3 a4 a5) 38)) [.bool false] 4)
  have hsz1 : (w.alloc (.cells (V6 a0 a1 a2 a3 a4 a5) 38)).heap.size = w.heap.size + 1 := by simp
  rw [hsz1] at X4
  have HSZ := Lib.hid (show ((w.alloc (.cells (V6 a0 a1 a2 a3 a4 a5) 38)).alloc (.cells #[.bool false] 4)).heap.size = w.heap.size + 2 by simp)
  have M0 := Lib.hid (((Mod.refl [] w).alloc (.cells (V6 a0 a1 a2 a3 a4 a5) 38)).alloc (.cells #[.bool false] 4))
  have d1 : decide ((100 : Int) < l.length) = false := by simp; omega
  clear ha hr1 hr2 hP hok hl hsz1
  refine calls_of_wp_marks Try.func4 rfl ?_
  simp only [Try.ntmps4, List.size_toArray, List.length_cons, List.length_nil, Nat.reduceAdd, Nat.reduceSub, Array.replicate_succ, Array.replicate_zero, List.push_toArray, List.append_toArray, List.nil_append, List.cons_append]
  go_wp2_with fail
  refine (fit_any _).mono ?_
  rintro e1 w1 ⟨rfl, hM1⟩
  have M1 := Lib.hid (M0.out.trans hM1)
  have B1 := Lib.hid (hM1.blk B0.out (by simp))
  have Y1 := Lib.hid (hM1.blk X4.out (by simp))
  have hs1 := hM1.size
  rw [HSZ.out] at hs1
  have k0 := B1.out.cell (i := 0) rfl
  clear hM1
  go_wp2_with fail
  refine wp_region_lex (by kernel_rfl) (by kernel_rfl) ?_
  go_wp2_with fail
  refine (R1.out _ B1.out.drew).mono ?_
  rintro e2 w2 ⟨g, cap, rfl, hg, hgl, hc1, hc2, hcell, hM2⟩
  have M2 := Lib.hid (M1.out.drew.trans hM2)
  have B2 := Lib.hid (hM2.blk B1.out.drew (by simp))
  have Y2 := Lib.hid (hM2.blk Y1.out.drew (by simp))
  have q0 := hcell 0 _ rfl
  have q1 := hcell 1 _ rfl
  have q2 := hcell 2 _ rfl
  have hs2 := hM2.size
  clear hM2 hcell k0
  go_wp2_with fail
  refine (N1.out _).mono ?_
  rintro e3 w3 ⟨Ba, rfl, hA, hB, hr, hM3⟩
  have A3 := Lib.hid (show At w3 Ba (s0 4) from hA)
  have AL := Lib.hid hB
  have M3 := Lib.hid (M2.out.trans hM3)
  have B3 := Lib.hid (hM3.blk B2.out (by simp))
  have Y3 := Lib.hid (hM3.blk Y2.out (by simp))
  have hs3 := hM3.size
  have k3 := B3.out.cell (i := 3) rfl
  clear hA hB hr hM3 q0 q1 q2 hg hgl hc1 hc2
  go_wp2_with fail
  refine (R2.out _ B3.out).mono ?_
  rintro e4 w4 ⟨g4, cap4, rfl, hg, hgl, hc1, hc2, hcell, hM4⟩
  have M4 := Lib.hid (M3.out.trans hM4)
  have A4 := Lib.hid (A3.out.mod hM4 (by simp))
  have Y4 := Lib.hid (hM4.blk Y3.out (by simp))
  have q0 := hcell 0 _ rfl
  have q1 := hcell 1 _ rfl
  have q2 := hcell 2 _ rfl
  have hs4 := hM4.size
  clear hM4 hcell k3
  go_wp2_with fail
  refine (N2.out _).mono ?_
  rintro e5 w5 ⟨Bb, rfl, hA, hB, hr, hM5⟩
  have E5 := Lib.hid (show At w5 Bb (s0 4) from hA)
  have A5 := Lib.hid (A4.out.mod hM5 (by simp))
  have M5 := Lib.hid (M4.out.trans hM5)
  have Y5 := Lib.hid (hM5.blk Y4.out (by simp))
  have hA3 := A3.out.lt
  have hw1 : w1.drew.heap.size = w1.heap.size := rfl
  have LL : Hid ((∀ b, b ∈ Ba.all → w.heap.size + 1 < b) ∧ (∀ b, b ∈ Bb.all → w.heap.size + 1 < b) ∧ (∀ b, b ∈ Ba.all → b ∉ Bb.all) ∧ ∀ b, b ∈ Bb.all → b ∉ Ba.all) := by
    have q1 : ∀ b, b ∈ Ba.all → w.heap.size + 1 < b ∧ b < w3.heap.size := fun b hb => ⟨by have := AL.out b hb; omega, hA3 b hb⟩
    have q2 : ∀ b, b ∈ Bb.all → w3.heap.size ≤ b := fun b hb => by have := hB b hb; omega
    have hs13 : w.heap.size + 2 ≤ w3.heap.size := by omega
    exact Lib.hid ⟨fun b hb => (q1 b hb).1, fun b hb => by have := q2 b hb; omega, fun b h1 h2 => by have := (q1 b h1).2; have := q2 b h2; omega, fun b h2 h1 => by have := (q1 b h1).2; have := q2 b h2; omega⟩
  clear hA hB hr hM5 q0 q1 q2 hg hgl hc1 hc2 hA3 hw1 hs1 hs2 hs3 hs4
  go_wp2_with fail
  refine ⟨by kernel_rfl, ?_⟩
  clear B1 Y1 M1 B2 Y2 M2 A3 AL M3 B3 Y3 A4 M4 Y4 N1 N2 R1 R2 B0 X4 M0 HSZ
  go_wp2_with fail
  go_loopw [36] (fun i wr => ∃ (j : Nat) (s : PS), j ≤ l.length ∧ i = .int .i64 (j : Int) ∧ At wr Ba s ∧ At wr Bb s ∧ Mod [] w wr ∧ Blk wr (w.heap.size + 1) 4 [.bool false]) (fun i _ => l.length - (intOf i).toNat)
  case atStart => exact ⟨0, s0 4, Nat.zero_le _, rfl, A5.out, E5.out, M5.out, Y5.out⟩
  case round =>
    clear A5 E5 M5 Y5
    obtain ⟨j, s, hj, rfl, hA, hE, hM, hY⟩ := hrel
    have AR := Lib.hid hA
    have ER := Lib.hid hE
    have MR := Lib.hid hM
    have YR := Lib.hid hY
    by_cases hlt : j < l.length
    · obtain ⟨q, hq⟩ : ∃ q, l[j]? = some q := ⟨_, List.getElem?_eq_getElem hlt⟩
      obtain ⟨b, off, rfl, hb, hcell⟩ := HP.out j q hq
      obtain ⟨z, key, t⟩ := q
      have hqo : I64 t := by have := (HO.out _ (List.mem_of_getElem? hq)).2; exact i64_of_wf this
      have CN := Lib.hid (fun W : World => Cell.new_any t 2 W)
      simp only [fresh, Cell.val] at CN
      have c0 := (hM.cell (a := ⟨b, off + j * 3, none⟩) hb (by simp)).trans (hcell 0 _ rfl)
      have c1 := (hM.cell (a := ⟨b, off + j * 3 + 1, none⟩) hb (by simp)).trans (hcell 1 _ rfl)
      have c2 := (hM.cell (a := ⟨b, off + j * 3 + 2, none⟩) hb (by simp)).trans (hcell 2 _ rfl)
      simp only at c0 c1 c2
      have hsz : (ByteArray.mk key.toArray).size = key.length := by simp [ByteArray.size]
      have NB := Lib.hid (Blk.new wr [.int .i64 z, .string ⟨key.toArray⟩, .int .i64 t] 44)
      have A1 := Lib.hid ((Mod.refl [] wr).alloc (.cells #[.int .i64 z, .string ⟨key.toArray⟩, .int .i64 t] 44))
      have HNL : Hid (wr.heap.size ∉ Ba.all ∧ wr.heap.size ∉ Bb.all) := Lib.hid ⟨fun h => by have := hA.lt _ h; omega, fun h => by have := hE.lt _ h; omega⟩
      have hy := hY.lt
      have hl100 := HL.out
      clear hA hE hM hY hcell hq hb
      by_cases h100 : key.length ≤ 100
      · have d2 : decide ((100 : Int) < key.length) = false := by simp; omega
        obtain ⟨kd, hkd, hk01⟩ : ∃ kd, bits .and .i64 z 1 = kd ∧ (kd = 0 ∨ kd = 1) := ⟨_, rfl, by rw [show (1 : Int) = 2 ^ 1 - 1 from rfl, and_mask _ _ (by omega)]; omega⟩
        rcases hk01 with rfl | rfl
        · go_wp2_with fail
          refine wp_region_held [6, 1, 7] [2, 10, 12] Ba.all (by kernel_rfl) (by kernel_rfl) ?_
          simp only [wpCut, List.take_succ_cons, List.take_zero, List.drop_succ_cons, List.drop_zero, List.cons_append, List.nil_append]
          go_wp2_with fail
          refine (CN.out _).mono ?_
          rintro e1 w1 ⟨rfl, hM1⟩
          have N1 := Lib.hid (hM1.mono (by simp) : Mod Ba.all _ _)
          have V1 := Lib.hid (A1.out.drew.trans hM1)
          have NB1 := Lib.hid (hM1.blk NB.out.drew (by simp))
          have I1 := Lib.hid (AR.out.mod V1.out (by simp))
          have J1 := Lib.hid (ER.out.mod V1.out (by simp))
          clear hM1
          go_wp2_with fail
          refine ⟨N1.out, ?_⟩
          go_wp2_with fail
          refine (put_at I1.out key (by omega) (fresh t 2) (fresh_ok hqo (i64_small (by decide) (by decide)))).mono ?_
          rintro e2 w2 ⟨rfl, hI2, hM2⟩
          have N2 := Lib.hid (N1.out.trans hM2)
          have NB2 := Lib.hid (hM2.blk NB1.out HNL.out.1)
          have I2 := Lib.hid hI2
          have J2 := Lib.hid (J1.out.mod hM2 LL.out.2.2.2)
          have MA2 := Lib.hid ((MR.out.trans V1.out).trans' hM2 (fun b hb => .inr (by have := LL.out.1 b hb; omega)))
          have Y2 := Lib.hid (hM2.blk (V1.out.blk YR.out (by simp)) (fun h => by have := LL.out.1 _ h; omega))
          have k1 := NB2.out.cell (i := 1) rfl
          have k2 := NB2.out.cell (i := 2) rfl
          clear hI2 hM2
          obtain ⟨rs, hrs⟩ : ∃ rs, putP s key (fresh t 2) = rs := ⟨_, rfl⟩
          rw [hrs] at I2 ⊢
          have HRS := Lib.hid hrs
          clear hrs
          obtain ⟨o, s'⟩ := rs
          simp only at I2
          cases o with
          | none =>
            simp only [cellAt, Option.map_none]
            go_wp2_with fail
            refine ⟨N2.out, ?_⟩
            go_wp2_with fail
            refine (CN.out _).mono ?_
            rintro e3 w3 ⟨rfl, hM3⟩
            have N3 := Lib.hid (N2.out.trans (hM3.mono (by simp) : Mod Ba.all _ _))
            have NB3 := Lib.hid (hM3.blk NB2.out (by simp))
            have I3 := Lib.hid (I2.out.mod hM3 (by simp))
            have J3 := Lib.hid (J2.out.mod hM3 (by simp))
            have MA3 := Lib.hid (MA2.out.trans hM3)
            have Y3 := Lib.hid (hM3.blk Y2.out (by simp))
            clear hM3 k1 k2
            go_wp2_with fail
            refine ⟨N3.out, ?_⟩
            have isc : IsC (wr.alloc (.cells #[.int .i64 z, .string ⟨key.toArray⟩, .int .i64 t] 44)).drew wr.heap.size := isC_of_cell (w := wr.alloc _) (NB.out.cell (i := 1) rfl)
            have IS := Lib.hid isc
            clear isc
            go_wp2_with fail
            refine (put_at J3.out key (by omega) (fresh t 2) (fresh_ok hqo (i64_small (by decide) (by decide)))).mono ?_
            rintro e4 w4 ⟨rfl, hJ4, hM4⟩
            rw [HRS.out] at hJ4 ⊢
            simp only [cellAt, Option.map_none] at hJ4 ⊢
            have J4 := Lib.hid hJ4
            have I4 := Lib.hid (I3.out.mod hM4 LL.out.2.2.1)
            have MA4 := Lib.hid (MA3.out.trans' hM4 (fun b hb => .inr (by have := LL.out.2.1 b hb; omega)))
            have Y4 := Lib.hid (hM4.blk Y3.out (fun h => by have := LL.out.2.1 _ h; omega))
            clear hJ4 hM4
            go_wp2_with fail
            refine ⟨by kernel_rfl, ⟨⟨HNL.out.1, IS.out⟩, ⟨HNL.out.1, IS.out⟩, ⟨HNL.out.1, IS.out⟩, trivial⟩, ?_⟩
            go_wp2_with fail
            go_roundw
            case rel => exact ⟨j + 1, s', by omega, by go_num, I4.out, J4.out, MA4.out, Y4.out⟩
            case measure => simp [intOf]; omega
          | some p =>
            simp only [cellAt, Option.map_some]
            go_wp2_with fail
            refine ⟨N2.out, ?_⟩
            go_wp2_with fail
            refine (CN.out _).mono ?_
            rintro e3 w3 ⟨rfl, hM3⟩
            have N3 := Lib.hid (N2.out.trans (hM3.mono (by simp) : Mod Ba.all _ _))
            have NB3 := Lib.hid (hM3.blk NB2.out (by simp))
            have I3 := Lib.hid (I2.out.mod hM3 (by simp))
            have J3 := Lib.hid (J2.out.mod hM3 (by simp))
            have MA3 := Lib.hid (MA2.out.trans hM3)
            have Y3 := Lib.hid (hM3.blk Y2.out (by simp))
            clear hM3 k1 k2
            go_wp2_with fail
            refine ⟨N3.out, ?_⟩
            have isc : IsC (wr.alloc (.cells #[.int .i64 z, .string ⟨key.toArray⟩, .int .i64 t] 44)).drew wr.heap.size := isC_of_cell (w := wr.alloc _) (NB.out.cell (i := 1) rfl)
            have IS := Lib.hid isc
            clear isc
            go_wp2_with fail
            refine (put_at J3.out key (by omega) (fresh t 2) (fresh_ok hqo (i64_small (by decide) (by decide)))).mono ?_
            rintro e4 w4 ⟨rfl, hJ4, hM4⟩
            rw [HRS.out] at hJ4 ⊢
            simp only [cellAt, Option.map_some] at hJ4 ⊢
            have J4 := Lib.hid hJ4
            have I4 := Lib.hid (I3.out.mod hM4 LL.out.2.2.1)
            have MA4 := Lib.hid (MA3.out.trans' hM4 (fun b hb => .inr (by have := LL.out.2.1 b hb; omega)))
            have Y4 := Lib.hid (hM4.blk Y3.out (fun h => by have := LL.out.2.1 _ h; omega))
            clear hJ4 hM4
            go_wp2_with fail
            refine ⟨by kernel_rfl, ⟨⟨HNL.out.1, IS.out⟩, ⟨HNL.out.1, IS.out⟩, ⟨HNL.out.1, IS.out⟩, trivial⟩, ?_⟩
            go_wp2_with fail
            go_roundw
            case rel => exact ⟨j + 1, s', by omega, by go_num, I4.out, J4.out, MA4.out, Y4.out⟩
            case measure => simp [intOf]; omega
        · have k1 := NB.out.cell (i := 1) rfl
          go_wp2_with fail
          refine (rem_at (AR.out.mod A1.out (by simp)) key (by omega)).mono ?_
          rintro e1 w1 ⟨rfl, hI1, hM1⟩
          obtain ⟨rs, hrs⟩ : ∃ rs, remP s key = rs := ⟨_, rfl⟩
          rw [hrs] at hI1 ⊢
          have HRS := Lib.hid hrs
          obtain ⟨⟨c0', c1', c2', c3'⟩, bo, s'⟩ := rs
          simp only [Cell.val] at *
          have I1 := Lib.hid (hI1.mod ((Mod.refl [] w1).alloc (.cells #[.int .i64 c0', .int .i64 c1', .int .i64 c2', .int .i64 c3'] 32)) (by simp))
          have NX := Lib.hid (Blk.new w1 [.int .i64 c0', .int .i64 c1', .int .i64 c2', .int .i64 c3'] 32)
          have J0 := Lib.hid ((ER.out.mod A1.out (by simp)).mod hM1 LL.out.2.2.2)
          have hw1n : w1.heap.size ∉ Bb.all := fun h => by have := J0.out.lt _ h; omega
          have J1 := Lib.hid (J0.out.mod ((Mod.refl [] w1).alloc (.cells #[.int .i64 c0', .int .i64 c1', .int .i64 c2', .int .i64 c3'] 32)) (by simp))
          have MA1 := Lib.hid (((MR.out.trans A1.out).trans' hM1 (fun b hb => .inr (by have := LL.out.1 b hb; omega))).alloc (.cells #[.int .i64 c0', .int .i64 c1', .int .i64 c2', .int .i64 c3'] 32))
          have Y1 := Lib.hid ((hM1.blk (YR.out.alloc _) (fun h => by have := LL.out.1 _ h; omega)).alloc (.cells #[.int .i64 c0', .int .i64 c1', .int .i64 c2', .int .i64 c3'] 32))
          have NB1 := Lib.hid ((hM1.blk NB.out HNL.out.1).alloc (.cells #[.int .i64 c0', .int .i64 c1', .int .i64 c2', .int .i64 c3'] 32))
          clear hI1 hM1 hrs k1
          have k1 := NB1.out.cell (i := 1) rfl
          go_wp2_with fail
          refine (rem_at J1.out key (by omega)).mono ?_
          rintro e2 w2 ⟨rfl, hJ2, hM2⟩
          rw [HRS.out] at hJ2 ⊢
          simp only [Cell.val] at hJ2 ⊢
          have J2 := Lib.hid (hJ2.mod ((Mod.refl [] w2).alloc (.cells #[.int .i64 c0', .int .i64 c1', .int .i64 c2', .int .i64 c3'] 32)) (by simp))
          have NZ := Lib.hid (Blk.new w2 [.int .i64 c0', .int .i64 c1', .int .i64 c2', .int .i64 c3'] 32)
          have NX2 := Lib.hid ((hM2.blk NX.out hw1n).alloc (.cells #[.int .i64 c0', .int .i64 c1', .int .i64 c2', .int .i64 c3'] 32))
          have I2 := Lib.hid ((I1.out.mod hM2 LL.out.2.2.1).mod ((Mod.refl [] w2).alloc (.cells #[.int .i64 c0', .int .i64 c1', .int .i64 c2', .int .i64 c3'] 32)) (by simp))
          have MA2 := Lib.hid ((MA1.out.trans' hM2 (fun b hb => .inr (by have := LL.out.2.1 b hb; omega))).alloc (.cells #[.int .i64 c0', .int .i64 c1', .int .i64 c2', .int .i64 c3'] 32))
          have Y2 := Lib.hid ((hM2.blk Y1.out (fun h => by have := LL.out.2.1 _ h; omega)).alloc (.cells #[.int .i64 c0', .int .i64 c1', .int .i64 c2', .int .i64 c3'] 32))
          clear hJ2 hM2 k1
          have x0 := NX2.out.cell (i := 0) rfl
          have x1 := NX2.out.cell (i := 1) rfl
          have x2 := NX2.out.cell (i := 2) rfl
          have x3 := NX2.out.cell (i := 3) rfl
          have z0 := NZ.out.cell (i := 0) rfl
          have z1 := NZ.out.cell (i := 1) rfl
          have z2 := NZ.out.cell (i := 2) rfl
          have z3 := NZ.out.cell (i := 3) rfl
          go_wp2_with fail
          go_roundw
          case rel => exact ⟨j + 1, s', by omega, by go_num, I2.out, J2.out, MA2.out, Y2.out⟩
          case measure => simp [intOf]; omega
      · have d2 : decide ((100 : Int) < key.length) = true := by simp; omega
        have Y1 := Lib.hid (YR.out.alloc (.cells #[.int .i64 z, .string ⟨key.toArray⟩, .int .i64 t] 44))
        have f4 := Y1.out.free 0
        have g4 := Y1.out.cell (i := 0) rfl
        go_wp2_with fail
        have r4 := ((YR.out.set 0 (.bool true)).alloc (.cells #[.int .i64 z, .string ⟨key.toArray⟩, .int .i64 t] 44)).cell (i := 0) rfl
        exact ⟨.bool true, by simp [results, Try.results4, go_sem, r4], rfl, (MR.out.setCell (p := ⟨w.heap.size + 1, 0, none⟩) (.inr (by show w.heap.size ≤ w.heap.size + 1; omega)) _).alloc _⟩
    · obtain rfl : j = l.length := by omega
      clear hA hE hM hY
      have hfew := AR.out.idx.few
      have hpl := pairs_len s.S s.C
      obtain ⟨xs, hxs⟩ : ∃ xs, pairs s.S s.C = xs := ⟨_, rfl⟩
      rw [hxs] at hpl
      have A8 := Lib.hid (AR.out.mod ((Mod.refl [] wr).alloc (.cells #[.slice none 0 0] 47)) (by simp))
      have E8 := Lib.hid (ER.out.mod ((Mod.refl [] wr).alloc (.cells #[.slice none 0 0] 47)) (by simp))
      have M8 := Lib.hid (MR.out.alloc (.cells #[.slice none 0 0] 47))
      have Y8 := Lib.hid (YR.out.alloc (.cells #[.slice none 0 0] 47))
      have L8 := Lib.hid (Blk.new wr [.slice none 0 0] 47)
      have HLT : Hid ((∀ b, b ∈ Ba.all → b < wr.heap.size) ∧ ∀ b, b ∈ Bb.all → b < wr.heap.size) := Lib.hid ⟨AR.out.lt, ER.out.lt⟩
      have hyl := YR.out.lt
      have HXS := Lib.hid hxs
      clear hxs
      go_wp2_with fail
      obtain ⟨b13, hb13⟩ : ∃ b, wr.heap.size = b := ⟨_, rfl⟩
      obtain ⟨w8, hw8⟩ : ∃ w8, wr.alloc (.cells #[.slice none 0 0] 47) = w8 := ⟨_, rfl⟩
      have hs8 : b13 < w8.heap.size := by rw [← hw8, ← hb13]; simp
      rw [hw8] at A8 E8 M8 Y8 L8
      rw [hb13] at L8 HLT hyl
      rw [hw8]
      clear hw8
      refine wp_range2 (Kp := Under w8.heap.size [b13]) (encs := encP) (xs := xs) rfl (enters_of Try.func11 (by kernel_rfl) rfl)
        (by rw [← HXS.out]; exact all_iter A8.out (fun A A' hA hK b hb => hK.block b (A8.out.lt b hb) (by simp; have := HLT.out.1 b hb; omega)))
        (fun h k => h.trans k) (fun h => h.mono (by simp)) (fun _ => rfl)
        (fun pre W => Mod [b13] w8 W ∧ ∃ v, Blk W b13 47 [v] ∧ W.ownsRow (w8.heap.size + 2) 9 1 v pre.length (ns pre))
        (fun c pre W => False)
        ?hI (fun _ _ _ _ h _ _ => h.elim) ⟨Mod.refl _ _, _, L8.out, World.ownsRow_nil _ _ _ _⟩ ?round ?done (fun _ _ _ _ _ _ _ _ h _ => h.elim)
      case hI =>
        intro pre A B' h hu hm
        obtain ⟨h1, v, h2, h3⟩ := h
        exact ⟨mod_under h1 hu, v, blk_under h2 hu (by omega), hm.own h3 (fun b hb => by have := own_block h3 b hb; simp; omega)⟩
      case round =>
        rintro l0 pre x W rfl hl2 ⟨hM, v, hv, hown⟩ ⟨post, hx⟩
        have MW := Lib.hid hM
        have VB := Lib.hid hv
        have OW := Lib.hid hown
        have hpre : pre.length ≤ 100000 := by have := congrArg List.length hx; simp at this; omega
        have hWs := hM.size
        obtain ⟨key, c⟩ := x
        clear hM hv hown hx
        gi_wp2
        refine ⟨Two.of_mod (Mod.refl [] _) (by simp), Under.refl _ _ _, fun o => ?_⟩
        obtain ⟨W2, hW2⟩ : ∃ W2, W.putObj (w8.heap.size + 1) o = W2 := ⟨_, rfl⟩
        have M2 : Hid (Mod [w8.heap.size + 1] W W2) := Lib.hid (by rw [← hW2]; exact mod_putObj _ _ _)
        rw [hW2]
        clear hW2
        have V2 := Lib.hid (M2.out.blk VB.out (by simp; omega))
        have O2 := Lib.hid (M2.out.own OW.out (fun b hb => by have := own_block OW.out b hb; simp; omega))
        have MW2 := Lib.hid (MW.out.trans' M2.out (fun b hb => .inr (by simp at hb; omega)))
        have hW2s := MW2.out.size
        have h22 := M2.out.size
        have c13 := V2.out.cell (i := 0) rfl
        have hos := own_slice O2.out
        obtain ⟨va, vc, hva⟩ := hos
        subst hva
        have f13 := (V2.out.alloc (.cells #[.string ⟨key.toArray⟩] 9))
        have OA := Lib.hid (World.ownsRow.alloc O2.out (.cells #[.string ⟨key.toArray⟩] 9))
        have MA := Lib.hid ((Mod.refl [] W2).alloc (.cells #[.string ⟨key.toArray⟩] 9))
        gi_wp2_with (gi_at_builtin; go_loud (refine app_str_in ⟨key.toArray⟩ _ OA.out rfl _ _ rfl rfl rfl (World.cell?_alloc_at _ _ _ _ (by simp)) (by simp; omega) (by omega) ?_); intro v' w' ho' hM'; obtain ⟨va', vc', hva'⟩ := own_slice ho'; subst hva'; have O3 := Lib.hid ho'; have M3 := Lib.hid hM'; have V3 := Lib.hid (hM'.blk f13 (own_not (own_block O2.out) (by omega))); have g13 := V3.out.cell (i := 0) rfl; have h13 := V3.out.free 0; clear ho' hM' c13 f13)
        have HB := Lib.hid (own_block OW.out)
        have MS : Hid (Mod [b13] w' (w'.setCell ⟨b13, 0, none⟩ (.slice va' (pre.length + 1) vc'))) := Lib.hid ((Mod.refl [b13] w').setCell (p := ⟨b13, 0, none⟩) (.inl (by simp)) _)
        have hob := own_block O2.out
        have M5 : Hid (Mod (b13 :: (Value.slice va pre.length vc).ownBlock.toList) W2 (w'.setCell ⟨b13, 0, none⟩ (.slice va' (pre.length + 1) vc'))) := Lib.hid (((MA.out.mono (by simp)).trans (M3.out.mono (fun b hb => .inl (List.mem_cons_of_mem b13 hb)))).trans (MS.out.mono (by simp)))
        refine ⟨Two.of_mod M5.out ?_, Under.of_mod2 M5.out hW2s ?_, ?_, _, V3.out.set 0 _, ?_⟩
        · intro b hb
          rcases List.mem_cons.1 hb with rfl | hb
          · omega
          · have := hob b (by simpa using hb); omega
        · intro b hb hlt
          rcases List.mem_cons.1 hb with rfl | hb
          · simp
          · have := hob b (by simpa using hb); omega
        · refine MW2.out.trans' M5.out (fun b hb => ?_)
          rcases List.mem_cons.1 hb with rfl | hb
          · exact .inl (by simp)
          · have := hob b (by simpa using hb); exact .inr (by omega)
        · have := MS.out.own O3.out (fun b hb => by have := own_block O3.out b hb; simp; omega)
          rw [ns_snoc, List.length_append]
          exact this
      case done =>
        rintro D W hD ⟨hM, v, hv, hown⟩ hK
        obtain ⟨va, vc, hva⟩ := own_slice hown
        subst hva
        have E9 := Lib.hid ((E8.out.mod hM (by intro b hb; have := HLT.out.2 b hb; simp; omega)).mod ((Mod.refl [] W).alloc (.cells #[.int .i64 0] 3)) (by simp))
        have M9 := Lib.hid ((M8.out.trans' hM (fun b hb => .inr (by simp at hb; omega))).alloc (.cells #[.int .i64 0] 3))
        have Y9 := Lib.hid ((hM.blk Y8.out (by simp; omega)).alloc (.cells #[.int .i64 0] 3))
        have L9 := Lib.hid (hv.alloc (.cells #[.int .i64 0] 3))
        have O9 := Lib.hid (World.ownsRow.alloc hown (.cells #[.int .i64 0] 3))
        have I9 := Lib.hid (Blk.new W [.int .i64 0] 3)
        have OL : Hid (∀ b, (Value.slice va xs.length vc).ownBlock = some b → b < W.heap.size) := Lib.hid fun b hb => (hown.lt b hb).2
        have K9 := Lib.hid (((Mod.refl [] W).alloc (.cells #[.int .i64 0] 3)).heap hK (by simp))
        have hW8 := hM.size
        have hDW : D < W.heap.size := (Array.getElem?_eq_some_iff.1 hK).1
        have hb13W : b13 < W.heap.size := hv.lt
        have EL : Hid (∀ b, b ∈ Bb.all → b < W.heap.size) := Lib.hid fun b hb => by have := HLT.out.2 b hb; omega
        clear hM hv hown hK
        go_wp2_with fail
        obtain ⟨b15, hb15⟩ : ∃ b, W.heap.size = b := ⟨_, rfl⟩
        obtain ⟨w9, hw9⟩ : ∃ w9, W.alloc (.cells #[.int .i64 0] 3) = w9 := ⟨_, rfl⟩
        have hs9 : b15 < w9.heap.size := by rw [← hw9, ← hb15]; simp
        rw [hw9] at E9 M9 Y9 L9 O9 I9 K9
        rw [hb15] at I9 EL OL hDW hb13W hW8
        rw [hw9]
        clear hw9
        refine wp_range (Kp := Under w9.heap.size [b15]) (encs := encP) (xs := xs) rfl (enters_of Try.func11 (by kernel_rfl) rfl)
          (by rw [← HXS.out]; exact all_iter E9.out (fun A A' hA hK b hb => hK.block b (E9.out.lt b hb) (by simp; have := EL.out b hb; omega)))
          (fun h k => h.trans k) (fun h => h.mono (by simp)) (fun _ => rfl)
          (fun pre W => Mod [b15] w9 W ∧ Blk W b15 3 [.int .i64 (pre.length : Int)])
          (fun c pre W => False)
          ?hI (fun _ _ _ _ h _ => h.elim) ⟨Mod.refl _ _, I9.out⟩ ?round ?done (fun _ _ _ _ _ _ _ _ h _ => h.elim)
        case hI => exact fun pre A B' h hu => ⟨mod_under h.1 hu, blk_under h.2 hu (by omega)⟩
        case round =>
          rintro l0 pre x U hl1 hl2 ⟨hM, hB⟩ ⟨post, hx⟩
          have MU := Lib.hid hM
          have BU := Lib.hid hB
          have hUs := hM.size
          have hpl2 : pre.length < xs.length := by have := congrArg List.length hx; simp at this; omega
          have hget : (ns xs)[pre.length]? = some (.string ⟨x.1.toArray⟩) := by rw [hx]; exact ns_get
          obtain ⟨g, cap, hv, hg, hgl, hcl⟩ := own_one O9.out (by omega)
          have hcc := hcl _ _ hget
          simp only [Value.slice.injEq, true_and] at hv
          obtain ⟨rfl, rfl⟩ := hv
          obtain ⟨key, c⟩ := x
          simp only at hcc
          have hg15 := OL.out g rfl
          clear hM hB hx hget hcl
          gi_wp2
          refine ⟨Over.refl _ _, Under.refl _ _ _, fun o => ?_⟩
          obtain ⟨U2, hU2⟩ : ∃ U2, U.putObj l0 o = U2 := ⟨_, rfl⟩
          have P2 : Hid (Mod [l0] U U2) := Lib.hid (by rw [← hU2]; exact mod_putObj _ _ _)
          rw [hU2]
          clear hU2
          have MU2 := Lib.hid (MU.out.trans' P2.out (fun b hb => .inr (by simp at hb; omega)))
          have BU2 := Lib.hid (P2.out.blk BU.out (by simp; omega))
          have hU2s := MU2.out.size
          have c15 := BU2.out.cell (i := 0) rfl
          have f15 := BU2.out.free 0
          have c13 := (MU2.out.blk L9.out (by simp; omega)).cell (i := 0) rfl
          have cg := (MU2.out.cell (a := ⟨g, pre.length, none⟩) hgl (by simp; omega)).trans hcc
          have e1 : ((pre.length : Int) == (xs.length : Int)) = false := by simp; omega
          clear hcc
          gi_wp2
          have MS : Hid (Mod [b15] U2 (U2.setCell ⟨b15, 0, none⟩ (.int .i64 ((pre.length : Int) + 1)))) := Lib.hid ((Mod.refl [b15] U2).setCell (p := ⟨b15, 0, none⟩) (.inl (by simp)) _)
          refine ⟨Over.of_mod MS.out (by simp; omega), Under.of_mod MS.out hU2s, MU2.out.trans MS.out, ?_⟩
          have := BU2.out.set 0 (.int .i64 ((pre.length : Int) + 1))
          rw [List.length_append]
          simpa using this
        case done =>
          rintro D2 V hD2 ⟨hM, hB⟩ hK
          have MV := Lib.hid hM
          have KV := Lib.hid hK
          have c15 := hB.cell (i := 0) rfl
          have c13 := (hM.blk L9.out (by simp; omega)).cell (i := 0) rfl
          have YV := Lib.hid (hM.blk Y9.out (by simp; omega))
          have KD := Lib.hid (hM.heap K9.out (by simp; omega))
          have f4 := YV.out.free 0
          have g4 := YV.out.cell (i := 0) rfl
          have BY : Hid (∀ W : World, Calls Try.prog 15 #[.int .i64 3] W fun e w' => e = .returned (.int .i64 331) ∧ W = w') := Lib.hid fun W => bytes_any 3 (by omega) W
          clear hM hB hK
          go_wp2_with fail
          refine (BY.out _).mono ?_
          rintro e7 w7 ⟨rfl, rfl⟩
          go_wp2_with fail
          have S4 : Blk (V.setCell ⟨w.heap.size + 1, 0, none⟩ (.bool true)) (w.heap.size + 1) 4 [.bool true] := YV.out.set 0 _
          have MS := ((Mod.refl [w.heap.size + 1] V).setCell (p := ⟨w.heap.size + 1, 0, none⟩) (.inl (by simp)) (.bool true))
          have KS := MS.heap KV.out (by simp; omega)
          have KE := MS.heap KD.out (by simp; omega)
          have ME0 : Mod [] w (V.setCell ⟨w.heap.size + 1, 0, none⟩ (.bool true)) := (M9.out.trans' MV.out (fun b hb => .inr (by simp at hb; omega))).trans' MS (fun b hb => .inr (by simp at hb; omega))
          generalize V.setCell ⟨w.heap.size + 1, 0, none⟩ (.bool true) = W3 at *
          have KE2 : (W3.putObj D2 (.deferred none)).heap[D]? = some (.deferred (some [])) := (World.putObj_heap_other (by omega)).trans KE
          have E4 := putObj_blk (o' := .deferred none) (putObj_blk (o' := .deferred none) S4 KS rfl) KE2 rfl
          have ME : Mod [] w ((W3.putObj D2 (.deferred none)).putObj D (.deferred none)) := putObj_mod (putObj_mod ME0 (D := D2) (by omega) (.deferred none)) (D := D) (by omega) (.deferred none)
          have r4 := E4.cell (i := 0) rfl
          refine leave2 (by omega) KS KE (v := .bool true) (by simp [results, Try.results4, go_sem, r4]) ⟨rfl, ME⟩
set_option maxRecDepth 8000 in
theorem alike_walk (w : World) (v : Value) (ds : List Nat) (hv : v = .agg (ds.map fun x : Nat => Value.int .u64 (x : Int)).toArray) (hd : ds.length = 2 * 3) (ha : ∀ x ∈ ds, x < 18446744073709551616) (a : Option Addr) (cp : Nat) (l : List KTA) (hm : l.length ≤ maxLen) (hP : InRow w a 3 KTA.cells l) (hok : ∀ q ∈ l, q.ok) :
    Calls Try.prog 4 #[v, .slice a l.length cp] w fun e w' => e = .returned (.bool true) ∧ Mod [] w w' := by
  subst hv
  match ds, hd with
  | [a0, a1, a2, a3, a4, a5], _ =>
    by_cases hl : l.length ≤ 100
    · exact alike_main w a0 a1 a2 a3 a4 a5 ha a cp l hP hok hl
    · have d1 : decide ((100 : Int) < l.length) = true := by simp; omega
      unfold maxLen at hm
      clear hP hok
      have X4 := Lib.hid (Blk.new (w.alloc (.cells (V6 a0 a1 a2 a3 a4 a5) 38)) [.bool false] 4)
      rw [show (w.alloc (.cells (V6 a0 a1 a2 a3 a4 a5) 38)).heap.size = w.heap.size + 1 by simp] at X4
      have M0 := Lib.hid (((Mod.refl [] w).alloc (.cells (V6 a0 a1 a2 a3 a4 a5) 38)).alloc (.cells #[.bool false] 4))
      simp only [List.map_cons, List.map_nil]
      refine calls_of_wp_marks Try.func4 rfl ?_
      simp only [Try.ntmps4, List.size_toArray, List.length_cons, List.length_nil, Nat.reduceAdd, Nat.reduceSub, Array.replicate_succ, Array.replicate_zero, List.push_toArray, List.append_toArray, List.nil_append, List.cons_append]
      go_wp2_with fail
      refine (fit_any _).mono ?_
      rintro e1 w1 ⟨rfl, hM1⟩
      have M1 := Lib.hid (M0.out.trans hM1)
      have Y1 := Lib.hid (hM1.blk X4.out (by simp))
      have f4 := Y1.out.free 0
      have g4 := Y1.out.cell (i := 0) rfl
      clear hM1
      go_wp2_with fail
      have r4 := (Y1.out.set 0 (.bool true)).cell (i := 0) rfl
      exact ⟨.bool true, by simp [results, Try.results4, go_sem, r4], rfl, M1.out.setCell (p := ⟨w.heap.size + 1, 0, none⟩) (.inr (by show w.heap.size ≤ w.heap.size + 1; omega)) _⟩
end Go.Proofs.Ytajadfoannmaiaa.Pool
