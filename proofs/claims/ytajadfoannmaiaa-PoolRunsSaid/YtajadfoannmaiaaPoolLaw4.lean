/- pool's laws: PoolRuns. -/
import Derived.Test.YtajadfoannmaiaaPoolRun
namespace Go.Proofs.Ytajadfoannmaiaa.Pool
open Go Go.RowKit Go.YtajadfoannmaiaaMem Go.YtajadfoannmaiaaLex Go.YtajadfoannmaiaaRange Go.Proofs.Ytajadfoannmaiaa.Hash Go.Proofs.Ytajadfoannmaiaa.Keys Go.Proofs.Ytajadfoannmaiaa.Index Go.Proofs.Ytajadfoannmaiaa.Cell Go.Proofs.Ytajadfoannmaiaa.Arith
set_option linter.unusedVariables false
set_option linter.unusedSimpArgs false
attribute [local go_sem] Oper.semAt_some

theorem kind_of (z : Int) : ∃ t : Int, z.tmod 3 = t ∧ -3 < t ∧ t < 3 ∧ ((t + 3).tmod 3 = 0 ∨ (t + 3).tmod 3 = 1 ∨ (t + 3).tmod 3 = 2) := by
  have h1 : -3 < z.tmod 3 := by have := Int.lt_tmod_of_pos z (show (0 : Int) < 3 by omega); omega
  have h2 := Int.tmod_lt_of_pos z (show (0 : Int) < 3 by omega)
  refine ⟨z.tmod 3, rfl, h1, h2, ?_⟩
  rw [Int.tmod_eq_emod_of_nonneg (by omega)]
  omega
abbrev A3 (a0 a1 a2 : Nat) : Array Value := #[.int .u64 (a0 : Int), .int .u64 (a1 : Int), .int .u64 (a2 : Int)]
def RunsRight (w : World) (e : Ending) (w' : World) : Prop := e = .returned (.bool true) ∧ Mod [] w w'
set_option maxRecDepth 100000 in
set_option maxHeartbeats 25600000 in
theorem runs_main (w : World) (nz : Int) (a0 a1 a2 : Nat) (ha : ∀ x ∈ [a0, a1, a2], x < 18446744073709551616) (a : Option Addr) (cp : Nat) (l : List KTA) (hP : InRow w a 3 KTA.cells l) (hok : ∀ q ∈ l, q.ok) (hl : l.length ≤ 150) :
    Calls Try.prog 5 #[.int .i64 nz, .agg (A3 a0 a1 a2), .slice a l.length cp] w (RunsRight w) := by
  obtain ⟨n0, hn0, hn15⟩ : ∃ n0 : Nat, bits .and .i64 nz 7 = (n0 : Int) ∧ n0 ≤ 7 := ⟨(nz % 8).toNat, by rw [show (7 : Int) = 2 ^ 3 - 1 from rfl, and_mask _ _ (by omega)]; omega, by omega⟩
  have hr1 := rowOf_ok [a0, a1, a2]
  have R1 : Hid (∀ W : World, Blk W (w.heap.size + 1) 37 (A3 a0 a1 a2).toList → Calls Try.prog 13 #[.slice (some ⟨w.heap.size + 1, 0, none⟩) 3 3, .int .i64 1] W (RowsPost [a0, a1, a2] W)) :=
    Lib.hid fun W h => rows_at h a0 a1 a2 ⟨ha a0 (by simp), ha a1 (by simp), ha a2 (by simp)⟩ (by omega) (by unfold maxLen; omega) rfl rfl rfl
  unfold RowsPost at R1
  generalize rowOf [a0, a1, a2] = r1 at *
  have N1 := Lib.hid (fun W : World => new_any (n0 + 1) (by omega) (by omega) r1 hr1 W)
  rw [show ((n0 + 1 : Nat) : Int) = (n0 : Int) + 1 by omega] at N1
  have HP := Lib.hid hP
  have HO := Lib.hid hok
  have HL := Lib.hid hl
  have X3 := Lib.hid (((Blk.new w [.int .i64 nz] 3).alloc (.cells (A3 a0 a1 a2) 37)).alloc (.cells #[.bool false] 4))
  have X4 := Lib.hid ((Blk.new (w.alloc (.cells #[.int .i64 nz] 3)) (A3 a0 a1 a2).toList 37).alloc (.cells #[.bool false] 4))
  have X6 := Lib.hid (Blk.new ((w.alloc (.cells #[.int .i64 nz] 3)).alloc (.cells (A3 a0 a1 a2) 37)) [.bool false] 4)
  rw [show (w.alloc (.cells #[.int .i64 nz] 3)).heap.size = w.heap.size + 1 by simp] at X4
  rw [show ((w.alloc (.cells #[.int .i64 nz] 3)).alloc (.cells (A3 a0 a1 a2) 37)).heap.size = w.heap.size + 2 by simp] at X6
  have HSZ := Lib.hid (show (((w.alloc (.cells #[.int .i64 nz] 3)).alloc (.cells (A3 a0 a1 a2) 37)).alloc (.cells #[.bool false] 4)).heap.size = w.heap.size + 3 by simp)
  have M0 := Lib.hid ((((Mod.refl [] w).alloc (.cells #[.int .i64 nz] 3)).alloc (.cells (A3 a0 a1 a2) 37)).alloc (.cells #[.bool false] 4))
  have d1 : decide ((150 : Int) < l.length) = false := by simp; omega
  clear ha hr1 hP hok hl
  refine calls_of_wp_marks Try.func5 rfl ?_
  simp only [Try.ntmps5, List.size_toArray, List.length_cons, List.length_nil, Nat.reduceAdd, Nat.reduceSub, Array.replicate_succ, Array.replicate_zero, List.push_toArray, List.append_toArray, List.nil_append, List.cons_append]
  go_wp2_with fail
  refine (fit_any _).mono ?_
  rintro e1 w1 ⟨rfl, hM1⟩
  have D1 := Lib.hid hM1
  have Y3 := Lib.hid (hM1.blk X3.out (by simp))
  have Y4 := Lib.hid (hM1.blk X4.out (by simp))
  have Y6 := Lib.hid (hM1.blk X6.out (by simp))
  have hs1 := hM1.size
  rw [HSZ.out] at hs1
  have k3 := Y3.out.cell (i := 0) rfl
  have f3 := Y3.out.free 0
  have Z3 := Lib.hid (show Blk (w1.setCell ⟨w.heap.size, 0, none⟩ (.int .i64 ((n0 : Int) + 1))) w.heap.size 3 [.int .i64 ((n0 : Int) + 1)] from Y3.out.set 0 _)
  have ZM := Lib.hid ((Mod.refl [w.heap.size] w1).setCell (p := ⟨w.heap.size, 0, none⟩) (.inl (by simp)) (.int .i64 ((n0 : Int) + 1)))
  have Z4 := Lib.hid (ZM.out.blk Y4.out (by simp))
  have Z6 := Lib.hid (ZM.out.blk Y6.out (by simp))
  have M1 := Lib.hid ((M0.out.trans D1.out).trans' ZM.out (fun b hb => .inr (by simp at hb; omega)))
  have z3 := Z3.out.cell (i := 0) rfl
  have z30 := Z4.out.cell (i := 0) rfl
  have IS := Lib.hid (show IsC (w1.setCell ⟨w.heap.size, 0, none⟩ (.int .i64 ((n0 : Int) + 1))).drew w.heap.size from isC_of_cell (w := w1.setCell ⟨w.heap.size, 0, none⟩ (.int .i64 ((n0 : Int) + 1))) z3)
  clear hM1
  go_wp2_with fail
  refine wp_region_held [3] [0] [] (by kernel_rfl) (by kernel_rfl) ?_
  simp only [wpCut, List.take_succ_cons, List.take_zero, List.drop_succ_cons, List.drop_zero, List.cons_append, List.nil_append]
  go_wp2_with fail
  refine (R1.out _ Z4.out.drew).mono ?_
  rintro e2 w2 ⟨g, cap, rfl, hg, hgl, hc1, hc2, hcell, hM2⟩
  have D2 := Lib.hid hM2
  have M2 := Lib.hid (M1.out.drew.trans hM2)
  have V3 := Lib.hid (hM2.blk Z3.out.drew (by simp))
  have V6 := Lib.hid (hM2.blk Z6.out.drew (by simp))
  have q0 := hcell 0 _ rfl
  have q1 := hcell 1 _ rfl
  have q2 := hcell 2 _ rfl
  clear hM2 hcell z3 z30 k3 f3
  go_wp2_with fail
  refine ⟨D2.out, ?_⟩
  go_wp2_with fail
  refine (N1.out _).mono ?_
  rintro e3 w3 ⟨B, rfl, hA, hB, hr, hM3⟩
  obtain ⟨n, hn⟩ : ∃ n, n0 + 1 = n := ⟨_, rfl⟩
  have hnn : (n0 : Int) + 1 = (n : Int) := by omega
  have hn1 : 1 ≤ n ∧ n ≤ 8 := by omega
  have A4 := Lib.hid (show At w3 B (s0 n) by rw [← hn]; exact hA)
  have M3 := Lib.hid (M2.out.trans hM3)
  have U3 := Lib.hid (hM3.blk V3.out (by simp))
  have U6 := Lib.hid (hM3.blk V6.out (by simp))
  have BL : Hid (∀ b, b ∈ B.all → w.heap.size + 2 < b ∧ b < w3.heap.size) := Lib.hid fun b hb => by have := hB b hb; have := V6.out.lt; exact ⟨by omega, hA.lt b hb⟩
  have D3 := Lib.hid (D2.out.trans hM3)
  rw [hnn] at U3
  clear hA hB hr hM3 q0 q1 q2 hg hgl hc1 hc2 hn hn0 hn15 hs1
  go_wp2_with fail
  refine ⟨by kernel_rfl, ⟨⟨by simp, IS.out⟩, trivial⟩, ?_⟩
  have u3 := U3.out.cell (i := 0) rfl
  have mk := make_places n hn1.1 hn1.2 w3
  obtain ⟨K0, hK0⟩ : ∃ K0, List.replicate n Pl.zero = K0 := ⟨_, rfl⟩
  have AG0 := Lib.hid (agree_zero n)
  rw [hK0] at mk AG0
  have MKb := Lib.hid ((Blk.new w3 (flatP K0) 53).alloc (.cells #[.slice (some ⟨w3.heap.size, 0, none⟩) n n] 50))
  have MVb := Lib.hid (Blk.new (w3.alloc (.cells (flatP K0).toArray 53)) [.slice (some ⟨w3.heap.size, 0, none⟩) n n] 50)
  rw [show (w3.alloc (.cells (flatP K0).toArray 53)).heap.size = w3.heap.size + 1 by simp] at MVb
  have MA := Lib.hid (((Mod.refl [] w3).alloc (.cells (flatP K0).toArray 53)).alloc (.cells #[.slice (some ⟨w3.heap.size, 0, none⟩) n n] 50))
  have HS5 := Lib.hid (show ((w3.alloc (.cells (flatP K0).toArray 53)).alloc (.cells #[.slice (some ⟨w3.heap.size, 0, none⟩) n n] 50)).heap.size = w3.heap.size + 2 by simp)
  have u3a := (MA.out.blk U3.out (by simp)).cell (i := 0) rfl
  obtain ⟨FK, hFK⟩ : ∃ FK, (flatP K0).toArray = FK := ⟨_, rfl⟩
  rw [hFK] at mk MKb MVb MA HS5 u3a
  clear hK0 hFK
  go_wp2_with fail
  have hs5 := HS5.out
  clear HS5
  obtain ⟨mk_, hmk⟩ : ∃ b, w3.heap.size = b := ⟨_, rfl⟩
  obtain ⟨wB, hwB⟩ : ∃ wB, (w3.alloc (.cells FK 53)).alloc (.cells #[.slice (some ⟨w3.heap.size, 0, none⟩) n n] 50) = wB := ⟨_, rfl⟩
  have A5 := Lib.hid (A4.out.mod MA.out (by simp))
  have U3L := Lib.hid (MA.out.blk U3.out (by simp))
  have U6L := Lib.hid (MA.out.blk U6.out (by simp))
  have ML := Lib.hid (M3.out.trans MA.out)
  have hs3 := M3.out.size
  have hs6 := U6.out.lt
  rw [hwB] at MKb MVb A5 U3L U6L ML hs5 ⊢
  rw [hmk] at MKb MVb hs5 hs6 BL ⊢
  obtain ⟨vb, hvb⟩ : ∃ vb, mk_ + 1 = vb := ⟨_, rfl⟩
  rw [hvb] at MVb ⊢
  have hlay : w.heap.size + 2 < mk_ ∧ mk_ < vb ∧ vb < wB.heap.size := by omega
  clear hwB hmk hvb hs5 hs3 hs6 mk u3 u3a MA M0 M1 M2 M3 X3 X4 X6 D1 D2 D3 Y3 Y4 Y6 Z3 Z4 Z6 ZM V3 V6 U3 U6 R1 N1 IS HSZ A4
  go_loopw [9, 10] (fun f i wr => ∃ k : Nat, k ≤ n ∧ i = .int .i64 ((n : Int) - 1 - (k : Int)) ∧ wr.ownsRow wB.heap.size 3 1 f k ((frV (List.range n)).take k) ∧ Mod [] wB wr) (fun _ i _ => (intOf i + 1).toNat)
  case atStart => exact ⟨0, Nat.zero_le _, by go_num, World.ownsRow_nil _ _ _ _, Mod.refl _ _⟩
  case round =>
    obtain ⟨k, hk, rfl, hO, hM⟩ := hrel
    have OR := Lib.hid hO
    have MR := Lib.hid hM
    obtain ⟨va, vc, hva⟩ := own_slice hO
    subst hva
    by_cases hlt : k < n
    · have hget : (frV (List.range n))[k]? = some (.int .i64 ((n : Int) - 1 - (k : Int))) := by
        unfold frV
        rw [List.getElem?_map, List.getElem?_reverse (by simpa using hlt), List.length_range, List.getElem?_range (by omega)]
        show some (Value.int .i64 ((n - 1 - k : Nat) : Int)) = _
        congr 2; omega
      have htk : (frV (List.range n)).take (k + 1) = (frV (List.range n)).take k ++ [.int .i64 ((n : Int) - 1 - (k : Int))] := by rw [List.take_add_one, hget]; rfl
      have HT := Lib.hid htk
      have NBx := Lib.hid ((Blk.new wr [.int .i64 ((n : Int) - 1 - (k : Int))] 3).cell (i := 0) rfl)
      have OA := Lib.hid (World.ownsRow.alloc hO (.cells #[.int .i64 ((n : Int) - 1 - (k : Int))] 3))
      have MAl := Lib.hid ((Mod.refl [] wr).alloc (.cells #[.int .i64 ((n : Int) - 1 - (k : Int))] 3))
      have hbase : Hid (wB.heap.size ≤ (wr.alloc (.cells #[.int .i64 ((n : Int) - 1 - (k : Int))] 3)).heap.size) := Lib.hid (hM.trans MAl.out).size
      have dge : decide (0 ≤ (n : Int) - 1 - (k : Int)) = true := by simp; omega
      clear hO hM hget htk
      go_wp2_with (at_builtin; go_loud (refine app_int (.int .i64 ((n : Int) - 1 - (k : Int))) _ OA.out rfl _ _ rfl rfl rfl NBx.out rfl hbase.out (by omega) ?_); intro v' w' ho' hM'; have O2 := Lib.hid ho'; have M2 := Lib.hid hM'; clear ho' hM')
      go_roundw
      case rel => exact ⟨k + 1, by omega, by first | go_num | (congr 1; omega), by rw [HT.out]; exact O2.out, (MR.out.trans MAl.out).trans' M2.out (fun b hb => .inr (by have := own_block OR.out b (by simpa [Value.ownBlock] using hb); exact this))⟩
      case measure => simp [intOf]; omega
    · obtain rfl : n = k := by omega
      have hall : (frV (List.range n)).take n = frV (List.range n) := List.take_of_length_le (by simp [frV])
      rw [hall] at OR
      have dge : decide (0 ≤ (n : Int) - 1 - (n : Int)) = false := by simp; omega
      have dge2 : (n : Int) - 1 - (n : Int) = -1 := by omega
      have AW := Lib.hid (A5.out.mod hM (by simp))
      have KW := Lib.hid (hM.blk MKb.out (by simp))
      clear hO hM hall
      go_wp2_with fail
      clear dge dge2
      go_loopw [52, 9] (fun i f wr => ∃ (j : Nat) (s : PS) (K : List Pl), j ≤ l.length ∧ i = .int .i64 (j : Int) ∧ At wr B s ∧ s.S.length = n ∧ Agree s K ∧ Blk wr mk_ 53 (flatP K) ∧ wr.ownsRow wB.heap.size 3 1 f s.fl.length (frV s.fl) ∧ Mod (mk_ :: B.all) wB wr) (fun i _ _ => l.length - (intOf i).toNat)
      case atStart => exact ⟨0, s0 n, K0, Nat.zero_le _, rfl, AW.out, by simp [s0, emp], AG0.out, KW.out, by have := OR.out; simpa [s0] using this, MR.out.mono (by simp)⟩
      case round =>
        clear AW KW OR MR A5 MKb AG0
        obtain ⟨j, s, K, hj, rfl, hA, hSn, hG, hK, hO, hM⟩ := hrel
        have AR := Lib.hid hA
        have GR := Lib.hid hG
        have KR := Lib.hid hK
        have OR := Lib.hid hO
        have MR := Lib.hid hM
        have HSN := Lib.hid hSn
        obtain ⟨va, vc, hva⟩ := own_slice hO
        subst hva
        have hwr := hM.size
        have HSS : Hid (∀ b, b ∈ mk_ :: B.all → b < wB.heap.size ∧ w.heap.size + 2 < b ∧ b ≠ vb) := Lib.hid fun b hb => by
          rcases List.mem_cons.1 hb with rfl | hb
          · omega
          · have := BL.out b hb; omega
        have MW := Lib.hid (ML.out.trans' MR.out (fun b hb => .inr (by have := HSS.out b hb; omega)))
        have V8 := Lib.hid (MR.out.blk MVb.out (fun hb => (HSS.out _ hb).2.2 rfl))
        have V3 := Lib.hid (MR.out.blk U3L.out (fun hb => by have := HSS.out _ hb; omega))
        have V6 := Lib.hid (MR.out.blk U6L.out (fun hb => by have := HSS.out _ hb; omega))
        have hmkB : mk_ ∉ B.all := fun h => by have := BL.out _ h; omega
        have hw8 : s.fl.length + used s.S = n := by have := hA.whole.2; omega
        have hl150 := HL.out
        by_cases hlt : j < l.length
        · obtain ⟨q, hq⟩ : ∃ q, l[j]? = some q := ⟨_, List.getElem?_eq_getElem hlt⟩
          obtain ⟨b, off, rfl, hb, hcell⟩ := HP.out j q hq
          obtain ⟨z, key, t⟩ := q
          have hqo : I64 t := by have := (HO.out _ (List.mem_of_getElem? hq)).2; exact i64_of_wf this
          have CN := Lib.hid (fun W : World => Cell.new_any t 1 W)
          simp only [fresh, Cell.val] at CN
          have c0 := (MW.out.cell (a := ⟨b, off + j * 3, none⟩) hb (by simp)).trans (hcell 0 _ rfl)
          have c1 := (MW.out.cell (a := ⟨b, off + j * 3 + 1, none⟩) hb (by simp)).trans (hcell 1 _ rfl)
          have c2 := (MW.out.cell (a := ⟨b, off + j * 3 + 2, none⟩) hb (by simp)).trans (hcell 2 _ rfl)
          simp only at c0 c1 c2
          have hsz : (ByteArray.mk key.toArray).size = key.length := by simp [ByteArray.size]
          have NB := Lib.hid (Blk.new wr [.int .i64 z, .string ⟨key.toArray⟩, .int .i64 t] 44)
          have A1 := Lib.hid ((Mod.refl [] wr).alloc (.cells #[.int .i64 z, .string ⟨key.toArray⟩, .int .i64 t] 44))
          have HNL : Hid (wr.heap.size ∉ B.all) := Lib.hid fun h => by have := hA.lt _ h; omega
          by_cases h100 : key.length ≤ 100
          · have d2 : decide ((100 : Int) < key.length) = false := by simp; omega
            have v8 := (A1.out.blk V8.out (by simp)).cell (i := 0) rfl
            have cb_ := NB.out.lt
            clear hA hSn hG hK hO hM hcell hq hb
            go_wp2_with fail
            obtain ⟨wa, hwa⟩ : ∃ wa, wr.alloc (.cells #[.int .i64 z, .string ⟨key.toArray⟩, .int .i64 t] 44) = wa := ⟨_, rfl⟩
            rw [hwa] at NB A1 cb_ ⊢
            obtain ⟨cb, hcb⟩ : ∃ cb, wr.heap.size = cb := ⟨_, rfl⟩
            rw [hcb] at NB HNL cb_ ⊢
            clear hwa c0 c1 c2 v8
            go_loopw [62, 13] (fun i at_ W => ∃ i' : Nat, i' ≤ n ∧ i = .int .i64 (i' : Int) ∧ at_ = .int .i64 (atTo s.S key i') ∧ Mod [] wa W) (fun i _ _ => n - (intOf i).toNat)
            case atStart => exact ⟨0, Nat.zero_le _, rfl, by rw [atTo_zero], Mod.refl _ _⟩
            case round =>
              obtain ⟨i, hi, rfl, rfl, hM⟩ := hrel
              have MI := Lib.hid hM
              by_cases hlt2 : i < n
              · obtain ⟨x, hx⟩ : ∃ x, K[i]? = some x := ⟨_, List.getElem?_eq_getElem (by rw [GR.out.len, HSN.out]; exact hlt2)⟩
                have KB := Lib.hid (hM.blk (A1.out.blk KR.out (by simp)) (by simp))
                have g := flatP_get K i x hx
                have x0 := KB.out.cell (i := i * 6) ((g 0 (by omega)).trans rfl)
                have x1 := KB.out.cell (i := i * 6 + 1) ((g 1 (by omega)).trans rfl)
                have x2 := KB.out.cell (i := i * 6 + 2) ((g 2 (by omega)).trans rfl)
                have x3 := KB.out.cell (i := i * 6 + 3) ((g 3 (by omega)).trans rfl)
                have x4 := KB.out.cell (i := i * 6 + 4) ((g 4 (by omega)).trans rfl)
                have x5 := KB.out.cell (i := i * 6 + 5) ((g 5 (by omega)).trans rfl)
                have N1 := Lib.hid ((Mod.refl [] wr).alloc (.cells x.cells.toArray 53))
                have k1 := (hM.blk NB.out (by simp)).cell (i := 1) rfl
                have hcw := (hM.blk NB.out (by simp)).lt
                have hat : x.has = true → x.key = key → s.S[i]? = some (some key) := fun h1 h2 => by have := (GR.out.yes i x hx h1).1; rw [h2] at this; exact this
                have hat2 : ¬ (x.has = true ∧ x.key = key) → s.S[i]? ≠ some (some key) := fun h1 h2 => by
                  obtain ⟨p, hp, hp1, hp2, _⟩ := GR.out.here h2
                  rw [hx] at hp
                  obtain rfl : x = p := by simpa using hp
                  exact h1 ⟨hp1, hp2⟩
                have HT1 := Lib.hid hat
                have HT2 := Lib.hid hat2
                obtain ⟨xk, ⟨xf, xs, xc, xu⟩, xh⟩ := x
                simp only [Pl.cells] at *
                clear hM hx g hat hat2
                by_cases hxk : xk = key
                · subst hxk
                  cases xh with
                  | true =>
                    have ha := Lib.hid (atTo_hit AR.out.idx.uniq (HT1.out rfl rfl))
                    go_wp2_with fail
                    go_roundw
                    case rel => exact ⟨i + 1, by omega, by go_num, by rw [ha.out], MI.out.trans N1.out⟩
                    case measure => simp [intOf]; omega
                  | false =>
                    have ha := Lib.hid (atTo_miss (HT2.out (by simp)))
                    obtain ⟨ai, hai⟩ : ∃ ai, atTo s.S xk i = ai := ⟨_, rfl⟩
                    rw [hai] at ha ⊢
                    clear hai
                    go_wp2_with fail
                    go_roundw
                    case rel => exact ⟨i + 1, by omega, by go_num, by rw [ha.out], MI.out.trans N1.out⟩
                    case measure => simp [intOf]; omega
                · have ha := Lib.hid (atTo_miss (HT2.out (fun h => hxk h.2)))
                  have dk : (xk == key) = false := by simpa using hxk
                  obtain ⟨ai, hai⟩ : ∃ ai, atTo s.S key i = ai := ⟨_, rfl⟩
                  rw [hai] at ha ⊢
                  clear hai
                  cases xh with
                  | true =>
                    go_wp2_with fail
                    go_roundw
                    case rel => exact ⟨i + 1, by omega, by go_num, by rw [ha.out], MI.out.trans N1.out⟩
                    case measure => simp [intOf]; omega
                  | false =>
                    go_wp2_with fail
                    go_roundw
                    case rel => exact ⟨i + 1, by omega, by go_num, by rw [ha.out], MI.out.trans N1.out⟩
                    case measure => simp [intOf]; omega
              · obtain rfl : n = i := by omega
                have hat : atTo s.S key n = optInt (placeOf s.S key) := by rw [← HSN.out]; exact atTo_all
                rw [hat]
                obtain ⟨kd, hkd, hk1, hk2, hk3⟩ := kind_of z
                -- the world behind the search
                have NBc := Lib.hid (hM.blk NB.out (by simp))
                have A2 := Lib.hid ((AR.out.mod A1.out (by simp)).mod hM (by simp))
                have K2 := Lib.hid (hM.blk (A1.out.blk KR.out (by simp)) (by simp))
                have O2 := Lib.hid (hM.own (A1.out.own OR.out (by simp)) (by simp))
                have V82 := Lib.hid (hM.blk (A1.out.blk V8.out (by simp)) (by simp))
                have V32 := Lib.hid (hM.blk (A1.out.blk V3.out (by simp)) (by simp))
                have V62 := Lib.hid (hM.blk (A1.out.blk V6.out (by simp)) (by simp))
                have M2 := Lib.hid (MR.out.trans ((A1.out.trans hM).mono (by simp)))
                have k0 := NBc.out.cell (i := 0) rfl
                have k1 := NBc.out.cell (i := 1) rfl
                have k2 := NBc.out.cell (i := 2) rfl
                have v8 := V82.out.cell (i := 0) rfl
                clear hM hat MR V8 V3 V6 A1 NB AR OR KR MI MW
                rcases hk3 with hk3 | hk3 | hk3
                · as_aux_lemma =>
                  have PU : Hid (∀ W', Mod [] wr W' → Calls Try.prog 9 #[.pointer (some ⟨B.p, 0, none⟩), .string ⟨key.toArray⟩, (fresh t 1).val] W' (PutPost B (putP s key (fresh t 1)) W')) := Lib.hid fun W' hm => put_at (A2.out.mod hm (by simp)) key (by omega) (fresh t 1) (fresh_ok hqo (by unfold I64; omega))
                  have IC := Lib.hid (show IsC wr.drew cb from isC_of_cell (w := wr) k1)
                  have hcw := NBc.out.lt
                  have HAT := Lib.hid (rfl : optInt (placeOf s.S key) = optInt (placeOf s.S key))
                  obtain ⟨at_, hat_⟩ : ∃ at_, optInt (placeOf s.S key) = at_ := ⟨_, rfl⟩
                  rw [hat_]
                  have HA_ := Lib.hid hat_
                  clear hat_ HAT
                  go_wp2_with fail
                  refine wp_region_held [6] [2] [] (by kernel_rfl) (by kernel_rfl) ?_
                  simp only [wpCut, List.take_succ_cons, List.take_zero, List.drop_succ_cons, List.drop_zero, List.cons_append, List.nil_append]
                  go_wp2_with fail
                  refine (CN.out _).mono ?_
                  rintro e5 w5 ⟨rfl, hM5⟩
                  have D5 := Lib.hid hM5
                  have N5 := Lib.hid ((Mod.refl [] wr).drew.trans hM5)
                  clear hM5
                  go_wp2_with fail
                  refine ⟨D5.out, ?_⟩
                  go_wp2_with fail
                  refine (PU.out _ N5.out).mono ?_
                  rintro e6 w6 ⟨rfl, hA6, hM6⟩
                  have X6 : Hid (Mod B.all wr w6) := Lib.hid ((N5.out.mono (by simp)).trans hM6)
                  clear hM6
                  cases hp : placeOf s.S key with
                  | some p =>
                    have hat2 : at_ = (p : Int) := by rw [← HA_.out, hp]; rfl
                    subst hat2
                    have hpp : putP s key (fresh t 1) = (none, s) := by unfold putP; rw [hp]
                    rw [hpp] at hA6 ⊢
                    have A6 := Lib.hid hA6
                    have hca : cellAt B none = .pointer none := rfl
                    simp only [hca]
                    clear hA6 hp hpp hca
                    have A9 : Hid (At (w6) B (s)) := Lib.hid (A6.out)
                    have G9 : Hid (Agree (s) (K)) := Lib.hid (GR.out)
                    have K9b : Hid (Blk (w6) mk_ 53 (flatP (K))) := Lib.hid (X6.out.blk K2.out hmkB)
                    have O9 := Lib.hid (X6.out.own O2.out (fun b hb h => by have := own_block O2.out b hb; have := BL.out b h; omega))
                    have V39 : Hid (Blk (w6) w.heap.size 3 [.int .i64 (n : Int)]) := Lib.hid (X6.out.blk V32.out (fun h => by have := BL.out _ h; omega))
                    have M9 : Hid (Mod (mk_ :: B.all) wB (w6)) := Lib.hid (M2.out.trans (X6.out.mono (by simp +contextual)))
                    have HS9 : Hid ((s).S.length = n) := Lib.hid (by first | exact HSN.out | (simp; exact HSN.out))
                    obtain ⟨w9, hw9⟩ : ∃ w9, w6 = w9 := ⟨_, rfl⟩
                    obtain ⟨s9, hs9⟩ : ∃ s9, s = s9 := ⟨_, rfl⟩
                    obtain ⟨K9, hK9⟩ : ∃ K9, K = K9 := ⟨_, rfl⟩
                    obtain ⟨fn9, hfn9⟩ : ∃ fn9, s.fl.length = fn9 := ⟨_, rfl⟩
                    rw [hw9, hs9] at A9
                    rw [hs9, hK9] at G9
                    rw [hw9, hK9] at K9b
                    rw [hw9, hfn9, hs9] at O9
                    rw [hw9] at V39 M9
                    rw [hs9] at HS9
                    have HFN9 : Hid (s9.fl.length = fn9) := Lib.hid (by rw [← hs9]; exact hfn9)
                    rw [hw9, hfn9]
                    clear hw9 hs9 hK9 hfn9
                    go_wp2_with fail
                    refine ⟨by kernel_rfl, ⟨⟨by simp, IC.out⟩, trivial⟩, ?_⟩
                    have LN := Lib.hid (len_any (A9.out.mod ((Mod.refl [] w9).drew) (by simp)))
                    have FU : Hid (∀ W', Mod [] w9.drew W' → Calls Try.prog 17 #[.pointer (some ⟨B.p, 0, none⟩)] W' fun e w' => e = .returned (.bool (decide (s9.fl = []))) ∧ Mod [] W' w') := Lib.hid fun W' hm => full_any ((A9.out.mod ((Mod.refl [] w9).drew) (by simp)).mod hm (by simp))
                    have hwh := A9.out.whole.2
                    have v3 := V39.out.cell (i := 0) rfl
                    have IS3 := Lib.hid (show IsC w9.drew w.heap.size from isC_of_cell (w := w9) v3)
                    obtain ⟨u9, hu9⟩ : ∃ u, used s9.S = u := ⟨_, rfl⟩
                    obtain ⟨fb, hfb⟩ : ∃ fb, decide (s9.fl = []) = fb := ⟨_, rfl⟩
                    have hz : ((fn9 : Int) == 0) = fb := by rw [← hfb, ← HFN9.out]; exact (len_zero s9.fl).1
                    have hz2 : (fn9 == 0) = fb := by rw [← hfb, ← HFN9.out]; exact (len_zero s9.fl).2
                    have hh : (n : Int) - (fn9 : Int) = (u9 : Int) := by have := HS9.out; have := HFN9.out; omega
                    rw [hu9] at LN
                    rw [hfb] at FU
                    clear hu9 hfb hwh
                    go_wp2_with fail
                    refine wp_region_held [2] [2] [] (by kernel_rfl) (by kernel_rfl) ?_
                    simp only [wpCut, List.take_succ_cons, List.take_zero, List.drop_succ_cons, List.drop_zero, List.cons_append, List.nil_append]
                    go_wp2_with fail
                    refine LN.out.mono ?_
                    rintro e7 w7 ⟨rfl, rfl⟩
                    go_wp2_with fail
                    refine ⟨Mod.refl _ _, ?_⟩
                    go_wp2_with fail
                    refine (FU.out _ (Mod.refl _ _)).mono ?_
                    rintro e8 w8 ⟨rfl, hM8⟩
                    have N8 := Lib.hid ((Mod.refl [] w9).drew.trans hM8)
                    clear hM8
                    go_wp2_with fail
                    refine ⟨by kernel_rfl, ⟨⟨by simp, IS3.out⟩, trivial⟩, ?_⟩
                    go_wp2_with fail
                    go_roundw
                    case rel => exact ⟨j + 1, s9, K9, by omega, by go_num, A9.out.mod N8.out (by simp), HS9.out, G9.out, N8.out.blk K9b.out (by simp), by rw [HFN9.out]; exact N8.out.own O9.out (by simp), M9.out.trans (N8.out.mono (by simp))⟩
                    case measure => simp [intOf]; omega
                  | none =>
                    have hat2 : at_ = -1 := by rw [← HA_.out, hp]; rfl
                    subst hat2
                    obtain ⟨fl0, hfl⟩ : ∃ fl0, s.fl = fl0 := ⟨_, rfl⟩
                    cases fl0 with
                    | nil =>
                      have hpp : putP s key (fresh t 1) = (none, s) := by unfold putP; rw [hp, hfl]
                      rw [hpp] at hA6 ⊢
                      have A6 := Lib.hid hA6
                      have hca : cellAt B none = .pointer none := rfl
                      simp only [hca]
                      clear hA6 hp hpp hca
                      have A9 : Hid (At (w6) B (s)) := Lib.hid (A6.out)
                      have G9 : Hid (Agree (s) (K)) := Lib.hid (GR.out)
                      have K9b : Hid (Blk (w6) mk_ 53 (flatP (K))) := Lib.hid (X6.out.blk K2.out hmkB)
                      have O9 := Lib.hid (X6.out.own O2.out (fun b hb h => by have := own_block O2.out b hb; have := BL.out b h; omega))
                      have V39 : Hid (Blk (w6) w.heap.size 3 [.int .i64 (n : Int)]) := Lib.hid (X6.out.blk V32.out (fun h => by have := BL.out _ h; omega))
                      have M9 : Hid (Mod (mk_ :: B.all) wB (w6)) := Lib.hid (M2.out.trans (X6.out.mono (by simp +contextual)))
                      have HS9 : Hid ((s).S.length = n) := Lib.hid (by first | exact HSN.out | (simp; exact HSN.out))
                      obtain ⟨w9, hw9⟩ : ∃ w9, w6 = w9 := ⟨_, rfl⟩
                      obtain ⟨s9, hs9⟩ : ∃ s9, s = s9 := ⟨_, rfl⟩
                      obtain ⟨K9, hK9⟩ : ∃ K9, K = K9 := ⟨_, rfl⟩
                      obtain ⟨fn9, hfn9⟩ : ∃ fn9, s.fl.length = fn9 := ⟨_, rfl⟩
                      rw [hw9, hs9] at A9
                      rw [hs9, hK9] at G9
                      rw [hw9, hK9] at K9b
                      rw [hw9, hfn9, hs9] at O9
                      rw [hw9] at V39 M9
                      rw [hs9] at HS9
                      have HFN9 : Hid (s9.fl.length = fn9) := Lib.hid (by rw [← hs9]; exact hfn9)
                      have dz : decide (0 < (fn9 : Int)) = false := by rw [← hfn9, hfl]; rfl
                      have dz2 : decide (0 < fn9) = false := by rw [← hfn9, hfl]; rfl
                      clear hfl
                      rw [hw9, hfn9]
                      clear hw9 hs9 hK9 hfn9
                      go_wp2_with fail
                      refine ⟨by kernel_rfl, ⟨⟨by simp, IC.out⟩, trivial⟩, ?_⟩
                      have LN := Lib.hid (len_any (A9.out.mod ((Mod.refl [] w9).drew) (by simp)))
                      have FU : Hid (∀ W', Mod [] w9.drew W' → Calls Try.prog 17 #[.pointer (some ⟨B.p, 0, none⟩)] W' fun e w' => e = .returned (.bool (decide (s9.fl = []))) ∧ Mod [] W' w') := Lib.hid fun W' hm => full_any ((A9.out.mod ((Mod.refl [] w9).drew) (by simp)).mod hm (by simp))
                      have hwh := A9.out.whole.2
                      have v3 := V39.out.cell (i := 0) rfl
                      have IS3 := Lib.hid (show IsC w9.drew w.heap.size from isC_of_cell (w := w9) v3)
                      obtain ⟨u9, hu9⟩ : ∃ u, used s9.S = u := ⟨_, rfl⟩
                      obtain ⟨fb, hfb⟩ : ∃ fb, decide (s9.fl = []) = fb := ⟨_, rfl⟩
                      have hz : ((fn9 : Int) == 0) = fb := by rw [← hfb, ← HFN9.out]; exact (len_zero s9.fl).1
                      have hz2 : (fn9 == 0) = fb := by rw [← hfb, ← HFN9.out]; exact (len_zero s9.fl).2
                      have hh : (n : Int) - (fn9 : Int) = (u9 : Int) := by have := HS9.out; have := HFN9.out; omega
                      rw [hu9] at LN
                      rw [hfb] at FU
                      clear hu9 hfb hwh
                      go_wp2_with fail
                      refine wp_region_held [2] [2] [] (by kernel_rfl) (by kernel_rfl) ?_
                      simp only [wpCut, List.take_succ_cons, List.take_zero, List.drop_succ_cons, List.drop_zero, List.cons_append, List.nil_append]
                      go_wp2_with fail
                      refine LN.out.mono ?_
                      rintro e7 w7 ⟨rfl, rfl⟩
                      go_wp2_with fail
                      refine ⟨Mod.refl _ _, ?_⟩
                      go_wp2_with fail
                      refine (FU.out _ (Mod.refl _ _)).mono ?_
                      rintro e8 w8 ⟨rfl, hM8⟩
                      have N8 := Lib.hid ((Mod.refl [] w9).drew.trans hM8)
                      clear hM8
                      go_wp2_with fail
                      refine ⟨by kernel_rfl, ⟨⟨by simp, IS3.out⟩, trivial⟩, ?_⟩
                      go_wp2_with fail
                      go_roundw
                      case rel => exact ⟨j + 1, s9, K9, by omega, by go_num, A9.out.mod N8.out (by simp), HS9.out, G9.out, N8.out.blk K9b.out (by simp), by rw [HFN9.out]; exact N8.out.own O9.out (by simp), M9.out.trans (N8.out.mono (by simp))⟩
                      case measure => simp [intOf]; omega
                    | cons f0 fl' =>
                      by_cases h64 : key.length ≤ 64
                      · as_aux_lemma =>
                        have hpp : putP s key (fresh t 1) = (some f0, ⟨s.S.set f0 (some key), fl', s.C.set f0 (fresh t 1)⟩) := by unfold putP; rw [hp, hfl]; simp [h64]
                        rw [hpp] at hA6 ⊢
                        have A6 := Lib.hid hA6
                        have hca : cellAt B (some f0) = .pointer (some ⟨B.cb, f0 * 4, none⟩) := rfl
                        simp only [hca]
                        have hS0 : s.S[f0]? = some none := by have := A2.out.idx; rw [hfl] at this; exact this.free0
                        have hf0 : f0 < n := by have := (List.getElem?_eq_some_iff.1 hS0).1; rw [HSN.out] at this; exact this
                        obtain ⟨x, hx⟩ : ∃ x, K[f0]? = some x := ⟨_, List.getElem?_eq_getElem (by rw [GR.out.len, HSN.out]; exact hf0)⟩
                        obtain ⟨fm, hfm⟩ : ∃ fm, fl'.length = fm := ⟨_, rfl⟩
                        have hlen : s.fl.length = fm + 1 := by rw [hfl, List.length_cons, hfm]
                        have OX := O2.out
                        rw [hlen, hfl] at OX
                        obtain ⟨gf, cf, hvf, hgf1, hgf2, _⟩ := own_nil_iff (n := fm + 1) OX (by omega)
                        simp only [Value.slice.injEq, true_and] at hvf
                        obtain ⟨rfl, rfl⟩ := hvf
                        have hlast : (frV (f0 :: fl'))[fm]? = some (.int .i64 (f0 : Int)) := by rw [frV_cons, List.getElem?_append_right (by simp [frV, hfm]), show fm - (frV fl').length = 0 by simp [frV, hfm]]; rfl
                        have O6 := Lib.hid (X6.out.own OX (fun b hb h => by have := own_block OX b hb; have := BL.out b h; omega))
                        have gl := own_get O6.out hlast
                        have K6 := Lib.hid (X6.out.blk K2.out hmkB)
                        have C6 := Lib.hid (X6.out.blk NBc.out HNL.out)
                        have V86 := Lib.hid (X6.out.blk V82.out (fun h => by have := BL.out _ h; omega))
                        have q1 := C6.out.cell (i := 1) rfl
                        have q2 := C6.out.cell (i := 2) rfl
                        have q8 := V86.out.cell (i := 0) rfl
                        have ISv := Lib.hid (show IsC w6.drew vb from isC_of_cell (w := w6) q8)
                        have ISg := Lib.hid (show IsC w6.drew gf from isC_of_cell (w := w6) gl)
                        have ISc := Lib.hid (show IsC w6.drew cb from isC_of_cell (w := w6) q1)
                        have dz : decide (0 < (fm : Int) + 1) = true := decide_eq_true (by omega)
                        have d64 : decide ((key.length : Int) ≤ 64) = true := by simp; omega
                        have d642 : decide (key.length ≤ 64) = true := by simp; omega
                        have hfm8 : fm ≤ 8 := by have := A2.out.whole.2; have h2 := HSN.out; omega
                        have hmc : fm + 1 ≤ vc ∧ vc ≤ maxLen := by
                          rcases OX.2 with ⟨hv, _⟩ | ⟨g', cap, cur, hv, h1, h2, h3, h4, h5, h6⟩
                          · cases hv
                          · simp only [Value.slice.injEq, true_and] at hv
                            obtain ⟨_, rfl⟩ := hv
                            omega
                        have gk := flatP_get K f0 x hx
                        have HX := Lib.hid hx
                        have HFL := Lib.hid hfl
                        have HFM := Lib.hid hfm
                        have HGK := Lib.hid gk
                        have HG0 := Lib.hid (show Agree ⟨s.S.set f0 (some key), fl', s.C.set f0 (fresh t 1)⟩ (K.set f0 ⟨key, fresh t 1, true⟩) by
                          have h := GR.out
                          obtain ⟨sS, sfl, sC⟩ := s
                          simp only at hfl
                          subst hfl
                          exact h.put (by have := HSN.out; simp only at this; omega) key (fresh t 1))
                        rw [hlen]
                        have HLEN := Lib.hid hlen
                        clear hA6 hp hpp hca hlen hlast hx gk hfl hfm OX hS0
                        go_wp2_with fail
                        refine ⟨by kernel_rfl, ⟨⟨by simp, IC.out⟩, trivial⟩, ?_⟩
                        go_wp2_with fail
                        refine wp_region_held [12] [0, 6, 8] [] (by kernel_rfl) (by kernel_rfl) ?_
                        simp only [wpCut, List.take_succ_cons, List.take_zero, List.drop_succ_cons, List.drop_zero, List.cons_append, List.nil_append]
                        go_wp2_with fail
                        refine (CN.out _).mono ?_
                        rintro e10 w10 ⟨rfl, hM10⟩
                        have D10 := Lib.hid hM10
                        have N10 := Lib.hid ((Mod.refl [] w6).drew.trans hM10)
                        clear hM10
                        have KW := Lib.hid (N10.out.blk K6.out (by simp))
                        have gk := HGK.out
                        obtain ⟨xk, ⟨xf, xs, xc, xu⟩, xh⟩ := x
                        simp only [Pl.cells] at gk
                        have y0 := KW.out.cell (i := f0 * 6) ((gk 0 (by omega)).trans rfl)
                        have y1 := KW.out.cell (i := f0 * 6 + 1) ((gk 1 (by omega)).trans rfl)
                        have y2 := KW.out.cell (i := f0 * 6 + 2) ((gk 2 (by omega)).trans rfl)
                        have y3 := KW.out.cell (i := f0 * 6 + 3) ((gk 3 (by omega)).trans rfl)
                        have y4 := KW.out.cell (i := f0 * 6 + 4) ((gk 4 (by omega)).trans rfl)
                        have y5 := KW.out.cell (i := f0 * 6 + 5) ((gk 5 (by omega)).trans rfl)
                        have ff := fun i => KW.out.free i
                        clear gk
                        go_wp2_with fail
                        refine ⟨D10.out, ?_⟩
                        go_wp2_with fail
                        refine ⟨by kernel_rfl, ⟨⟨by simp, ISv.out⟩, ⟨by simp, ISg.out⟩, ⟨by simp, ISc.out⟩, trivial⟩, ?_⟩
                        obtain ⟨w12, hw12⟩ : ∃ w12, (((((w10.setCell ⟨mk_, f0 * 6, none⟩ (.string ⟨key.toArray⟩)).setCell ⟨mk_, f0 * 6 + 1, none⟩ (.int .i64 t)).setCell ⟨mk_, f0 * 6 + 2, none⟩ (.int .i64 t)).setCell ⟨mk_, f0 * 6 + 3, none⟩ (.int .i64 1)).setCell ⟨mk_, f0 * 6 + 4, none⟩ (.int .i64 0)).setCell ⟨mk_, f0 * 6 + 5, none⟩ (.bool true) = w12 := ⟨_, rfl⟩
                        have M12 : Hid (Mod [mk_] w10 w12) := Lib.hid (by rw [← hw12]; exact ((((((Mod.refl [mk_] w10).setCell (p := ⟨mk_, _, none⟩) (.inl (by simp)) _).setCell (p := ⟨mk_, _, none⟩) (.inl (by simp)) _).setCell (p := ⟨mk_, _, none⟩) (.inl (by simp)) _).setCell (p := ⟨mk_, _, none⟩) (.inl (by simp)) _).setCell (p := ⟨mk_, _, none⟩) (.inl (by simp)) _).setCell (p := ⟨mk_, _, none⟩) (.inl (by simp)) _)
                        have K9b : Hid (Blk w12 mk_ 53 (flatP (K.set f0 ⟨key, fresh t 1, true⟩))) := Lib.hid (by
                          rw [← hw12, flatP_set _ _ _ (List.getElem?_eq_some_iff.1 HX.out).1]
                          exact (((((KW.out.set _ _).set _ _).set _ _).set _ _).set _ _).set _ _)
                        try rw [hw12]
                        clear hw12 y0 y1 y2 y3 y4 y5 ff q1 q2 q8 gl
                        have Z12 : Hid (Mod [mk_] w6 w12) := Lib.hid ((N10.out.mono (by simp)).trans M12.out)
                        have A9 := Lib.hid (A6.out.mod Z12.out (fun b hb h => by simp at h; subst h; exact hmkB hb))
                        have G9 := HG0
                        have OT := Z12.out.own (own_take (m := fm) O6.out (by omega)) (fun b hb h => by simp at h; subst h; have := own_block O6.out b hb; omega)
                        rw [show (frV (f0 :: fl')).take (fm * 1) = frV fl' by rw [frV_cons, Nat.mul_one, List.take_append_of_le_length (by simp [frV, HFM.out]), List.take_of_length_le (by simp [frV, HFM.out])]] at OT
                        have O9 := Lib.hid OT
                        have V39 := Lib.hid (Z12.out.blk (X6.out.blk V32.out (fun h => by have := BL.out _ h; omega)) (by simp; omega))
                        have M9 := Lib.hid (M2.out.trans ((X6.out.mono (fun b hb => .inl (by simp [hb]))).trans (Z12.out.mono (by simp))))
                        obtain ⟨w9, hw9⟩ : ∃ w9, w12 = w9 := ⟨_, rfl⟩
                        obtain ⟨s9, hs9⟩ : ∃ s9, (⟨s.S.set f0 (some key), fl', s.C.set f0 (fresh t 1)⟩ : PS) = s9 := ⟨_, rfl⟩
                        obtain ⟨K9, hK9⟩ : ∃ K9, K.set f0 ⟨key, fresh t 1, true⟩ = K9 := ⟨_, rfl⟩
                        obtain ⟨fn9, hfn9⟩ : ∃ fn9, fm = fn9 := ⟨_, rfl⟩
                        have HS9 : Hid (s9.S.length = n) := Lib.hid (by rw [← hs9]; simp; exact HSN.out)
                        have HFN9 : Hid (s9.fl.length = fn9) := Lib.hid (by rw [← hs9, ← hfn9]; exact HFM.out)
                        rw [show fl' = s9.fl by rw [← hs9]] at O9
                        rw [hw9, hs9] at A9
                        rw [hs9, hK9] at G9
                        rw [hw9, hK9] at K9b
                        rw [hw9, hfn9] at O9
                        rw [hw9] at V39 M9
                        rw [hw9]
                        try rw [hfn9]
                        clear hw9 hs9 hK9
                        go_wp2_with fail
                        try rw [hfn9]
                        clear hfn9
                        have LN := Lib.hid (len_any (A9.out.mod ((Mod.refl [] w9).drew) (by simp)))
                        have FU : Hid (∀ W', Mod [] w9.drew W' → Calls Try.prog 17 #[.pointer (some ⟨B.p, 0, none⟩)] W' fun e w' => e = .returned (.bool (decide (s9.fl = []))) ∧ Mod [] W' w') := Lib.hid fun W' hm => full_any ((A9.out.mod ((Mod.refl [] w9).drew) (by simp)).mod hm (by simp))
                        have hwh := A9.out.whole.2
                        have v3 := V39.out.cell (i := 0) rfl
                        have IS3 := Lib.hid (show IsC w9.drew w.heap.size from isC_of_cell (w := w9) v3)
                        obtain ⟨u9, hu9⟩ : ∃ u, used s9.S = u := ⟨_, rfl⟩
                        obtain ⟨fb, hfb⟩ : ∃ fb, decide (s9.fl = []) = fb := ⟨_, rfl⟩
                        have hz : ((fn9 : Int) == 0) = fb := by rw [← hfb, ← HFN9.out]; exact (len_zero s9.fl).1
                        have hz2 : (fn9 == 0) = fb := by rw [← hfb, ← HFN9.out]; exact (len_zero s9.fl).2
                        have hh : (n : Int) - (fn9 : Int) = (u9 : Int) := by have := HS9.out; have := HFN9.out; omega
                        rw [hu9] at LN
                        rw [hfb] at FU
                        clear hu9 hfb hwh
                        go_wp2_with fail
                        refine wp_region_held [2] [2] [] (by kernel_rfl) (by kernel_rfl) ?_
                        simp only [wpCut, List.take_succ_cons, List.take_zero, List.drop_succ_cons, List.drop_zero, List.cons_append, List.nil_append]
                        go_wp2_with fail
                        refine LN.out.mono ?_
                        rintro e7 w7 ⟨rfl, rfl⟩
                        go_wp2_with fail
                        refine ⟨Mod.refl _ _, ?_⟩
                        go_wp2_with fail
                        refine (FU.out _ (Mod.refl _ _)).mono ?_
                        rintro e8 w8 ⟨rfl, hM8⟩
                        have N8 := Lib.hid ((Mod.refl [] w9).drew.trans hM8)
                        clear hM8
                        go_wp2_with fail
                        refine ⟨by kernel_rfl, ⟨⟨by simp, IS3.out⟩, trivial⟩, ?_⟩
                        go_wp2_with fail
                        go_roundw
                        case rel => exact ⟨j + 1, s9, K9, by omega, by go_num, A9.out.mod N8.out (by simp), HS9.out, G9.out, N8.out.blk K9b.out (by simp), by rw [HFN9.out]; exact N8.out.own O9.out (by simp), M9.out.trans (N8.out.mono (by simp))⟩
                        case measure => simp [intOf]; omega
                      · as_aux_lemma =>
                        have hpp : putP s key (fresh t 1) = (none, s) := by unfold putP; rw [hp, hfl]; simp [h64]
                        rw [hpp] at hA6 ⊢
                        have A6 := Lib.hid hA6
                        have hca : cellAt B none = .pointer none := rfl
                        simp only [hca]
                        clear hA6 hp hpp hca
                        have A9 : Hid (At (w6) B (s)) := Lib.hid (A6.out)
                        have G9 : Hid (Agree (s) (K)) := Lib.hid (GR.out)
                        have K9b : Hid (Blk (w6) mk_ 53 (flatP (K))) := Lib.hid (X6.out.blk K2.out hmkB)
                        have O9 := Lib.hid (X6.out.own O2.out (fun b hb h => by have := own_block O2.out b hb; have := BL.out b h; omega))
                        have V39 : Hid (Blk (w6) w.heap.size 3 [.int .i64 (n : Int)]) := Lib.hid (X6.out.blk V32.out (fun h => by have := BL.out _ h; omega))
                        have M9 : Hid (Mod (mk_ :: B.all) wB (w6)) := Lib.hid (M2.out.trans (X6.out.mono (by simp +contextual)))
                        have HS9 : Hid ((s).S.length = n) := Lib.hid (by first | exact HSN.out | (simp; exact HSN.out))
                        obtain ⟨w9, hw9⟩ : ∃ w9, w6 = w9 := ⟨_, rfl⟩
                        obtain ⟨s9, hs9⟩ : ∃ s9, s = s9 := ⟨_, rfl⟩
                        obtain ⟨K9, hK9⟩ : ∃ K9, K = K9 := ⟨_, rfl⟩
                        obtain ⟨fn9, hfn9⟩ : ∃ fn9, s.fl.length = fn9 := ⟨_, rfl⟩
                        rw [hw9, hs9] at A9
                        rw [hs9, hK9] at G9
                        rw [hw9, hK9] at K9b
                        rw [hw9, hfn9, hs9] at O9
                        rw [hw9] at V39 M9
                        rw [hs9] at HS9
                        have HFN9 : Hid (s9.fl.length = fn9) := Lib.hid (by rw [← hs9]; exact hfn9)
                        have q1 := (X6.out.blk NBc.out HNL.out).cell (i := 1) rfl
                        rw [hw9] at q1
                        have dz : decide (0 < (fn9 : Int)) = true := decide_eq_true (by rw [← hfn9, hfl, List.length_cons]; omega)
                        have dz2 : decide (0 < fn9) = true := by rw [← hfn9, hfl]; simp
                        have d64 : decide ((key.length : Int) ≤ 64) = false := by simp; omega
                        have d642 : decide (key.length ≤ 64) = false := by simp; omega
                        clear hfl
                        rw [hw9, hfn9]
                        clear hw9 hs9 hK9 hfn9
                        go_wp2_with fail
                        refine ⟨by kernel_rfl, ⟨⟨by simp, IC.out⟩, trivial⟩, ?_⟩
                        have LN := Lib.hid (len_any (A9.out.mod ((Mod.refl [] w9).drew) (by simp)))
                        have FU : Hid (∀ W', Mod [] w9.drew W' → Calls Try.prog 17 #[.pointer (some ⟨B.p, 0, none⟩)] W' fun e w' => e = .returned (.bool (decide (s9.fl = []))) ∧ Mod [] W' w') := Lib.hid fun W' hm => full_any ((A9.out.mod ((Mod.refl [] w9).drew) (by simp)).mod hm (by simp))
                        have hwh := A9.out.whole.2
                        have v3 := V39.out.cell (i := 0) rfl
                        have IS3 := Lib.hid (show IsC w9.drew w.heap.size from isC_of_cell (w := w9) v3)
                        obtain ⟨u9, hu9⟩ : ∃ u, used s9.S = u := ⟨_, rfl⟩
                        obtain ⟨fb, hfb⟩ : ∃ fb, decide (s9.fl = []) = fb := ⟨_, rfl⟩
                        have hz : ((fn9 : Int) == 0) = fb := by rw [← hfb, ← HFN9.out]; exact (len_zero s9.fl).1
                        have hz2 : (fn9 == 0) = fb := by rw [← hfb, ← HFN9.out]; exact (len_zero s9.fl).2
                        have hh : (n : Int) - (fn9 : Int) = (u9 : Int) := by have := HS9.out; have := HFN9.out; omega
                        rw [hu9] at LN
                        rw [hfb] at FU
                        clear hu9 hfb hwh
                        go_wp2_with fail
                        refine wp_region_held [2] [2] [] (by kernel_rfl) (by kernel_rfl) ?_
                        simp only [wpCut, List.take_succ_cons, List.take_zero, List.drop_succ_cons, List.drop_zero, List.cons_append, List.nil_append]
                        go_wp2_with fail
                        refine LN.out.mono ?_
                        rintro e7 w7 ⟨rfl, rfl⟩
                        go_wp2_with fail
                        refine ⟨Mod.refl _ _, ?_⟩
                        go_wp2_with fail
                        refine (FU.out _ (Mod.refl _ _)).mono ?_
                        rintro e8 w8 ⟨rfl, hM8⟩
                        have N8 := Lib.hid ((Mod.refl [] w9).drew.trans hM8)
                        clear hM8
                        go_wp2_with fail
                        refine ⟨by kernel_rfl, ⟨⟨by simp, IS3.out⟩, trivial⟩, ?_⟩
                        go_wp2_with fail
                        go_roundw
                        case rel => exact ⟨j + 1, s9, K9, by omega, by go_num, A9.out.mod N8.out (by simp), HS9.out, G9.out, N8.out.blk K9b.out (by simp), by rw [HFN9.out]; exact N8.out.own O9.out (by simp), M9.out.trans (N8.out.mono (by simp))⟩
                        case measure => simp [intOf]; omega
                · as_aux_lemma =>
                  have RM : Hid (∀ W', Mod [] wr W' → Calls Try.prog 14 #[.pointer (some ⟨B.p, 0, none⟩), .string ⟨key.toArray⟩] W' (RemovePost B (remP s key) W')) := Lib.hid fun W' hm => rem_at (A2.out.mod hm (by simp)) key (by omega)
                  have hcw := NBc.out.lt
                  obtain ⟨at_, hat_⟩ : ∃ at_, optInt (placeOf s.S key) = at_ := ⟨_, rfl⟩
                  rw [hat_]
                  have HA_ := Lib.hid hat_
                  clear hat_
                  go_wp2_with fail
                  refine (RM.out _ (Mod.refl _ _)).mono ?_
                  rintro e6 w6 ⟨rfl, hA6, hM6⟩
                  have X6 : Hid (Mod B.all wr w6) := Lib.hid hM6
                  have V86 := Lib.hid (hM6.blk V82.out (fun h => by have := BL.out _ h; omega))
                  have q8 := V86.out.cell (i := 0) rfl
                  clear hM6
                  cases hp : placeOf s.S key with
                  | none =>
                    have hat2 : at_ = -1 := by rw [← HA_.out, hp]; rfl
                    subst hat2
                    have hrm : remP s key = (Cell.zero, false, s) := by unfold remP; rw [hp]
                    rw [hrm] at hA6 ⊢
                    have A6 := Lib.hid hA6
                    simp only [Cell.zero, Cell.val]
                    have N6 := Lib.hid (((Mod.refl [] w6).alloc (.cells #[.int .i64 0, .int .i64 0, .int .i64 0, .int .i64 0] 32)).drew)
                    have X7 : Hid (Mod B.all wr ((w6.alloc (.cells #[.int .i64 0, .int .i64 0, .int .i64 0, .int .i64 0] 32)).drew)) := Lib.hid (X6.out.trans (N6.out.mono (by simp)))
                    clear hA6 hp hrm
                    go_wp2_with fail
                    refine wp_region_lex (by kernel_rfl) (by kernel_rfl) ?_
                    go_wp2_with fail
                    refine ⟨by kernel_rfl, ?_⟩
                    have A9 : Hid (At (((w6.alloc (.cells #[.int .i64 0, .int .i64 0, .int .i64 0, .int .i64 0] 32)).drew)) B (s)) := Lib.hid (A6.out.mod N6.out (by simp))
                    have G9 : Hid (Agree (s) (K)) := Lib.hid (GR.out)
                    have K9b : Hid (Blk (((w6.alloc (.cells #[.int .i64 0, .int .i64 0, .int .i64 0, .int .i64 0] 32)).drew)) mk_ 53 (flatP (K))) := Lib.hid (X7.out.blk K2.out hmkB)
                    have O9 := Lib.hid (X7.out.own O2.out (fun b hb h => by have := own_block O2.out b hb; have := BL.out b h; omega))
                    have V39 : Hid (Blk (((w6.alloc (.cells #[.int .i64 0, .int .i64 0, .int .i64 0, .int .i64 0] 32)).drew)) w.heap.size 3 [.int .i64 (n : Int)]) := Lib.hid (X7.out.blk V32.out (fun h => by have := BL.out _ h; omega))
                    have M9 : Hid (Mod (mk_ :: B.all) wB (((w6.alloc (.cells #[.int .i64 0, .int .i64 0, .int .i64 0, .int .i64 0] 32)).drew))) := Lib.hid (M2.out.trans (X7.out.mono (by simp +contextual)))
                    have HS9 : Hid ((s).S.length = n) := Lib.hid (by first | exact HSN.out | (simp; exact HSN.out))
                    obtain ⟨w9, hw9⟩ : ∃ w9, ((w6.alloc (.cells #[.int .i64 0, .int .i64 0, .int .i64 0, .int .i64 0] 32)).drew) = w9 := ⟨_, rfl⟩
                    obtain ⟨s9, hs9⟩ : ∃ s9, s = s9 := ⟨_, rfl⟩
                    obtain ⟨K9, hK9⟩ : ∃ K9, K = K9 := ⟨_, rfl⟩
                    obtain ⟨fn9, hfn9⟩ : ∃ fn9, s.fl.length = fn9 := ⟨_, rfl⟩
                    rw [hw9, hs9] at A9
                    rw [hs9, hK9] at G9
                    rw [hw9, hK9] at K9b
                    rw [hw9, hfn9, hs9] at O9
                    rw [hw9] at V39 M9
                    rw [hs9] at HS9
                    have HFN9 : Hid (s9.fl.length = fn9) := Lib.hid (by rw [← hs9]; exact hfn9)
                    rw [hw9, hfn9]
                    clear hw9 hs9 hK9 hfn9 q8
                    have LN := Lib.hid (len_any (A9.out.mod ((Mod.refl [] w9).drew) (by simp)))
                    have FU : Hid (∀ W', Mod [] w9.drew W' → Calls Try.prog 17 #[.pointer (some ⟨B.p, 0, none⟩)] W' fun e w' => e = .returned (.bool (decide (s9.fl = []))) ∧ Mod [] W' w') := Lib.hid fun W' hm => full_any ((A9.out.mod ((Mod.refl [] w9).drew) (by simp)).mod hm (by simp))
                    have hwh := A9.out.whole.2
                    have v3 := V39.out.cell (i := 0) rfl
                    have IS3 := Lib.hid (show IsC w9.drew w.heap.size from isC_of_cell (w := w9) v3)
                    obtain ⟨u9, hu9⟩ : ∃ u, used s9.S = u := ⟨_, rfl⟩
                    obtain ⟨fb, hfb⟩ : ∃ fb, decide (s9.fl = []) = fb := ⟨_, rfl⟩
                    have hz : ((fn9 : Int) == 0) = fb := by rw [← hfb, ← HFN9.out]; exact (len_zero s9.fl).1
                    have hz2 : (fn9 == 0) = fb := by rw [← hfb, ← HFN9.out]; exact (len_zero s9.fl).2
                    have hh : (n : Int) - (fn9 : Int) = (u9 : Int) := by have := HS9.out; have := HFN9.out; omega
                    rw [hu9] at LN
                    rw [hfb] at FU
                    clear hu9 hfb hwh
                    go_wp2_with fail
                    refine wp_region_held [2] [2] [] (by kernel_rfl) (by kernel_rfl) ?_
                    simp only [wpCut, List.take_succ_cons, List.take_zero, List.drop_succ_cons, List.drop_zero, List.cons_append, List.nil_append]
                    go_wp2_with fail
                    refine LN.out.mono ?_
                    rintro e7 w7 ⟨rfl, rfl⟩
                    go_wp2_with fail
                    refine ⟨Mod.refl _ _, ?_⟩
                    go_wp2_with fail
                    refine (FU.out _ (Mod.refl _ _)).mono ?_
                    rintro e8 w8 ⟨rfl, hM8⟩
                    have N8 := Lib.hid ((Mod.refl [] w9).drew.trans hM8)
                    clear hM8
                    go_wp2_with fail
                    refine ⟨by kernel_rfl, ⟨⟨by simp, IS3.out⟩, trivial⟩, ?_⟩
                    go_wp2_with fail
                    go_roundw
                    case rel => exact ⟨j + 1, s9, K9, by omega, by go_num, A9.out.mod N8.out (by simp), HS9.out, G9.out, N8.out.blk K9b.out (by simp), by rw [HFN9.out]; exact N8.out.own O9.out (by simp), M9.out.trans (N8.out.mono (by simp))⟩
                    case measure => simp [intOf]; omega
                  | some p =>
                    have hat2 : at_ = (p : Int) := by rw [← HA_.out, hp]; rfl
                    subst hat2
                    have hpg := placeOf_get hp
                    have hpn : p < n := by have := (List.getElem?_eq_some_iff.1 hpg).1; rw [HSN.out] at this; exact this
                    obtain ⟨x, hx, hxh, hxk, hxc⟩ := GR.out.here hpg
                    have hrm : remP s key = (x.c, true, ⟨s.S.set p none, p :: s.fl, s.C⟩) := by unfold remP; rw [hp]; simp only; rw [List.getD_eq_getElem?_getD, hxc]; rfl
                    rw [hrm] at hA6 ⊢
                    have A6 := Lib.hid hA6
                    have HG0 := Lib.hid (GR.out.rem hx)
                    have KW := Lib.hid (X6.out.blk K2.out hmkB)
                    have gk := flatP_get K p x hx
                    have HX := Lib.hid hx
                    obtain ⟨xk, ⟨xf, xs, xc, xu⟩, xh⟩ := x
                    simp only [Pl.cells] at gk
                    simp only [Cell.val]
                    have y0 := KW.out.cell (i := p * 6) ((gk 0 (by omega)).trans rfl)
                    have y1 := KW.out.cell (i := p * 6 + 1) ((gk 1 (by omega)).trans rfl)
                    have y2 := KW.out.cell (i := p * 6 + 2) ((gk 2 (by omega)).trans rfl)
                    have y3 := KW.out.cell (i := p * 6 + 3) ((gk 3 (by omega)).trans rfl)
                    have y4 := KW.out.cell (i := p * 6 + 4) ((gk 4 (by omega)).trans rfl)
                    have y5 := KW.out.cell (i := p * 6 + 5) ((gk 5 (by omega)).trans rfl)
                    have N6 := Lib.hid (((Mod.refl [] w6).alloc (.cells #[.int .i64 xf, .int .i64 xs, .int .i64 xc, .int .i64 xu] 32)).drew)
                    have hmkl := KW.out.lt
                    have hvbl := V86.out.lt
                    clear hA6 hp hrm gk hxc hxk hxh hx hpg
                    go_wp2_with fail
                    refine wp_region_lex (by kernel_rfl) (by kernel_rfl) ?_
                    go_wp2_with fail
                    refine ⟨by kernel_rfl, ?_⟩
                    obtain ⟨w7, hw7⟩ : ∃ w7, (w6.alloc (.cells #[.int .i64 xf, .int .i64 xs, .int .i64 xc, .int .i64 xu] 32)).drew = w7 := ⟨_, rfl⟩
                    rw [hw7] at N6 ⊢
                    clear hw7 y0 y1 y2 y3 y4 y5 q8
                    have K7 := Lib.hid (N6.out.blk KW.out (by simp))
                    have q8 := (N6.out.blk V86.out (by simp)).cell (i := 0) rfl
                    have y5 := K7.out.cell (i := p * 6 + 5) ((flatP_get K p _ HX.out 5 (by omega)).trans rfl)
                    have f5 := K7.out.free (p * 6 + 5)
                    have M7 : Hid (Mod [mk_] w7 (w7.setCell ⟨mk_, p * 6 + 5, none⟩ (.bool false))) := Lib.hid ((Mod.refl [mk_] w7).setCell (p := ⟨mk_, p * 6 + 5, none⟩) (.inl (by simp)) _)
                    have K8 : Hid (Blk (w7.setCell ⟨mk_, p * 6 + 5, none⟩ (.bool false)) mk_ 53 (flatP (K.set p { (⟨xk, ⟨xf, xs, xc, xu⟩, xh⟩ : Pl) with has := false }))) := Lib.hid (by rw [← flatP_has HX.out]; exact K7.out.set _ _)
                    have N8a := Lib.hid ((Mod.refl [] (w7.setCell ⟨mk_, p * 6 + 5, none⟩ (.bool false))).alloc (.cells #[.int .i64 (p : Int)] 3))
                    have X8 : Hid (Mod (mk_ :: B.all) wr ((w7.setCell ⟨mk_, p * 6 + 5, none⟩ (.bool false)).alloc (.cells #[.int .i64 (p : Int)] 3))) := Lib.hid ((((X6.out.mono (fun b hb => .inl (by simp [hb]))).trans (N6.out.mono (by simp))).trans (M7.out.mono (by simp))).trans (N8a.out.mono (by simp)))
                    have OA := Lib.hid (X8.out.own O2.out (fun b hb h => by
                      have h1 := own_block O2.out b hb
                      rcases List.mem_cons.1 h with rfl | h
                      · omega
                      · have := BL.out b h; omega))
                    have NBx := Lib.hid ((Blk.new (w7.setCell ⟨mk_, p * 6 + 5, none⟩ (.bool false)) [.int .i64 (p : Int)] 3).cell (i := 0) rfl)
                    rw [show (w7.setCell ⟨mk_, p * 6 + 5, none⟩ (.bool false)).heap.size = w7.heap.size by simp] at NBx
                    have hbase : Hid (wB.heap.size ≤ ((w7.setCell ⟨mk_, p * 6 + 5, none⟩ (.bool false)).alloc (.cells #[.int .i64 (p : Int)] 3)).heap.size) := Lib.hid (M2.out.trans X8.out).size
                    have hfl8 : s.fl.length ≤ 8 := by have := A2.out.whole.2; have h2 := HSN.out; omega
                    go_wp2_with (at_builtin; go_loud (refine app_int (.int .i64 (p : Int)) _ OA.out rfl _ _ rfl rfl rfl NBx.out rfl hbase.out (by omega) ?_); intro v' w' ho' hM'; obtain ⟨va9, vc9, hva9⟩ := own_slice ho'; subst hva9; have O9a := Lib.hid ho'; have M9a := Lib.hid hM'; clear ho' hM')
                    have hown : ∀ x, x ∈ (Value.slice va s.fl.length vc).ownBlock.toList → wB.heap.size ≤ x := fun x hx => own_block O2.out x (by simpa using hx)
                    have Y8 : Hid (Mod (mk_ :: (Value.slice va s.fl.length vc).ownBlock.toList) w6 w') := Lib.hid ((((N6.out.mono (by simp)).trans (M7.out.mono (by simp))).trans (N8a.out.mono (by simp))).trans (M9a.out.mono (fun x hx => .inl (List.mem_cons_of_mem _ hx))))
                    have A9 := Lib.hid (A6.out.mod Y8.out (fun b hb h => by
                      have h1 := BL.out b hb
                      rcases List.mem_cons.1 h with rfl | h
                      · exact hmkB hb
                      · have := hown b h; omega))
                    have G9 := HG0
                    have K9b := Lib.hid (M9a.out.blk (N8a.out.blk K8.out (by simp)) (fun h => by have := hown _ h; omega))
                    have O9 := Lib.hid (show w'.ownsRow wB.heap.size 3 1 (.slice va9 (s.fl.length + 1) vc9) (s.fl.length + 1) (frV (p :: s.fl)) by rw [frV_cons]; exact O9a.out)
                    have V39 := Lib.hid (M9a.out.blk (X8.out.blk V32.out (fun h => by
                      rcases List.mem_cons.1 h with h | h
                      · omega
                      · have := BL.out _ h; omega)) (fun h => by have := hown _ h; omega))
                    have M9 : Hid (Mod (mk_ :: B.all) wB w') := Lib.hid ((M2.out.trans X8.out).trans' M9a.out (fun b hb => .inr (hown b hb)))
                    obtain ⟨w9, hw9⟩ : ∃ w9, w' = w9 := ⟨_, rfl⟩
                    obtain ⟨s9, hs9⟩ : ∃ s9, (⟨s.S.set p none, p :: s.fl, s.C⟩ : PS) = s9 := ⟨_, rfl⟩
                    obtain ⟨K9, hK9⟩ : ∃ K9, K.set p { (⟨xk, ⟨xf, xs, xc, xu⟩, xh⟩ : Pl) with has := false } = K9 := ⟨_, rfl⟩
                    obtain ⟨fn9, hfn9⟩ : ∃ fn9, s.fl.length + 1 = fn9 := ⟨_, rfl⟩
                    have HS9 : Hid (s9.S.length = n) := Lib.hid (by rw [← hs9]; simp; exact HSN.out)
                    have HFN9 : Hid (s9.fl.length = fn9) := Lib.hid (by rw [← hs9, ← hfn9]; rfl)
                    rw [show p :: s.fl = s9.fl by rw [← hs9]] at O9
                    rw [hw9, hs9] at A9
                    rw [hs9, hK9] at G9
                    rw [hw9, hK9] at K9b
                    rw [hw9, hfn9] at O9
                    rw [hw9] at V39 M9
                    rw [hw9]
                    try rw [hfn9]
                    clear hw9 hs9 hK9 hfn9 y5 f5 q8 hown
                    have LN := Lib.hid (len_any (A9.out.mod ((Mod.refl [] w9).drew) (by simp)))
                    have FU : Hid (∀ W', Mod [] w9.drew W' → Calls Try.prog 17 #[.pointer (some ⟨B.p, 0, none⟩)] W' fun e w' => e = .returned (.bool (decide (s9.fl = []))) ∧ Mod [] W' w') := Lib.hid fun W' hm => full_any ((A9.out.mod ((Mod.refl [] w9).drew) (by simp)).mod hm (by simp))
                    have hwh := A9.out.whole.2
                    have v3 := V39.out.cell (i := 0) rfl
                    have IS3 := Lib.hid (show IsC w9.drew w.heap.size from isC_of_cell (w := w9) v3)
                    obtain ⟨u9, hu9⟩ : ∃ u, used s9.S = u := ⟨_, rfl⟩
                    obtain ⟨fb, hfb⟩ : ∃ fb, decide (s9.fl = []) = fb := ⟨_, rfl⟩
                    have hz : ((fn9 : Int) == 0) = fb := by rw [← hfb, ← HFN9.out]; exact (len_zero s9.fl).1
                    have hz2 : (fn9 == 0) = fb := by rw [← hfb, ← HFN9.out]; exact (len_zero s9.fl).2
                    have hh : (n : Int) - (fn9 : Int) = (u9 : Int) := by have := HS9.out; have := HFN9.out; omega
                    rw [hu9] at LN
                    rw [hfb] at FU
                    clear hu9 hfb hwh
                    go_wp2_with fail
                    refine wp_region_held [2] [2] [] (by kernel_rfl) (by kernel_rfl) ?_
                    simp only [wpCut, List.take_succ_cons, List.take_zero, List.drop_succ_cons, List.drop_zero, List.cons_append, List.nil_append]
                    go_wp2_with fail
                    refine LN.out.mono ?_
                    rintro e7 w7 ⟨rfl, rfl⟩
                    go_wp2_with fail
                    refine ⟨Mod.refl _ _, ?_⟩
                    go_wp2_with fail
                    refine (FU.out _ (Mod.refl _ _)).mono ?_
                    rintro e8 w8 ⟨rfl, hM8⟩
                    have N8 := Lib.hid ((Mod.refl [] w9).drew.trans hM8)
                    clear hM8
                    go_wp2_with fail
                    refine ⟨by kernel_rfl, ⟨⟨by simp, IS3.out⟩, trivial⟩, ?_⟩
                    go_wp2_with fail
                    go_roundw
                    case rel => exact ⟨j + 1, s9, K9, by omega, by go_num, A9.out.mod N8.out (by simp), HS9.out, G9.out, N8.out.blk K9b.out (by simp), by rw [HFN9.out]; exact N8.out.own O9.out (by simp), M9.out.trans (N8.out.mono (by simp))⟩
                    case measure => simp [intOf]; omega
                · as_aux_lemma =>
                  have FI : Hid (∀ W', Mod [] wr W' → Calls Try.prog 12 #[.pointer (some ⟨B.p, 0, none⟩), .string ⟨key.toArray⟩] W' fun e w' => e = .returned (cellAt B (placeOf s.S key)) ∧ Mod [] W' w') := Lib.hid fun W' hm => Pool.find_any (A2.out.mod hm (by simp)) key (by omega)
                  have hcw := NBc.out.lt
                  obtain ⟨at_, hat_⟩ : ∃ at_, optInt (placeOf s.S key) = at_ := ⟨_, rfl⟩
                  rw [hat_]
                  have HA_ := Lib.hid hat_
                  clear hat_
                  go_wp2_with fail
                  refine (FI.out _ (Mod.refl _ _)).mono ?_
                  rintro e6 w6 ⟨rfl, hM6⟩
                  have X6 : Hid (Mod B.all wr w6) := Lib.hid (hM6.mono (by simp))
                  have A6 := Lib.hid (A2.out.mod hM6 (by simp))
                  have V86 := Lib.hid (hM6.blk V82.out (by simp))
                  have q8 := V86.out.cell (i := 0) rfl
                  have C6 := Lib.hid (hM6.blk NBc.out (by simp))
                  have q2 := C6.out.cell (i := 2) rfl
                  clear hM6
                  cases hp : placeOf s.S key with
                  | none =>
                    have hat2 : at_ = -1 := by rw [← HA_.out, hp]; rfl
                    subst hat2
                    have hca : cellAt B none = .pointer none := rfl
                    simp only [hca]
                    clear hp hca
                    have X7 : Hid (Mod B.all wr w6.drew) := Lib.hid X6.out.drew
                    go_wp2_with fail
                    refine wp_region_lex (by kernel_rfl) (by kernel_rfl) ?_
                    go_wp2_with fail
                    refine ⟨by kernel_rfl, ?_⟩
                    have A9 : Hid (At (w6.drew) B (s)) := Lib.hid (A6.out.mod ((Mod.refl [] w6).drew) (by simp))
                    have G9 : Hid (Agree (s) (K)) := Lib.hid (GR.out)
                    have K9b : Hid (Blk (w6.drew) mk_ 53 (flatP (K))) := Lib.hid (X7.out.blk K2.out hmkB)
                    have O9 := Lib.hid (X7.out.own O2.out (fun b hb h => by have := own_block O2.out b hb; have := BL.out b h; omega))
                    have V39 : Hid (Blk (w6.drew) w.heap.size 3 [.int .i64 (n : Int)]) := Lib.hid (X7.out.blk V32.out (fun h => by have := BL.out _ h; omega))
                    have M9 : Hid (Mod (mk_ :: B.all) wB (w6.drew)) := Lib.hid (M2.out.trans (X7.out.mono (by simp +contextual)))
                    have HS9 : Hid ((s).S.length = n) := Lib.hid (by first | exact HSN.out | (simp; exact HSN.out))
                    obtain ⟨w9, hw9⟩ : ∃ w9, w6.drew = w9 := ⟨_, rfl⟩
                    obtain ⟨s9, hs9⟩ : ∃ s9, s = s9 := ⟨_, rfl⟩
                    obtain ⟨K9, hK9⟩ : ∃ K9, K = K9 := ⟨_, rfl⟩
                    obtain ⟨fn9, hfn9⟩ : ∃ fn9, s.fl.length = fn9 := ⟨_, rfl⟩
                    rw [hw9, hs9] at A9
                    rw [hs9, hK9] at G9
                    rw [hw9, hK9] at K9b
                    rw [hw9, hfn9, hs9] at O9
                    rw [hw9] at V39 M9
                    rw [hs9] at HS9
                    have HFN9 : Hid (s9.fl.length = fn9) := Lib.hid (by rw [← hs9]; exact hfn9)
                    rw [hw9, hfn9]
                    clear hw9 hs9 hK9 hfn9 q8 q2
                    have LN := Lib.hid (len_any (A9.out.mod ((Mod.refl [] w9).drew) (by simp)))
                    have FU : Hid (∀ W', Mod [] w9.drew W' → Calls Try.prog 17 #[.pointer (some ⟨B.p, 0, none⟩)] W' fun e w' => e = .returned (.bool (decide (s9.fl = []))) ∧ Mod [] W' w') := Lib.hid fun W' hm => full_any ((A9.out.mod ((Mod.refl [] w9).drew) (by simp)).mod hm (by simp))
                    have hwh := A9.out.whole.2
                    have v3 := V39.out.cell (i := 0) rfl
                    have IS3 := Lib.hid (show IsC w9.drew w.heap.size from isC_of_cell (w := w9) v3)
                    obtain ⟨u9, hu9⟩ : ∃ u, used s9.S = u := ⟨_, rfl⟩
                    obtain ⟨fb, hfb⟩ : ∃ fb, decide (s9.fl = []) = fb := ⟨_, rfl⟩
                    have hz : ((fn9 : Int) == 0) = fb := by rw [← hfb, ← HFN9.out]; exact (len_zero s9.fl).1
                    have hz2 : (fn9 == 0) = fb := by rw [← hfb, ← HFN9.out]; exact (len_zero s9.fl).2
                    have hh : (n : Int) - (fn9 : Int) = (u9 : Int) := by have := HS9.out; have := HFN9.out; omega
                    rw [hu9] at LN
                    rw [hfb] at FU
                    clear hu9 hfb hwh
                    go_wp2_with fail
                    refine wp_region_held [2] [2] [] (by kernel_rfl) (by kernel_rfl) ?_
                    simp only [wpCut, List.take_succ_cons, List.take_zero, List.drop_succ_cons, List.drop_zero, List.cons_append, List.nil_append]
                    go_wp2_with fail
                    refine LN.out.mono ?_
                    rintro e7 w7 ⟨rfl, rfl⟩
                    go_wp2_with fail
                    refine ⟨Mod.refl _ _, ?_⟩
                    go_wp2_with fail
                    refine (FU.out _ (Mod.refl _ _)).mono ?_
                    rintro e8 w8 ⟨rfl, hM8⟩
                    have N8 := Lib.hid ((Mod.refl [] w9).drew.trans hM8)
                    clear hM8
                    go_wp2_with fail
                    refine ⟨by kernel_rfl, ⟨⟨by simp, IS3.out⟩, trivial⟩, ?_⟩
                    go_wp2_with fail
                    go_roundw
                    case rel => exact ⟨j + 1, s9, K9, by omega, by go_num, A9.out.mod N8.out (by simp), HS9.out, G9.out, N8.out.blk K9b.out (by simp), by rw [HFN9.out]; exact N8.out.own O9.out (by simp), M9.out.trans (N8.out.mono (by simp))⟩
                    case measure => simp [intOf]; omega
                  | some p =>
                    have hat2 : at_ = (p : Int) := by rw [← HA_.out, hp]; rfl
                    subst hat2
                    have hpg := placeOf_get hp
                    have hpn : p < n := by have := (List.getElem?_eq_some_iff.1 hpg).1; rw [HSN.out] at this; exact this
                    obtain ⟨x, hx, hxh, hxk, hxc⟩ := GR.out.here hpg
                    have hca : cellAt B (some p) = .pointer (some ⟨B.cb, p * 4, none⟩) := rfl
                    simp only [hca]
                    have HG0 := Lib.hid (GR.out.used hx t)
                    have AU := Lib.hid (At.used A6.out hxc t hqo)
                    have KW := Lib.hid (X6.out.blk K2.out hmkB)
                    have gk := flatP_get K p x hx
                    have HX := Lib.hid hx
                    obtain ⟨z0, z1, z2, z3⟩ := cel4 A6.out.cel hxc
                    have CELL := Lib.hid A6.out.cel
                    have cf3 := A6.out.cel.free (p * 4 + 3)
                    obtain ⟨xk, ⟨xf, xs, xc, xu⟩, xh⟩ := x
                    simp only [Pl.cells] at gk
                    simp only at z0 z1 z2 z3
                    have y0 := KW.out.cell (i := p * 6) ((gk 0 (by omega)).trans rfl)
                    have y1 := KW.out.cell (i := p * 6 + 1) ((gk 1 (by omega)).trans rfl)
                    have y2 := KW.out.cell (i := p * 6 + 2) ((gk 2 (by omega)).trans rfl)
                    have y3 := KW.out.cell (i := p * 6 + 3) ((gk 3 (by omega)).trans rfl)
                    have y4 := KW.out.cell (i := p * 6 + 4) ((gk 4 (by omega)).trans rfl)
                    have y5 := KW.out.cell (i := p * 6 + 5) ((gk 5 (by omega)).trans rfl)
                    have kf4 := KW.out.free (p * 6 + 4)
                    have IV := Lib.hid (show IsC w6.drew vb from isC_of_cell (w := w6) q8)
                    have IC2 := Lib.hid (show IsC w6.drew cb from isC_of_cell (w := w6) q2)
                    have hcbB : B.cb ∈ B.all := by simp [PB.all]
                    have hcbv : B.cb ≠ vb ∧ B.cb ≠ cb ∧ B.cb ≠ mk_ := ⟨fun h => by have := BL.out _ hcbB; omega, fun h => HNL.out (h ▸ hcbB), fun h => hmkB (h ▸ hcbB)⟩
                    clear hp hca gk hxc hxk hxh hx hpg
                    go_wp2_with fail
                    refine wp_region_lex (by kernel_rfl) (by kernel_rfl) ?_
                    go_wp2_with fail
                    refine ⟨by kernel_rfl, ?_⟩
                    go_wp2_with fail
                    refine wp_region_held [10] [1, 6] [B.cb] (by kernel_rfl) (by kernel_rfl) ?_
                    simp only [wpCut, List.take_succ_cons, List.take_zero, List.drop_succ_cons, List.drop_zero, List.cons_append, List.nil_append]
                    go_wp2_with fail
                    have hS := (((Mod.refl [B.cb] w6).setCell (p := ⟨B.cb, p * 4 + 3, none⟩) (.inl (by simp)) (.int .i64 t)).drew.drew)
                    refine ⟨⟨hS.os, hS.tape, hS.output, hS.size, hS.block⟩, ?_⟩
                    clear hS
                    go_wp2_with fail
                    refine ⟨by kernel_rfl, ⟨⟨by simp; exact fun h => hcbv.1 h.symm, IV.out⟩, ⟨by simp; exact fun h => hcbv.2.1 h.symm, IC2.out⟩, trivial⟩, ?_⟩
                    obtain ⟨w8', hw8'⟩ : ∃ w8', (w6.setCell ⟨B.cb, p * 4 + 3, none⟩ (.int .i64 t)).setCell ⟨mk_, p * 6 + 4, none⟩ (.int .i64 t) = w8' := ⟨_, rfl⟩
                    have M7 := Lib.hid ((Mod.refl [mk_] (w6.setCell ⟨B.cb, p * 4 + 3, none⟩ (.int .i64 t))).setCell (p := ⟨mk_, p * 6 + 4, none⟩) (.inl (by simp)) (.int .i64 t))
                    have M6 := Lib.hid ((Mod.refl [B.cb] w6).setCell (p := ⟨B.cb, p * 4 + 3, none⟩) (.inl (by simp)) (.int .i64 t))
                    have A9 := Lib.hid (AU.out.mod M7.out (fun b hb h => by simp at h; subst h; exact hmkB hb))
                    have G9 := HG0
                    have K9b := Lib.hid ((M6.out.blk KW.out (by simpa using fun h => hcbv.2.2 h.symm)).set (p * 6 + 4) (.int .i64 t))
                    rw [flatP_used HX.out] at K9b
                    have X9 : Hid (Mod (mk_ :: B.all) wr ((w6.setCell ⟨B.cb, p * 4 + 3, none⟩ (.int .i64 t)).setCell ⟨mk_, p * 6 + 4, none⟩ (.int .i64 t))) := Lib.hid (((X6.out.mono (fun b hb => .inl (by simp [hb]))).trans (M6.out.mono (fun b hb => .inl (by simp at hb; subst hb; simp [hcbB])))).trans (M7.out.mono (by simp)))
                    have O9 := Lib.hid (X9.out.own O2.out (fun b hb h => by
                      have h1 := own_block O2.out b hb
                      rcases List.mem_cons.1 h with rfl | h
                      · omega
                      · have := BL.out b h; omega))
                    have V39 := Lib.hid (X9.out.blk V32.out (fun h => by
                      rcases List.mem_cons.1 h with h | h
                      · omega
                      · have := BL.out _ h; omega))
                    have M9 := Lib.hid (M2.out.trans X9.out)
                    rw [hw8'] at A9 K9b O9 V39 M9
                    try rw [hw8']
                    clear hw8'
                    obtain ⟨w9, hw9⟩ : ∃ w9, w8'.drew.drew = w9 := ⟨_, rfl⟩
                    have ND : Hid (Mod [] w8' w9) := Lib.hid (by rw [← hw9]; exact (Mod.refl [] w8').drew.drew)
                    obtain ⟨s9, hs9⟩ : ∃ s9, (⟨s.S, s.fl, s.C.set p { (⟨xf, xs, xc, xu⟩ : Cell) with used := t }⟩ : PS) = s9 := ⟨_, rfl⟩
                    obtain ⟨K9, hK9⟩ : ∃ K9, K.set p { (⟨xk, ⟨xf, xs, xc, xu⟩, xh⟩ : Pl) with c := { (⟨xf, xs, xc, xu⟩ : Cell) with used := t } } = K9 := ⟨_, rfl⟩
                    obtain ⟨fn9, hfn9⟩ : ∃ fn9, s.fl.length = fn9 := ⟨_, rfl⟩
                    have HS9 : Hid (s9.S.length = n) := Lib.hid (by rw [← hs9]; exact HSN.out)
                    have HFN9 : Hid (s9.fl.length = fn9) := Lib.hid (by rw [← hs9, ← hfn9])
                    rw [hfn9, show s.fl = s9.fl by rw [← hs9]] at O9
                    rw [hs9] at A9
                    rw [hs9, hK9] at G9
                    rw [hK9] at K9b
                    replace A9 := Lib.hid (A9.out.mod ND.out (by simp))
                    replace K9b := Lib.hid (ND.out.blk K9b.out (by simp))
                    replace O9 := Lib.hid (ND.out.own O9.out (by simp))
                    replace V39 := Lib.hid (ND.out.blk V39.out (by simp))
                    replace M9 := Lib.hid (M9.out.trans (ND.out.mono (by simp)))
                    rw [hw9, hfn9]
                    clear hw9 hs9 hK9 hfn9 y0 y1 y2 y3 y4 y5 z0 z1 z2 z3 cf3 kf4 q8 q2
                    have LN := Lib.hid (len_any (A9.out.mod ((Mod.refl [] w9).drew) (by simp)))
                    have FU : Hid (∀ W', Mod [] w9.drew W' → Calls Try.prog 17 #[.pointer (some ⟨B.p, 0, none⟩)] W' fun e w' => e = .returned (.bool (decide (s9.fl = []))) ∧ Mod [] W' w') := Lib.hid fun W' hm => full_any ((A9.out.mod ((Mod.refl [] w9).drew) (by simp)).mod hm (by simp))
                    have hwh := A9.out.whole.2
                    have v3 := V39.out.cell (i := 0) rfl
                    have IS3 := Lib.hid (show IsC w9.drew w.heap.size from isC_of_cell (w := w9) v3)
                    obtain ⟨u9, hu9⟩ : ∃ u, used s9.S = u := ⟨_, rfl⟩
                    obtain ⟨fb, hfb⟩ : ∃ fb, decide (s9.fl = []) = fb := ⟨_, rfl⟩
                    have hz : ((fn9 : Int) == 0) = fb := by rw [← hfb, ← HFN9.out]; exact (len_zero s9.fl).1
                    have hz2 : (fn9 == 0) = fb := by rw [← hfb, ← HFN9.out]; exact (len_zero s9.fl).2
                    have hh : (n : Int) - (fn9 : Int) = (u9 : Int) := by have := HS9.out; have := HFN9.out; omega
                    rw [hu9] at LN
                    rw [hfb] at FU
                    clear hu9 hfb hwh
                    go_wp2_with fail
                    refine wp_region_held [2] [2] [] (by kernel_rfl) (by kernel_rfl) ?_
                    simp only [wpCut, List.take_succ_cons, List.take_zero, List.drop_succ_cons, List.drop_zero, List.cons_append, List.nil_append]
                    go_wp2_with fail
                    refine LN.out.mono ?_
                    rintro e7 w7 ⟨rfl, rfl⟩
                    go_wp2_with fail
                    refine ⟨Mod.refl _ _, ?_⟩
                    go_wp2_with fail
                    refine (FU.out _ (Mod.refl _ _)).mono ?_
                    rintro e8 w8 ⟨rfl, hM8⟩
                    have N8 := Lib.hid ((Mod.refl [] w9).drew.trans hM8)
                    clear hM8
                    go_wp2_with fail
                    refine ⟨by kernel_rfl, ⟨⟨by simp, IS3.out⟩, trivial⟩, ?_⟩
                    go_wp2_with fail
                    go_roundw
                    case rel => exact ⟨j + 1, s9, K9, by omega, by go_num, A9.out.mod N8.out (by simp), HS9.out, G9.out, N8.out.blk K9b.out (by simp), by rw [HFN9.out]; exact N8.out.own O9.out (by simp), M9.out.trans (N8.out.mono (by simp))⟩
                    case measure => simp [intOf]; omega
          · as_aux_lemma =>
            have d2 : decide ((100 : Int) < key.length) = true := by simp; omega
            have d3 : decide (100 < key.length) = true := by simp; omega
            have r6 := (A1.out.blk V6.out (by simp)).cell (i := 0) rfl
            have f6 := (A1.out.blk V6.out (by simp)).free 0
            have B6 := Lib.hid (A1.out.blk V6.out (by simp))
            have MW2 := Lib.hid (MW.out.trans A1.out)
            clear hA hSn hG hK hO hM hcell hq hb
            go_wp2_with fail
            have r7 := (B6.out.set 0 (.bool true)).cell (i := 0) rfl
            exact ⟨.bool true, by simp [results, Try.results5, go_sem, r7], rfl, MW2.out.setCell (p := ⟨w.heap.size + 2, 0, none⟩) (.inr (by show w.heap.size ≤ w.heap.size + 2; omega)) _⟩
        · as_aux_lemma =>
          obtain rfl : l.length = j := by omega
          have I8 := Lib.hid (Blk.new wr [.int .i64 0] 3)
          have N1 := Lib.hid ((Mod.refl [] wr).alloc (.cells #[.int .i64 0] 3))
          have A8 := Lib.hid (hA.mod N1.out (by simp))
          have K8 := Lib.hid (N1.out.blk hK (by simp))
          have V88 := Lib.hid (N1.out.blk V8.out (by simp))
          have V38 := Lib.hid (N1.out.blk V3.out (by simp))
          have V68 := Lib.hid (N1.out.blk V6.out (by simp))
          have M8 := Lib.hid (MW.out.trans N1.out)
          have BLw : Hid (∀ b, b ∈ B.all → b < wr.heap.size) := Lib.hid fun b hb => hA.lt b hb
          have hmw := hK.lt
          have hvw := V8.out.lt
          have h6w := V6.out.lt
          clear hA hSn hG hK hO hM
          go_wp2_with fail
          obtain ⟨ib, hib⟩ : ∃ b, wr.heap.size = b := ⟨_, rfl⟩
          obtain ⟨w8, hw8⟩ : ∃ w8, wr.alloc (.cells #[.int .i64 0] 3) = w8 := ⟨_, rfl⟩
          have hs8 : ib < w8.heap.size := by rw [← hw8, ← hib]; simp
          rw [hw8] at I8 A8 K8 V88 V38 V68 M8 ⊢
          rw [hib] at I8 BLw hmw hvw h6w ⊢
          clear hw8 hib N1 MR AR KR OR
          have hpt : pairsTo s.S s.C n = pairs s.S s.C := by rw [← HSN.out]; exact pairsTo_all GR.out.clen
          have HPT := Lib.hid hpt
          clear hpt
          refine wp_range (Kp := Under w8.heap.size [ib]) (encs := encP) (xs := pairs s.S s.C) rfl (enters_of Try.func11 (by kernel_rfl) rfl)
            (all_iter A8.out (fun A A' hA hK b hb => hK.block b (A8.out.lt b hb) (by simp; have := BLw.out b hb; omega)))
            (fun h k => h.trans k) (fun h => h.mono (by simp)) (fun _ => rfl)
            (fun pre W => Mod [ib] w8 W ∧ ∃ i : Nat, i ≤ n ∧ pairsTo s.S s.C i = pre ∧ Blk W ib 3 [.int .i64 (i : Int)])
            (fun c pre W => False)
            ?hI (fun c pre A B' h hu => h) ⟨Mod.refl _ _, 0, Nat.zero_le _, by simp [pairsTo], I8.out⟩ ?round ?done ?stop
          case hI =>
            rintro pre A B' ⟨h1, i, h2, h3, h4⟩ hu
            exact ⟨mod_under h1 hu, i, h2, h3, blk_under h4 hu (by omega)⟩
          case stop => exact fun D c pre x post W _ _ h _ => h.elim
          case round =>
            rintro l0 pre x W hl1 hl2 ⟨hM, i0, hi0, hpre, hB⟩ ⟨post, hx⟩
            have MW2 := Lib.hid hM
            have hWs := hM.size
            have PRE := Lib.hid hpre
            have N9 := Lib.hid (Blk.new W x.2.cells 32)
            have D9 := Lib.hid ((Mod.refl [] W).alloc (.cells x.2.cells.toArray 32))
            have B7 := Lib.hid hB
            have HX := Lib.hid hx
            obtain ⟨xk, xf, xs, xc, xu⟩ := x
            simp only [Cell.cells, encP, Cell.val] at *
            clear hB hM hpre hx
            gi_wp2
            refine ⟨Over.of_mod D9.out (by simp), Under.of_mod (D9.out.mono (by simp)) hWs, fun o => ?_⟩
            obtain ⟨W2, hW2⟩ : ∃ W2, (W.alloc (.cells #[.int .i64 xf, .int .i64 xs, .int .i64 xc, .int .i64 xu] 32)).putObj l0 o = W2 := ⟨_, rfl⟩
            have M2 : Hid (Mod [l0] (W.alloc (.cells #[.int .i64 xf, .int .i64 xs, .int .i64 xc, .int .i64 xu] 32)) W2) := Lib.hid (by rw [← hW2]; exact mod_putObj _ _ _)
            have C7 := Lib.hid (M2.out.blk (B7.out.alloc _) (by simp; omega))
            have C9 := Lib.hid (M2.out.blk N9.out (by simp; omega))
            have MW3 := Lib.hid ((MW2.out.trans (D9.out.mono (by simp))).trans' M2.out (fun b hb => .inr (by simp at hb; omega)))
            rw [hW2]
            have hs2 := MW3.out.size
            clear hW2
            gi_wp2
            gi_loopw [] (fun wr => Mod [ib] W2 wr ∧ ∃ i : Nat, i ≤ n ∧ pairsTo s.S s.C i = pre ∧ Blk wr ib 3 [.int .i64 (i : Int)]) (fun wr => n - (intAt wr ib).toNat)
            case atStart => exact ⟨Mod.refl _ _, i0, hi0, PRE.out, C7.out⟩
            case round =>
              obtain ⟨hM, i, hi, hpre, hB⟩ := hrel
              have MI := Lib.hid hM
              have BI := Lib.hid hB
              have PI := Lib.hid hpre
              have X9 := Lib.hid (MW3.out.trans hM)
              have hwr := X9.out.size
              have c1 := hB.cell (i := 0) rfl
              have fb_ := hB.free 0
              have c3 := (X9.out.blk V38.out (by simp; omega)).cell (i := 0) rfl
              have c8 := (X9.out.blk V88.out (by simp; omega)).cell (i := 0) rfl
              have KI := Lib.hid (X9.out.blk K8.out (by simp; omega))
              by_cases hlt : i < n
              · obtain ⟨q, hq⟩ : ∃ q, K[i]? = some q := ⟨_, List.getElem?_eq_getElem (by rw [GR.out.len, HSN.out]; exact hlt)⟩
                have gk := flatP_get K i q hq
                have HQ := Lib.hid hq
                have HY := Lib.hid (GR.out.yes i q hq)
                have HN := Lib.hid (GR.out.no i q hq)
                obtain ⟨qk, ⟨qf, qs, qc, qu⟩, qh⟩ := q
                simp only [Pl.cells] at gk
                have y0 := KI.out.cell (i := i * 6) ((gk 0 (by omega)).trans rfl)
                have y1 := KI.out.cell (i := i * 6 + 1) ((gk 1 (by omega)).trans rfl)
                have y2 := KI.out.cell (i := i * 6 + 2) ((gk 2 (by omega)).trans rfl)
                have y3 := KI.out.cell (i := i * 6 + 3) ((gk 3 (by omega)).trans rfl)
                have y4 := KI.out.cell (i := i * 6 + 4) ((gk 4 (by omega)).trans rfl)
                have y5 := KI.out.cell (i := i * 6 + 5) ((gk 5 (by omega)).trans rfl)
                have MS := Lib.hid ((Mod.refl [ib] wr).setCell (p := ⟨ib, 0, none⟩) (.inl (by simp)) (.int .i64 ((i : Int) + 1)))
                have BS := Lib.hid (show Blk (wr.setCell ⟨ib, 0, none⟩ (.int .i64 ((i : Int) + 1))) ib 3 [.int .i64 ((i : Int) + 1)] from hB.set 0 _)
                cases qh with
                | false =>
                  have hnx := pairsTo_none (HN.out rfl) GR.out.clen
                  have HNX := Lib.hid hnx
                  clear hM hpre hB hq gk hnx
                  gi_wp2
                  go_roundw
                  case rel => exact ⟨MI.out.trans MS.out, i + 1, by omega, by rw [HNX.out]; exact PI.out, by have := BS.out; simpa using this⟩
                  case measure => rw [intAt_blk BS.out, intAt_blk BI.out]; omega
                | true =>
                  obtain ⟨hS, hC⟩ := HY.out rfl
                  have hsm := pairsTo_some hS hC
                  obtain ⟨post', hp'⟩ := pairsTo_post hS hC
                  have hxe : (qk, (⟨qf, qs, qc, qu⟩ : Cell)) = (xk, ⟨xf, xs, xc, xu⟩) := by
                    have h1 := HX.out
                    rw [hp', hpre] at h1
                    have := List.append_cancel_left h1
                    exact (List.cons.inj this).1
                  simp only [Prod.mk.injEq, Cell.mk.injEq] at hxe
                  obtain ⟨rfl, rfl, rfl, rfl, rfl⟩ := hxe
                  have HSM : Hid (pairsTo s.S s.C (i + 1) = pre ++ [(qk, ⟨qf, qs, qc, qu⟩)]) := Lib.hid (by rw [hsm, hpre])
                  have e0 := (MI.out.blk C9.out (by simp; omega)).cell (i := 0) rfl
                  have e1 := (MI.out.blk C9.out (by simp; omega)).cell (i := 1) rfl
                  have e2 := (MI.out.blk C9.out (by simp; omega)).cell (i := 2) rfl
                  have e3 := (MI.out.blk C9.out (by simp; omega)).cell (i := 3) rfl
                  have din : ((i : Int) == (n : Int)) = false := by simp; omega
                  have din2 : (i == n) = false := by simp; omega
                  clear hM hpre hB hq gk hS hC hsm hp'
                  gi_wp2
                  refine wpIn_region_lex (by kernel_rfl) (by kernel_rfl) ?hno (by kernel_rfl) ?_
                  case hno => rintro ⟨a0, w0, h⟩; exact h
                  go_wp2_with fail
                  refine ⟨by kernel_rfl, ?_⟩
                  gi_wp2
                  have MD := Lib.hid (MI.out.trans (MS.out.drew))
                  refine ⟨Over.of_mod MD.out (by simp; omega), Under.of_mod MD.out hs2, MW3.out.trans MD.out, i + 1, by omega, HSM.out, ?_⟩
                  have := BS.out.drew
                  simpa using this
              · exfalso
                obtain rfl : n = i := by omega
                rw [HPT.out] at hpre
                have h1 := HX.out
                rw [hpre] at h1
                have := congrArg List.length h1
                simp at this
          case done =>
            rintro D W hD ⟨hM, i0, hi0, hpre, hB⟩ hK
            have MW2 := Lib.hid hM
            have HK2 := Lib.hid hK
            have BW := Lib.hid hB
            have PRE := Lib.hid hpre
            clear hM hB hpre hK
            go_wp2_with fail
            go_loopw [] (fun wr => Mod [ib] W wr ∧ ∃ i : Nat, i ≤ n ∧ pairsTo s.S s.C i = pairs s.S s.C ∧ Blk wr ib 3 [.int .i64 (i : Int)]) (fun wr => n - (intAt wr ib).toNat)
            case atStart => exact ⟨Mod.refl _ _, i0, hi0, PRE.out, BW.out⟩
            case round =>
              obtain ⟨hM, i, hi, hpre, hB⟩ := hrel
              have MI := Lib.hid hM
              have BI := Lib.hid hB
              have PI := Lib.hid hpre
              have X9 := Lib.hid (MW2.out.trans hM)
              have hwr := X9.out.size
              have c1 := hB.cell (i := 0) rfl
              have fb_ := hB.free 0
              have c3 := (X9.out.blk V38.out (by simp; omega)).cell (i := 0) rfl
              have c8 := (X9.out.blk V88.out (by simp; omega)).cell (i := 0) rfl
              have KI := Lib.hid (X9.out.blk K8.out (by simp; omega))
              by_cases hlt : i < n
              · obtain ⟨q, hq⟩ : ∃ q, K[i]? = some q := ⟨_, List.getElem?_eq_getElem (by rw [GR.out.len, HSN.out]; exact hlt)⟩
                have gk := flatP_get K i q hq
                have HQ := Lib.hid hq
                have HY := Lib.hid (GR.out.yes i q hq)
                have HN := Lib.hid (GR.out.no i q hq)
                obtain ⟨qk, ⟨qf, qs, qc, qu⟩, qh⟩ := q
                simp only [Pl.cells] at gk
                have y0 := KI.out.cell (i := i * 6) ((gk 0 (by omega)).trans rfl)
                have y1 := KI.out.cell (i := i * 6 + 1) ((gk 1 (by omega)).trans rfl)
                have y2 := KI.out.cell (i := i * 6 + 2) ((gk 2 (by omega)).trans rfl)
                have y3 := KI.out.cell (i := i * 6 + 3) ((gk 3 (by omega)).trans rfl)
                have y4 := KI.out.cell (i := i * 6 + 4) ((gk 4 (by omega)).trans rfl)
                have y5 := KI.out.cell (i := i * 6 + 5) ((gk 5 (by omega)).trans rfl)
                have MS := Lib.hid ((Mod.refl [ib] wr).setCell (p := ⟨ib, 0, none⟩) (.inl (by simp)) (.int .i64 ((i : Int) + 1)))
                have BS := Lib.hid (show Blk (wr.setCell ⟨ib, 0, none⟩ (.int .i64 ((i : Int) + 1))) ib 3 [.int .i64 ((i : Int) + 1)] from hB.set 0 _)
                cases qh with
                | false =>
                  have HNX := Lib.hid (pairsTo_none (HN.out rfl) GR.out.clen)
                  clear hM hpre hB hq gk
                  go_wp2_with fail
                  go_roundw
                  case rel => exact ⟨MI.out.trans MS.out, i + 1, by omega, by rw [HNX.out]; exact PI.out, by have := BS.out; simpa using this⟩
                  case measure => rw [intAt_blk BS.out, intAt_blk BI.out]; omega
                | true =>
                  exfalso
                  obtain ⟨hS, hC⟩ := HY.out rfl
                  obtain ⟨post', hp'⟩ := pairsTo_post hS hC
                  rw [hpre] at hp'
                  have := congrArg List.length hp'
                  simp at this
              · obtain rfl : n = i := by omega
                have R6 := Lib.hid (X9.out.blk V68.out (by simp; omega))
                have g6 := R6.out.cell (i := 0) rfl
                have f6 := R6.out.free 0
                have hKr := MI.out.heap HK2.out (by simp; omega)
                have HKR := Lib.hid hKr
                clear hM hpre hB hKr
                go_wp2_with fail
                have S4 : Blk (wr.setCell ⟨w.heap.size + 2, 0, none⟩ (.bool true)) (w.heap.size + 2) 4 [.bool true] := R6.out.set 0 _
                have MS := ((Mod.refl [w.heap.size + 2] wr).setCell (p := ⟨w.heap.size + 2, 0, none⟩) (.inl (by simp)) (.bool true))
                have KS := MS.heap HKR.out (by simp; omega)
                have ME0 := (M8.out.trans' X9.out (fun b hb => .inr (by simp at hb; omega))).trans' MS (fun b hb => .inr (by simp at hb; omega))
                generalize wr.setCell ⟨w.heap.size + 2, 0, none⟩ (.bool true) = W3 at *
                have E4 := putObj_blk (o' := .deferred none) S4 KS rfl
                have ME : Mod [] w (W3.putObj D (.deferred none)) := putObj_mod ME0 (D := D) (by omega) (.deferred none)
                have r4 := E4.cell (i := 0) rfl
                refine leave1 KS (v := .bool true) (by simp [results, Try.results5, go_sem, r4]) ⟨rfl, ME⟩
set_option maxRecDepth 100000 in
theorem runs_walk (w : World) (nz : Int) (hw1 : (Lit.int .i64 nz).wf = true) (v : Value) (ds : List Nat) (hv : v = .agg (ds.map fun x : Nat => Value.int .u64 (x : Int)).toArray) (hd : ds.length = 3) (ha : ∀ x ∈ ds, x < 18446744073709551616) (a : Option Addr) (cp : Nat) (l : List KTA) (hm : l.length ≤ maxLen) (hP : InRow w a 3 KTA.cells l) (hok : ∀ q ∈ l, q.ok) :
    Calls Try.prog 5 #[.int .i64 nz, v, .slice a l.length cp] w fun e w' => e = .returned (.bool true) ∧ Mod [] w w' := by
  subst hv
  match ds, hd with
  | [a0, a1, a2], _ =>
    by_cases hl : l.length ≤ 150
    · exact runs_main w nz a0 a1 a2 ha a cp l hP hok hl
    · obtain ⟨n0, hn0, hn15⟩ : ∃ n0 : Nat, bits .and .i64 nz 7 = (n0 : Int) ∧ n0 ≤ 7 := ⟨(nz % 8).toNat, by rw [show (7 : Int) = 2 ^ 3 - 1 from rfl, and_mask _ _ (by omega)]; omega, by omega⟩
      have X3 := Lib.hid (((Blk.new w [.int .i64 nz] 3).alloc (.cells (A3 a0 a1 a2) 37)).alloc (.cells #[.bool false] 4))
      have X6 := Lib.hid (Blk.new ((w.alloc (.cells #[.int .i64 nz] 3)).alloc (.cells (A3 a0 a1 a2) 37)) [.bool false] 4)
      rw [show ((w.alloc (.cells #[.int .i64 nz] 3)).alloc (.cells (A3 a0 a1 a2) 37)).heap.size = w.heap.size + 2 by simp] at X6
      have M0 := Lib.hid ((((Mod.refl [] w).alloc (.cells #[.int .i64 nz] 3)).alloc (.cells (A3 a0 a1 a2) 37)).alloc (.cells #[.bool false] 4))
      have d1 : decide ((150 : Int) < l.length) = true := by simp; omega
      have d2 : decide (150 < l.length) = true := by simp; omega
      unfold maxLen at hm
      clear ha hP hok hl hw1
      simp only [List.map_cons, List.map_nil]
      refine calls_of_wp_marks Try.func5 rfl ?_
      simp only [Try.ntmps5, List.size_toArray, List.length_cons, List.length_nil, Nat.reduceAdd, Nat.reduceSub, Array.replicate_succ, Array.replicate_zero, List.push_toArray, List.append_toArray, List.nil_append, List.cons_append]
      go_wp2_with fail
      refine (fit_any _).mono ?_
      rintro e1 w1 ⟨rfl, hM1⟩
      have M1 := Lib.hid (M0.out.trans hM1)
      have Y3 := Lib.hid (hM1.blk X3.out (by simp))
      have Y6 := Lib.hid (hM1.blk X6.out (by simp))
      have k3 := Y3.out.cell (i := 0) rfl
      have f3 := Y3.out.free 0
      have ZM := Lib.hid ((Mod.refl [w.heap.size] w1).setCell (p := ⟨w.heap.size, 0, none⟩) (.inl (by simp)) (.int .i64 ((n0 : Int) + 1)))
      have Z6 := Lib.hid (ZM.out.blk Y6.out (by simp))
      have g6 := Z6.out.cell (i := 0) rfl
      have f6 := Z6.out.free 0
      have h6 := Y6.out.cell (i := 0) rfl
      have i6 := Y6.out.free 0
      clear hM1
      go_wp2_with fail
      have r4 := (Z6.out.set 0 (.bool true)).cell (i := 0) rfl
      exact ⟨.bool true, by simp [results, Try.results5, go_sem, r4], rfl, (M1.out.trans' ZM.out (fun b hb => .inr (by simp at hb; omega))).setCell (p := ⟨w.heap.size + 2, 0, none⟩) (.inr (by show w.heap.size ≤ w.heap.size + 2; omega)) _⟩
end Go.Proofs.Ytajadfoannmaiaa.Pool
