/- summary's laws: SummaryFew. -/
import Derived.Test.YtpobjhmfidebbaaSumMem
import Derived.Test.YtpobjhmfidebbaaArrArg
namespace Go.Proofs.Ytpobjhmfidebbaa.Sum
open Go Go.RowKit Go.YtpobjhmfidebbaaMem Go.YtpobjhmfidebbaaLex Go.YtpobjhmfidebbaaRange Go.Proofs.Ytpobjhmfidebbaa.Hash Go.Proofs.Ytpobjhmfidebbaa.Keys Go.Proofs.Ytpobjhmfidebbaa.Index
set_option linter.unusedVariables false
set_option linter.unusedSimpArgs false

abbrev MS := MapW Try.prog 9 2
abbrev RS := RangeW Try.prog 9 2
theorem zero_i64 (w : World) : (zeroValue 2).run Try.prog w = .ok (.int .i64 0) w := by kernel_rfl
/-- 'm[k]' of a map of whole numbers. -/
theorem map_get {w : World} {b n c : Nat} {f : List UInt8 → Option Int} (h : MS w b n f c) {k : List UInt8} (hl : k.length ≤ maxLen) :
    (Instr.lookup 32 (.map (some b)) (.string ⟨k.toArray⟩) false).run Try.prog w = .ok (.int .i64 ((f k).getD 0)) w := by
  obtain ⟨D, ho, hs, h1, h2⟩ := h
  obtain ⟨a, hrun, hat, hw⟩ := ho.lookup_int (Maps.string_keyed Try.underlying9) Try.underlying32 Try.underlying2 (zero_i64 w) (key_str Try.underlying9 hl)
  rw [hrun]
  cases hf : f k with
  | none =>
    have := h1 k
    rw [hf] at this
    rw [Maps.atKey_of_not_has this] at hat
    have hat := (Lit.int.inj (DataW.lit.inj hat)).2
    rw [← hat]; rfl
  | some y =>
    rw [h2 k y hf] at hat
    have hat := (Lit.int.inj (DataW.lit.inj hat)).2
    rw [← hat]; rfl
/-- The first byte, if there is one. -/
theorem head_run (key : List UInt8) (m : Nat) (hm : m ≤ key.length) (hk : key.length ≤ 100) (W : World) : (Instr.slice 9 (.string ⟨key.toArray⟩) none (some (.int .i64 (m : Int))) none).run Try.prog W = .ok (.string ⟨(key.take m).toArray⟩) W := by
  have hsz : (ByteArray.mk key.toArray).size = key.length := by simp [ByteArray.size]
  have hext : (ByteArray.mk key.toArray).extract 0 m = ⟨(key.take m).toArray⟩ := by
    rw [ByteArray.extract_mk]
    congr 1
  have hml : (m : Int) ≤ key.length := by omega
  have hm0 : (0 : Int) ≤ m := by omega
  have b1 : (Instr.sliceBound (.int .i64 (m : Int)) key.length .sliceAlen).run Try.prog W = .ok m W := by
    simp [Instr.sliceBound, asIntOf, go_sem, hml]
  have b2 : (Instr.sliceBound (.int .i64 0) m .sliceB).run Try.prog W = .ok 0 W := by
    simp [Instr.sliceBound, asIntOf, go_sem]
  simp [Instr.slice, Instr.sliceBounds, run_underlying Try.underlying9, hsz, b1, b2, hext]

def FewPost (w : World) (e : Ending) (w' : World) : Prop := e = .returned (.bool true) ∧ Mod [] w w'
set_option maxRecDepth 8000 in
set_option maxHeartbeats 12800000 in
theorem few_main (w : World) (a0 a1 a2 : Nat) (ha : ∀ x ∈ [a0, a1, a2], x < 18446744073709551616) (a : Option Addr) (cp : Nat) (l : List KW) (hm : l.length ≤ maxLen) (hP : InRow w a 2 KW.cells l) (hok : ∀ q ∈ l, q.ok) (hl : lightB l = true) :
    Calls Try.prog 3 #[v3 a0 a1 a2, .slice a l.length cp] w (FewPost w) := by
  have R1 := Lib.hid (fun W : World => row_any a0 a1 a2 (ha a0 (by simp)) (ha a1 (by simp)) (ha a2 (by simp)) W)
  have hr1 := rowOf_ok [a0, a1, a2]
  unfold RowPost v3 at R1
  unfold v3
  generalize rowOf [a0, a1, a2] = r1 at *
  have N1 := Lib.hid (fun W : World => new_any 8 (by omega) (by omega) r1 hr1 W)
  have LG := Lib.hid (fun (W : World) (h : Mod [] w W) => light_any (w := W) (a := a) (l := l) (fun i q hq => by
    obtain ⟨b, off, h1, h2, h3⟩ := hP i q hq
    exact ⟨b, off, h1, h.lt h2, fun j u hu => (h.cell (a := ⟨b, off + i * 2 + j, none⟩) h2 (by simp)).trans (h3 j u hu)⟩) hm cp)
  rw [hl] at LG
  have hl150 : l.length ≤ 150 := by unfold lightB at hl; simp at hl; exact hl.1
  have HK : Hid (∀ q ∈ l, q.key.length ≤ 100) := Lib.hid (by unfold lightB at hl; simp at hl; exact hl.2)
  have HP := Lib.hid hP
  have HO := Lib.hid hok
  have HL := Lib.hid hl150
  have B0 := Lib.hid (Blk.new w [.int .u64 (a0 : Int), .int .u64 (a1 : Int), .int .u64 (a2 : Int)] 23)
  have M0 := Lib.hid ((Mod.refl [] w).alloc (.cells #[.int .u64 (a0 : Int), .int .u64 (a1 : Int), .int .u64 (a2 : Int)] 23))
  have hmm := @run_makeMap Try.prog
  clear ha hr1 hP hok hl hm hl150
  go_enter Try.func3, Try.ntmps3
  go_wp2_with fail
  refine (fit_any _).mono ?_
  rintro e1 w1 ⟨rfl, hM1⟩
  have M1 := Lib.hid (M0.out.trans hM1)
  have B1 := Lib.hid (hM1.blk B0.out (by simp))
  clear hM1
  go_wp2_with fail
  refine (LG.out _ M1.out).mono ?_
  rintro e2 w2 ⟨rfl, hM2⟩
  have M2 := Lib.hid (M1.out.trans hM2)
  have B2 := Lib.hid (hM2.blk B1.out (by simp))
  have k0 := B2.out.cell (i := 0) rfl
  have k1 := B2.out.cell (i := 1) rfl
  have k2 := B2.out.cell (i := 2) rfl
  clear hM2
  go_wp2_with fail
  refine (R1.out _).mono ?_
  rintro e3 w3 ⟨rfl, hM3⟩
  have M3 := Lib.hid (M2.out.trans hM3)
  clear hM3 k0 k1 k2
  go_wp2_with fail
  refine (N1.out _).mono ?_
  rintro e4 w4 ⟨Ba, rfl, hA, hB, hM4⟩
  have M4 := Lib.hid (M3.out.trans hM4)
  have A4 := Lib.hid hA
  have BL : Hid (∀ b, b ∈ Ba.all → w.heap.size ≤ b) := Lib.hid fun b hb => by have := hB b hb; have := M3.out.size; omega
  have MP : Hid (MS (w4.alloc (.map #[] 0)) w4.heap.size 0 (fun _ => none) 0) := Lib.hid (MapW.made w4)
  have A5 := Lib.hid (A4.out.mod ((Mod.refl [] w4).alloc (.map #[] 0)) (by simp))
  have M5 := Lib.hid (M4.out.alloc (.map #[] 0))
  have NM : Hid (w4.heap.size ∉ Ba.all) := Lib.hid fun h => by have := A4.out.lt _ h; omega
  have hmb : w.heap.size ≤ w4.heap.size := M4.out.size
  clear hA hB hM4 B2 M2 B1 M1 M3 R1 N1 LG
  go_wp2_with fail
  obtain ⟨mb, hmbe⟩ : ∃ mb, w4.heap.size = mb := ⟨_, rfl⟩
  rw [hmbe] at NM hmb MP ⊢
  clear hmbe hmm
  go_loopw [29] (fun i wr => ∃ (j : Nat) (f : List UInt8 → Option Int) (E : List Ent) (t : Int) (nm : Nat), j ≤ l.length ∧ i = .int .i64 (j : Int) ∧ nm ≤ j ∧ SumAt wr Ba 8 E t ∧ OkE 8 E t ∧ FewI f E ∧ t ≤ 4096 * j ∧ MS wr mb nm f E.length ∧ Mod [] w wr) (fun i _ => l.length - (intOf i).toNat)
  case atStart => exact ⟨0, fun _ => none, [], 0, 0, Nat.zero_le _, rfl, Nat.le_refl _, A5.out, ok_nil 8, few_nil, by omega, MP.out, M5.out⟩
  case round =>
    clear A5 MP M5 A4 M4 B0 M0
    obtain ⟨j, f, E, t, nm, hj, rfl, hnm, hA, hO, hF, ht, hMP, hM⟩ := hrel
    have AR := Lib.hid hA
    have OR := Lib.hid hO
    have FR := Lib.hid hF
    have TR := Lib.hid ht
    have PR := Lib.hid hMP
    have MR := Lib.hid hM
    have hl150 := HL.out
    by_cases hlt : j < l.length
    · obtain ⟨q, hq⟩ : ∃ q, l[j]? = some q := ⟨_, List.getElem?_eq_getElem hlt⟩
      obtain ⟨b, off, rfl, hb, hcell⟩ := HP.out j q hq
      have hk100 := HK.out q (List.mem_of_getElem? hq)
      have hzw := wf_i64_of (HO.out q (List.mem_of_getElem? hq))
      obtain ⟨key, z⟩ := q
      simp only at hk100 hzw
      have c0 := (hM.cell (a := ⟨b, off + j * 2, none⟩) hb (by simp)).trans (hcell 0 _ rfl)
      have c1 := (hM.cell (a := ⟨b, off + j * 2 + 1, none⟩) hb (by simp)).trans (hcell 1 _ rfl)
      simp only at c0 c1
      have hsz : (ByteArray.mk key.toArray).size = key.length := by simp [ByteArray.size]
      have NB := Lib.hid (Blk.new wr [.string ⟨key.toArray⟩, .int .i64 z] 34)
      have A1 := Lib.hid ((Mod.refl [] wr).alloc (.cells #[.string ⟨key.toArray⟩, .int .i64 z] 34))
      have PA := Lib.hid (PR.out.mod A1.out (by simp))
      have AA := Lib.hid (AR.out.mod A1.out (by simp))
      have MA := Lib.hid (MR.out.trans A1.out)
      have HN : Hid (wr.heap.size ∉ Ba.all) := Lib.hid fun h => by have := hA.lt _ h; omega
      obtain ⟨m, hmin, hm1⟩ : ∃ m : Nat, min (key.length : Int) 1 = (m : Int) ∧ m ≤ key.length ∧ m ≤ 1 := ⟨min key.length 1, by omega, by omega, by omega⟩
      have hsl := head_run key m hm1.1 hk100
      obtain ⟨k1, hk1⟩ : ∃ k1, key.take m = k1 := ⟨_, rfl⟩
      rw [hk1] at hsl
      have hk1l : k1.length ≤ 1 := by rw [← hk1, List.length_take]; omega
      obtain ⟨v, hv, hv1⟩ : ∃ v, bits .and .i64 z 4095 = v ∧ 0 ≤ v ∧ v ≤ 4095 := ⟨_, rfl, by rw [show (4095 : Int) = 2 ^ 12 - 1 from rfl, and_mask _ _ (by omega)]; omega⟩
      have hmn : ∀ w : World, (Builtin.min_ #[3, 3] 3 #[.int .i64 (key.length : Int), .int .i64 1]).run Try.prog w = .ok (.int .i64 (m : Int)) w := fun w => by
        show Result.ok (Value.int .i64 (if 1 < (key.length : Int) then 1 else (key.length : Int))) w = _
        congr 2; omega
      have hkm : k1.length ≤ maxLen := by unfold maxLen; omega
      have lk := PA.out.look (mt := 32) Try.underlying32 Try.underlying9 Try.underlying2 (zero_i64 _) hkm
      have ln := PA.out.len (mt := 32) Try.underlying32
      have hEl := hO.len
      have hmz : nm < maxLen := by unfold maxLen; omega
      have hKM := Lib.hid hkm
      have hMZ := Lib.hid hmz
      clear hA hO hF ht hMP hM hcell hq hb hk1 hmin hkm hmz
      cases hf : f k1 with
      | some x =>
        rw [hf] at lk
        have hx : 0 ≤ x ∧ x ≤ t := by
          obtain ⟨e, he, hek⟩ := FR.out.all k1 x hf
          have h1 := (FR.out.there e he).1
          rw [hek, hf] at h1
          obtain rfl : x = e.n := by simpa using h1
          exact OR.out.each e he
        have ht0 := OR.out.lt
        obtain ⟨hF2, hL2⟩ := FR.out.yes OR.out (z := v + 1) hf
        have OF := offer_plain (n := 8) (s := (E, t)) (key := k1) (z := v + 1) (by omega) (by omega) (by have := TR.out; simp only; omega) ht0.1
        have F1 := Lib.hid (offer_ok (s := (E, t)) AA.out OR.out (by omega) k1 (by omega) (v + 1) (by omega))
        rw [OF] at F1
        have T2 : Hid (t + (v + 1) ≤ 4096 * ((j + 1 : Nat) : Int)) := Lib.hid (by have := TR.out; omega)
        have F2 := Lib.hid hF2
        have L2 := Lib.hid hL2
        have HF := Lib.hid hf
        have ht1 := TR.out
        clear hF2 hL2 OF hf ht0
        go_wp2_with fail
        refine F1.out.mono ?_
        rintro e1 w1 ⟨⟨v1, rfl⟩, hA1, hO1, hM1⟩
        have A2 := Lib.hid hA1
        have O2 := Lib.hid hO1
        have P1 := Lib.hid (PA.out.mod hM1 NM.out)
        have M1 := Lib.hid (MA.out.trans' hM1 (fun b hb => .inr (BL.out b hb)))
        have gt := map_get P1.out hKM.out
        rw [HF.out] at gt
        obtain ⟨w2, pt, P2, N2⟩ := P1.out.put (mt := 32) Try.underlying32 Try.underlying9 Try.underlying2 hMZ.out hKM.out (z := x + (v + 1)) (WalkArith.wf_i64 (by omega))
        rw [HF.out] at P2
        have P3 : Hid (MS w2 mb (nm + 1) (upd f k1 (some (x + (v + 1)))) (offerE 8 E k1 (v + 1)).length) := Lib.hid (by rw [L2.out]; exact P2)
        have A3 := Lib.hid (A2.out.mod N2 (by simp; exact fun b hb hm => NM.out (hm ▸ hb)))
        have M3 := Lib.hid (M1.out.trans' N2 (by simp; omega))
        clear hA1 hO1 hM1 lk ln P2 N2
        go_wp2_with fail
        go_roundw
        case rel => exact ⟨j + 1, _, _, _, nm + 1, by omega, by go_num, by omega, A3.out, O2.out, F2.out, T2.out, P3.out, M3.out⟩
        case measure => simp [intOf]; omega
      | none =>
        rw [hf] at lk
        by_cases h8 : E.length = 8
        · have HF := Lib.hid hf
          have d8 : ((E.length : Int) == 8) = true := by simp; omega
          clear hf
          go_wp2_with fail
          go_roundw
          case rel => exact ⟨j + 1, f, E, t, nm, by omega, by go_num, by omega, AA.out, OR.out, FR.out, by have := TR.out; omega, PA.out, MA.out⟩
          case measure => simp [intOf]; omega
        · have d8 : ((E.length : Int) == 8) = false := by simp; omega
          have ht0 := OR.out.lt
          obtain ⟨hF2, hL2⟩ := FR.out.no OR.out (by omega) (z := v + 1) hf
          have OF := offer_plain (n := 8) (s := (E, t)) (key := k1) (z := v + 1) (by omega) (by omega) (by have := TR.out; simp only; omega) ht0.1
          have F1 := Lib.hid (offer_ok (s := (E, t)) AA.out OR.out (by omega) k1 (by omega) (v + 1) (by omega))
          rw [OF] at F1
          have T2 : Hid (t + (v + 1) ≤ 4096 * ((j + 1 : Nat) : Int)) := Lib.hid (by have := TR.out; omega)
          have F2 := Lib.hid hF2
          have L2 := Lib.hid hL2
          have HF := Lib.hid hf
          clear hF2 hL2 OF hf ht0
          go_wp2_with fail
          refine F1.out.mono ?_
          rintro e1 w1 ⟨⟨v1, rfl⟩, hA1, hO1, hM1⟩
          have A2 := Lib.hid hA1
          have O2 := Lib.hid hO1
          have P1 := Lib.hid (PA.out.mod hM1 NM.out)
          have M1 := Lib.hid (MA.out.trans' hM1 (fun b hb => .inr (BL.out b hb)))
          have gt := map_get P1.out hKM.out
          rw [HF.out] at gt
          obtain ⟨w2, pt, P2, N2⟩ := P1.out.put (mt := 32) Try.underlying32 Try.underlying9 Try.underlying2 hMZ.out hKM.out (z := v + 1) (WalkArith.wf_i64 (by omega))
          rw [HF.out] at P2
          have P3 : Hid (MS w2 mb (nm + 1) (upd f k1 (some (v + 1))) (offerE 8 E k1 (v + 1)).length) := Lib.hid (by rw [L2.out]; exact P2)
          have A3 := Lib.hid (A2.out.mod N2 (by simp; exact fun b hb hm => NM.out (hm ▸ hb)))
          have M3 := Lib.hid (M1.out.trans' N2 (by simp; omega))
          clear hA1 hO1 hM1 lk ln P2 N2
          go_wp2_with fail
          go_roundw
          case rel => exact ⟨j + 1, _, _, _, nm + 1, by omega, by go_num, by omega, A3.out, O2.out, F2.out, T2.out, P3.out, M3.out⟩
          case measure => simp [intOf]; omega
    · obtain rfl : j = l.length := by omega
      clear hA hO hF ht hMP hM
      obtain ⟨w7, rg, P7, M7r, hsz7⟩ := PR.out.range (mt := 32) Try.underlying32 Try.underlying9
      have A7 := Lib.hid (AR.out.mod M7r (by simp))
      have M7 := Lib.hid (MR.out.trans M7r)
      have RG7 := Lib.hid P7
      have NL7 : Hid (wr.heap.size ∉ Ba.all) := Lib.hid fun h => by have := AR.out.lt _ h; omega
      clear hsz7 M7r P7
      go_wp2_with fail
      obtain ⟨rr, hrr⟩ : ∃ rr, wr.heap.size = rr := ⟨_, rfl⟩
      have hrw : w.heap.size ≤ rr := by rw [← hrr]; exact MR.out.size
      rw [hrr] at RG7 NL7 ⊢
      clear rg hrr
      go_loopw [13, 14] (fun _ _ wr => RS wr mb rr nm f E.length ∧ SumAt wr Ba 8 E t ∧ Mod [] w wr) (fun _ _ wr => wr.rangeLeft mb rr)
      case atStart => exact ⟨RG7.out, A7.out, M7.out⟩
      case round =>
        obtain ⟨hR, hA, hM⟩ := hrel
        have RR := Lib.hid hR
        have A8 := Lib.hid hA
        have M8 := Lib.hid hM
        clear hR hA hM
        rcases RR.out.next Try.underlying9 Try.underlying2 0 with nx | ⟨k, zk, w9, hkl9, hfk, nx, R9, hlt9, M9r, hsz9, en⟩
        · have ln := RR.out.map.len (mt := 32) Try.underlying32
          have LN := Lib.hid (len_any A8.out)
          go_wp2_with fail
          refine LN.out.mono ?_
          rintro e1 w1 ⟨rfl, rfl⟩
          go_wp2_with fail
          go_ret
          exact ⟨rfl, M8.out⟩
        · have A9 := Lib.hid (A8.out.mod M9r (fun b hb hb' => by simp at hb'; subst hb'; exact NL7.out hb))
          have M9 := Lib.hid (M8.out.trans' M9r (fun b hb => .inr (by simp at hb; omega)))
          have R9' := Lib.hid R9
          have H9 := Lib.hid hlt9
          obtain ⟨e, he, hek⟩ := FR.out.all k zk hfk
          have h1 := FR.out.there e he
          have h64 := OR.out.k64 e he
          have CN := Lib.hid (count_any A9.out k (by rw [← hek]; omega))
          have hce := countE_mem OR.out.nd he
          rw [hek] at hce h1
          rw [hfk] at h1
          have hen : e.n = zk := by simpa using h1.1.symm
          rw [hce, hen, h1.2] at CN
          clear R9 hlt9 M9r hsz9 hce hen h1 h64 hek he hfk
          go_wp2_with fail
          refine CN.out.mono ?_
          rintro e10 w10 ⟨rfl, hM10⟩
          have N10 := Lib.hid hM10
          clear hM10
          go_wp2_with fail
          go_roundw
          case rel => exact ⟨R9'.out.mod N10.out (by simp) (by simp), A9.out.mod N10.out (by simp), M9.out.trans N10.out⟩
          case measure => rw [R9'.out.left_mod N10.out (by simp) (by simp)]; exact H9.out
set_option maxRecDepth 8000 in
theorem few_walk (w : World) (v : Value) (ds : List Nat) (hv : v = .agg (ds.map fun x : Nat => Value.int .u64 (x : Int)).toArray) (hd : ds.length = 3) (ha : ∀ x ∈ ds, x < 18446744073709551616) (a : Option Addr) (cp : Nat) (l : List KW) (hm : l.length ≤ maxLen) (hP : InRow w a 2 KW.cells l) (hok : ∀ q ∈ l, q.ok) :
    Calls Try.prog 3 #[v, .slice a l.length cp] w fun e w' => e = .returned (.bool true) ∧ Mod [] w w' := by
  subst hv
  match ds, hd with
  | [a0, a1, a2], _ =>
    cases hl : lightB l with
    | true => exact few_main w a0 a1 a2 ha a cp l hm hP hok hl
    | false =>
      have LG := Lib.hid (fun (W : World) (h : Mod [] w W) => light_any (w := W) (a := a) (l := l) (fun i q hq => by
        obtain ⟨b, off, h1, h2, h3⟩ := hP i q hq
        exact ⟨b, off, h1, h.lt h2, fun j u hu => (h.cell (a := ⟨b, off + i * 2 + j, none⟩) h2 (by simp)).trans (h3 j u hu)⟩) hm cp)
      rw [hl] at LG
      have M0 := Lib.hid ((Mod.refl [] w).alloc (.cells #[.int .u64 (a0 : Int), .int .u64 (a1 : Int), .int .u64 (a2 : Int)] 23))
      clear hP hl
      simp only [List.map_cons, List.map_nil]
      go_enter Try.func3, Try.ntmps3
      go_wp2_with fail
      refine (fit_any _).mono ?_
      rintro e1 w1 ⟨rfl, hM1⟩
      have M1 := Lib.hid (M0.out.trans hM1)
      clear hM1
      go_wp2_with fail
      refine (LG.out _ M1.out).mono ?_
      rintro e2 w2 ⟨rfl, hM2⟩
      have M2 := Lib.hid (M1.out.trans hM2)
      clear hM2
      go_wp2_with fail
      go_ret
      exact ⟨rfl, M2.out⟩
end Go.Proofs.Ytpobjhmfidebbaa.Sum
