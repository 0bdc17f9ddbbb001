/- index's laws: IndexBack. -/
import Derived.Test.YtgnemlfheiaolaaIndexLaw2
import Derived.Test.YtgnemlfheiaolaaStrArg
namespace Go.Proofs.Ytgnemlfheiaolaa.Index
open Go Go.RowKit Go.YtgnemlfheiaolaaMem Go.YtgnemlfheiaolaaLex Go.Proofs.Ytgnemlfheiaolaa.Hash Go.Proofs.Ytgnemlfheiaolaa.Keys Go.Proofs.Ytgnemlfheiaolaa.Probe
set_option linter.unusedVariables false
set_option linter.unusedSimpArgs false

theorem set_back {S : List (Option (List UInt8))} {j : Nat} {k : List UInt8} (h : S[j]? = some none) : (S.set j (some k)).set j none = S := by
  rw [List.set_set]
  apply List.ext_getElem?
  intro i
  by_cases e : j = i
  · subst e; rw [List.getElem?_set_self (List.getElem?_eq_some_iff.1 h).1, h]
  · rw [List.getElem?_set_ne e]
set_option maxRecDepth 8000 in
set_option maxHeartbeats 12800000 in
theorem back_main (w : World) (a0 a1 a2 : Nat) (ha : ∀ x ∈ [a0, a1, a2], x < 18446744073709551616) (a : Option Addr) (cp : Nat) (l : List (List UInt8)) (hP : InT w a l) (hl : l.length ≤ 20) (key : List UInt8) (hkl : key.length ≤ 64) :
    Calls Try.prog 4 #[.agg #[.int .u64 (a0 : Int), .int .u64 (a1 : Int), .int .u64 (a2 : Int)], .slice a l.length cp, .string ⟨key.toArray⟩] w (RunsPost w) := by
  have hsz : (ByteArray.mk key.toArray).size = key.length := by simp [ByteArray.size]
  have d2 : decide ((64 : Int) < key.length) = false := by simp; omega
  have R1 := Lib.hid (fun W : World => row_any a0 a1 a2 (ha a0 (by simp)) (ha a1 (by simp)) (ha a2 (by simp)) W)
  have hr1 := rowOf_ok [a0, a1, a2]
  unfold RowPost v3 at R1
  generalize rowOf [a0, a1, a2] = r1 at *
  have HR1 := Lib.hid hr1
  have HP := Lib.hid hP
  have B0 := Lib.hid (Blk.new w [.int .u64 (a0 : Int), .int .u64 (a1 : Int), .int .u64 (a2 : Int)] 23)
  have d1 : decide ((20 : Int) < l.length) = false := by simp; omega
  have hmm := @run_makeMap Try.prog
  clear ha hr1 hP
  go_enter Try.func4, Try.ntmps4
  go_wp2_with fail
  refine (fit_any _).mono ?_
  rintro e1 w1 ⟨rfl, hM1⟩
  have M1 := Lib.hid (((Mod.refl [] w).alloc (.cells #[.int .u64 (a0 : Int), .int .u64 (a1 : Int), .int .u64 (a2 : Int)] 23)).trans hM1)
  have B1 := Lib.hid (hM1.blk B0.out (by simp))
  have k0 := B1.out.cell (i := 0) rfl
  have isc : IsC w1.drew w.heap.size := isC_of_cell (w := w1) k0
  have IS := Lib.hid isc
  clear hM1 isc k0
  go_wp2_with fail
  refine wp_region_held [1] [1] [] (by kernel_rfl) (by kernel_rfl) ?_
  simp only [wpCut, List.take_succ_cons, List.take_zero, List.drop_succ_cons, List.drop_zero, List.cons_append, List.nil_append]
  go_wp2_with fail
  refine (Keys.new_any 24 (by omega) _).mono ?_
  rintro e2 w2 ⟨g, b1, b2, b3, bs, nx, rfl, hS, hg, h1, h2, h3, hM2⟩
  have S2 := Lib.hid hS
  have N2 := Lib.hid hM2
  have M2 := Lib.hid (M1.out.drew.trans hM2)
  have B2 := Lib.hid (hM2.blk B1.out (by simp))
  clear hS hM2
  have k0 := B2.out.cell (i := 0) rfl
  have k1 := B2.out.cell (i := 1) rfl
  have k2 := B2.out.cell (i := 2) rfl
  go_wp2_with fail
  refine ⟨N2.out, ?_⟩
  go_wp2_with fail
  refine (R1.out _).mono ?_
  rintro e3 w3 ⟨rfl, hM3⟩
  have M3 := Lib.hid (M2.out.trans hM3)
  have S3 := Lib.hid (S2.out.mod hM3 (by simp))
  clear k0 k1 k2 hM3
  go_wp2_with fail
  refine (new_at S3.out r1 HR1.out).mono ?_
  rintro e4 w4 ⟨x, L, rfl, hI, hL, hx, hM4⟩
  have M4 := Lib.hid (M3.out.trans hM4)
  have I4 := Lib.hid hI
  have hs1 := M1.out.size
  have hs3 := M3.out.size
  have hdr : w1.drew.heap.size = w1.heap.size := rfl
  have L4 : Hid (∀ b, b ∈ L → w.heap.size ≤ b) := Lib.hid fun b hb => by
    rcases hL b hb with h | h
    · simp at h; omega
    · omega
  have hLt := I4.out.lt
  have NM : Hid (w4.heap.size ∉ L) := Lib.hid fun h => by have := hLt _ h; omega
  have MP : Hid (MW (w4.alloc (.map #[] 0)) w4.heap.size 0 (fun _ => none) 0) := Lib.hid (MapW.made w4)
  have hmb : w.heap.size ≤ w4.heap.size := M4.out.size
  clear hI hL hM4 hg h1 h2 h3 hx hs1 hs3 hLt hdr
  go_wp2_with fail
  refine ⟨by kernel_rfl, ⟨⟨by simp, IS.out⟩, trivial⟩, ?_⟩
  go_wp2_with fail
  obtain ⟨mb, hmbe⟩ : ∃ mb, w4.heap.size = mb := ⟨_, rfl⟩
  have MP2 : Hid (MW (w4.alloc (.map #[] 0)) mb 0 (mapOf (emp 24)) (used (emp 24))) := Lib.hid (by
    have h0 : used (emp 24) = 0 := by have := (whole_emp 24).2; rw [List.length_range] at this; omega
    rw [h0, ← hmbe]; exact MP.out.congr fun k => (mapOf_emp 24 k).symm)
  rw [hmbe] at NM hmb ⊢
  clear MP hmbe
  have I5 := Lib.hid (I4.out.mod ((Mod.refl [] w4).alloc (.map #[] 0)) (by simp))
  have M5 := Lib.hid (M4.out.alloc (.map #[] 0))
  go_loopw [34] (fun i wr => ∃ (j : Nat) (S : List (Option (List UInt8))) (fl : List Nat) (nm : Nat), j ≤ l.length ∧ i = .int .i64 (j : Int) ∧ nm ≤ j ∧ used S ≤ j ∧ Whole 24 S fl ∧ IdxAt wr x g L r1 S fl ∧ MW wr mb nm (mapOf S) (used S) ∧ Mod [] w wr) (fun i _ => l.length - (intOf i).toNat)
  case atStart => exact ⟨0, emp 24, List.range 24, 0, Nat.zero_le _, rfl, Nat.le_refl _, by have := (whole_emp 24).2; rw [List.length_range] at this; omega, whole_emp 24, I5.out, MP2.out, M5.out⟩
  case round =>
    clear I5 M5 MP2 I4 M4 S3 M3 S2 M2 B2 B1 M1 B0 R1 HR1 hmm
    obtain ⟨j, S, fl, nm, hj, rfl, hnm, hus, hW, hI, hMP, hM⟩ := hrel
    have IR := Lib.hid hI
    have MR := Lib.hid hM
    have PR := Lib.hid hMP
    have WR := Lib.hid hW
    by_cases hlt : j < l.length
    · obtain ⟨q, hq⟩ : ∃ q, l[j]? = some q := ⟨_, List.getElem?_eq_getElem hlt⟩
      obtain ⟨b, off, rfl, hb, p0⟩ := HP.out j q hq
      have c0 := (hM.cell (a := ⟨b, off + j, none⟩) hb (by simp)).trans p0
      have hsq : (ByteArray.mk q.toArray).size = q.length := by simp [ByteArray.size]
      clear hW hI hMP hM p0 hq hb
      by_cases h64 : q.length ≤ 64
      · have d3 : decide ((64 : Int) < q.length) = false := by simp; omega
        have hkm : q.length ≤ maxLen := by unfold maxLen; omega
        have PM := Lib.hid (put_any IR.out q (by omega))
        cases hp : placeOf S q with
        | some p =>
          have hpm : putS S fl q = (-1, S, fl) := putS_there hp
          rw [hpm] at PM
          clear hpm hp
          go_wp2_with fail
          refine PM.out.mono ?_
          rintro e5 w5 ⟨rfl, hI5, hM5⟩
          have I5 := Lib.hid hI5
          have P5 := Lib.hid (PR.out.mod hM5 NM.out)
          have M5 := Lib.hid (MR.out.trans' hM5 (fun b hb => .inr (L4.out b hb)))
          clear hI5 hM5
          go_wp2_with fail
          go_roundw
          case rel => exact ⟨j + 1, S, fl, nm, by omega, by go_num, by omega, by omega, WR.out, I5.out, P5.out, M5.out⟩
          case measure => simp [intOf]; omega
        | none =>
          have hmf : mapOf S q = none := by unfold mapOf; rw [hp]; rfl
          obtain ⟨f0, fl', rfl⟩ : ∃ f0 fl', fl = f0 :: fl' := List.exists_cons_of_length_pos (by have := WR.out.2; omega)
          have hpm : putS S (f0 :: fl') q = ((f0 : Int), S.set f0 (some q), fl') := putS_yes hp h64
          rw [hpm] at PM
          have hf0 := IR.out.free0
          have HF0 := Lib.hid hf0
          have hf0l : f0 < S.length := (List.getElem?_eq_some_iff.1 hf0).1
          have hfew := IR.out.few
          have HPP := Lib.hid hp
          have HMF := Lib.hid hmf
          clear hpm hp hmf hf0
          go_wp2_with fail
          refine PM.out.mono ?_
          rintro e5 w5 ⟨rfl, hI5, hM5⟩
          have I5 := Lib.hid hI5
          have P5 := Lib.hid (PR.out.mod hM5 NM.out)
          have M5 := Lib.hid (MR.out.trans' hM5 (fun b hb => .inr (L4.out b hb)))
          obtain ⟨w6, pt, P6r, N6r⟩ := P5.out.put (mt := 39) Try.underlying39 Try.underlying9 Try.underlying3 (by unfold maxLen; omega) hkm (z := (f0 : Int)) (WalkArith.wf_i64 (by omega))
          have hu5 := I5.out.uniq
          have I6 := Lib.hid (I5.out.mod N6r (by simp; exact fun b hb hm => NM.out (hm ▸ hb)))
          have M6 := Lib.hid (M5.out.trans' N6r (by simp; omega))
          obtain ⟨w61, w62⟩ := whole_set (key := q) WR.out HF0.out
          have W6 := Lib.hid w61
          have P6 : Hid (MW w6 mb (nm + 1) (mapOf (S.set f0 (some q))) (used (S.set f0 (some q)))) := Lib.hid (by
            have := P6r.congr fun k => (mapOf_set HF0.out hu5 HPP.out k).symm
            rw [HMF.out] at this
            rw [w62]; exact this)
          have U6 : Hid (used (S.set f0 (some q)) ≤ j + 1) := Lib.hid (by omega)
          clear hI5 hM5 w61 w62 P6r N6r hu5
          go_wp2_with fail
          go_roundw
          case rel => exact ⟨j + 1, _, _, nm + 1, by omega, by go_num, by omega, U6.out, W6.out, I6.out, P6.out, M6.out⟩
          case measure => simp [intOf]; omega
      · have d3 : decide ((64 : Int) < q.length) = true := by simp; omega
        go_wp2_with fail
        go_ret
        exact ⟨rfl, MR.out⟩
    · obtain rfl : j = l.length := by omega
      clear hW hI hMP hM
      have hkm : key.length ≤ maxLen := by unfold maxLen; omega
      have lk := PR.out.look (mt := 39) Try.underlying39 Try.underlying9 Try.underlying3 (zero_int _) hkm
      have PM := Lib.hid (put_any IR.out key (by omega))
      cases hp : placeOf S key with
      | some p =>
        have hmf : mapOf S key = some (p : Int) := by unfold mapOf; rw [hp]; rfl
        rw [hmf] at lk
        have hpm : putS S fl key = (-1, S, fl) := putS_there hp
        rw [hpm] at PM
        clear hpm hp hmf
        go_wp2_with fail
        refine PM.out.mono ?_
        rintro e5 w5 ⟨rfl, hI5, hM5⟩
        have I6 := Lib.hid hI5
        have P6 := Lib.hid (PR.out.mod hM5 NM.out)
        have M6 := Lib.hid (MR.out.trans' hM5 (fun b hb => .inr (L4.out b hb)))
        clear hI5 hM5 lk
        obtain ⟨w7, rg, P7, M7r, hsz7⟩ := P6.out.range (mt := 39) Try.underlying39 Try.underlying9
        have I7 := Lib.hid (I6.out.mod M7r (by simp))
        have M7 := Lib.hid (M6.out.trans M7r)
        have RG7 := Lib.hid P7
        have NL7 : Hid (w5.heap.size ∉ L) := Lib.hid fun h => by have := I6.out.lt _ h; omega
        clear hsz7 M7r P7
        go_wp2_with fail
        obtain ⟨rr, hrr⟩ : ∃ rr, w5.heap.size = rr := ⟨_, rfl⟩
        have hrw : w.heap.size ≤ rr := by rw [← hrr]; exact M6.out.size
        rw [hrr] at RG7 NL7 ⊢
        clear rg hrr
        go_loopw [15, 16] (fun _ _ wr => RW wr mb rr nm (mapOf S) (used S) ∧ IdxAt wr x g L r1 S fl ∧ Mod [] w wr) (fun _ _ wr => wr.rangeLeft mb rr)
        case atStart => exact ⟨RG7.out, I7.out, M7.out⟩
        case round =>
          obtain ⟨hR, hI, hM⟩ := hrel
          have RR := Lib.hid hR
          have I8 := Lib.hid hI
          have M8 := Lib.hid hM
          clear hR hI hM
          rcases RR.out.next Try.underlying9 Try.underlying3 0 with nx | ⟨k, zk, w9, hkl9, hfk, nx, R9, hlt9, M9r, hsz9, en⟩
          · go_wp2_with fail
            go_ret
            exact ⟨rfl, M8.out⟩
          · have I9 := Lib.hid (I8.out.mod M9r (fun b hb hb' => by simp at hb'; subst hb'; exact NL7.out hb))
            have M9 := Lib.hid (M8.out.trans' M9r (fun b hb => .inr (by simp at hb; omega)))
            have R9' := Lib.hid R9
            have H9 := Lib.hid hlt9
            obtain ⟨ho, p9, hp9⟩ := mapOf_some hfk
            have hk64 := I8.out.short hp9
            have FK := Lib.hid (find_any I9.out k (by omega))
            rw [ho] at FK
            clear R9 hlt9 M9r hsz9 ho hp9 hfk
            go_wp2_with fail
            refine FK.out.mono ?_
            rintro e10 w10 ⟨rfl, hM10⟩
            have N10 := Lib.hid hM10
            clear hM10
            go_wp2_with fail
            go_roundw
            case rel => exact ⟨R9'.out.mod N10.out (by simp) (by simp), I9.out.mod N10.out (by simp), M9.out.trans N10.out⟩
            case measure => rw [R9'.out.left_mod N10.out (by simp) (by simp)]; exact H9.out
      | none =>
        have hmf : mapOf S key = none := by unfold mapOf; rw [hp]; rfl
        rw [hmf] at lk
        obtain ⟨f0, fl', rfl⟩ : ∃ f0 fl', fl = f0 :: fl' := List.exists_cons_of_length_pos (by have := WR.out.2; omega)
        have hpm : putS S (f0 :: fl') key = ((f0 : Int), S.set f0 (some key), fl') := putS_yes hp hkl
        rw [hpm] at PM
        have hf0 := IR.out.free0
        have HF0 := Lib.hid hf0
        have hf0l : f0 < S.length := (List.getElem?_eq_some_iff.1 hf0).1
        have hfew := IR.out.few
        have HPP := Lib.hid hp
        have HPM := Lib.hid hpm
        clear hpm hp hmf hf0
        go_wp2_with fail
        refine PM.out.mono ?_
        rintro e5 w5 ⟨rfl, hI5, hM5⟩
        have I5 := Lib.hid hI5
        have P5 := Lib.hid (PR.out.mod hM5 NM.out)
        have M5 := Lib.hid (MR.out.trans' hM5 (fun b hb => .inr (L4.out b hb)))
        have hpl : placeOf (S.set f0 (some key)) key = some f0 := placeOf_there I5.out.uniq (List.getElem?_set_self hf0l)
        have FI := Lib.hid (find_any I5.out key (by omega))
        have ho : optInt (placeOf (S.set f0 (some key)) key) = (f0 : Int) := by rw [hpl]; rfl
        rw [ho] at FI
        have hrm : remS (S.set f0 (some key)) fl' key = ((f0 : Int), S, f0 :: fl') := by unfold remS; rw [hpl]; simp only; rw [set_back HF0.out]
        have HRM := Lib.hid hrm
        clear hI5 hM5 lk hpl ho hrm
        go_wp2_with fail
        refine FI.out.mono ?_
        rintro e51 w51 ⟨rfl, hM51⟩
        have I51 := Lib.hid (I5.out.mod hM51 (by simp))
        have P51 := Lib.hid (P5.out.mod hM51 (by simp))
        have M51 := Lib.hid (M5.out.trans hM51)
        have RM := Lib.hid (remove_any I51.out key (by omega))
        rw [HRM.out] at RM
        clear hM51
        go_wp2_with fail
        refine RM.out.mono ?_
        rintro e52 w52 ⟨rfl, hI52, hM52⟩
        have I6 := Lib.hid hI52
        have P6 := Lib.hid (P51.out.mod hM52 NM.out)
        have M6 := Lib.hid (M51.out.trans' hM52 (fun b hb => .inr (L4.out b hb)))
        clear hI52 hM52
        obtain ⟨w7, rg, P7, M7r, hsz7⟩ := P6.out.range (mt := 39) Try.underlying39 Try.underlying9
        have I7 := Lib.hid (I6.out.mod M7r (by simp))
        have M7 := Lib.hid (M6.out.trans M7r)
        have RG7 := Lib.hid P7
        have NL7 : Hid (w52.heap.size ∉ L) := Lib.hid fun h => by have := I6.out.lt _ h; omega
        clear hsz7 M7r P7
        go_wp2_with fail
        obtain ⟨rr, hrr⟩ : ∃ rr, w52.heap.size = rr := ⟨_, rfl⟩
        have hrw : w.heap.size ≤ rr := by rw [← hrr]; exact M6.out.size
        rw [hrr] at RG7 NL7 ⊢
        clear rg hrr
        go_loopw [15, 16] (fun _ _ wr => RW wr mb rr nm (mapOf S) (used S) ∧ IdxAt wr x g L r1 S (f0 :: fl') ∧ Mod [] w wr) (fun _ _ wr => wr.rangeLeft mb rr)
        case atStart => exact ⟨RG7.out, I7.out, M7.out⟩
        case round =>
          obtain ⟨hR, hI, hM⟩ := hrel
          have RR := Lib.hid hR
          have I8 := Lib.hid hI
          have M8 := Lib.hid hM
          clear hR hI hM
          rcases RR.out.next Try.underlying9 Try.underlying3 0 with nx | ⟨k, zk, w9, hkl9, hfk, nx, R9, hlt9, M9r, hsz9, en⟩
          · have FE := Lib.hid (find_any I8.out key (by omega))
            have ho : optInt (placeOf S key) = -1 := by rw [HPP.out]; rfl
            rw [ho] at FE
            clear ho
            go_wp2_with fail
            refine FE.out.mono ?_
            rintro e10 w10 ⟨rfl, hM10⟩
            have M10 := Lib.hid (M8.out.trans hM10)
            have I10 := Lib.hid (I8.out.mod hM10 (by simp))
            have PE := Lib.hid (put_any I10.out key (by omega))
            rw [HPM.out] at PE
            clear hM10
            go_wp2_with fail
            refine PE.out.mono ?_
            rintro e11 w11 ⟨rfl, hI11, hM11⟩
            have M11 := Lib.hid (M10.out.trans' hM11 (fun b hb => .inr (L4.out b hb)))
            clear hI11 hM11
            go_wp2_with fail
            go_ret
            exact ⟨rfl, M11.out⟩
          · have I9 := Lib.hid (I8.out.mod M9r (fun b hb hb' => by simp at hb'; subst hb'; exact NL7.out hb))
            have M9 := Lib.hid (M8.out.trans' M9r (fun b hb => .inr (by simp at hb; omega)))
            have R9' := Lib.hid R9
            have H9 := Lib.hid hlt9
            obtain ⟨ho, p9, hp9⟩ := mapOf_some hfk
            have hk64 := I8.out.short hp9
            have FK := Lib.hid (find_any I9.out k (by omega))
            rw [ho] at FK
            clear R9 hlt9 M9r hsz9 ho hp9 hfk
            go_wp2_with fail
            refine FK.out.mono ?_
            rintro e10 w10 ⟨rfl, hM10⟩
            have N10 := Lib.hid hM10
            clear hM10
            go_wp2_with fail
            go_roundw
            case rel => exact ⟨R9'.out.mod N10.out (by simp) (by simp), I9.out.mod N10.out (by simp), M9.out.trans N10.out⟩
            case measure => rw [R9'.out.left_mod N10.out (by simp) (by simp)]; exact H9.out
set_option maxRecDepth 8000 in
theorem back_walk (w : World) (v : Value) (ds : List Nat) (hv : v = .agg (ds.map fun x : Nat => Value.int .u64 (x : Int)).toArray) (hd : ds.length = 3) (ha : ∀ x ∈ ds, x < 18446744073709551616) (a : Option Addr) (cp : Nat) (l : List (List UInt8)) (hm : l.length ≤ maxLen) (hP : InT w a l) (s : ByteArray) (hs : s.size ≤ maxLen) :
    Calls Try.prog 4 #[v, .slice a l.length cp, .string s] w fun e w' => e = .returned (.bool true) ∧ Mod [] w w' := by
  subst hv
  obtain ⟨key, rfl⟩ : ∃ key : List UInt8, s = ⟨key.toArray⟩ := ⟨s.data.toList, by simp⟩
  have hsz : (ByteArray.mk key.toArray).size = key.length := by simp [ByteArray.size]
  rw [hsz] at hs
  match ds, hd with
  | [a0, a1, a2], _ =>
    by_cases hl : l.length ≤ 20
    · have d1 : decide ((20 : Int) < l.length) = false := by simp; omega
      by_cases hk : key.length ≤ 64
      · exact back_main w a0 a1 a2 ha a cp l hP hl key hk
      · have d2 : decide ((64 : Int) < key.length) = true := by simp; omega
        unfold maxLen at hm hs
        clear hP
        simp only [List.map_cons, List.map_nil]
        go_enter Try.func4, Try.ntmps4
        go_wp2_with fail
        refine (fit_any _).mono ?_
        rintro e1 w1 ⟨rfl, hM1⟩
        have M1 := Lib.hid (((Mod.refl [] w).alloc _).trans hM1)
        clear hM1
        go_wp2_with fail
        go_ret
        exact ⟨rfl, M1.out⟩
    · have d1 : decide ((20 : Int) < l.length) = true := by simp; omega
      unfold maxLen at hm hs
      clear hP
      simp only [List.map_cons, List.map_nil]
      go_enter Try.func4, Try.ntmps4
      go_wp2_with fail
      refine (fit_any _).mono ?_
      rintro e1 w1 ⟨rfl, hM1⟩
      have M1 := Lib.hid (((Mod.refl [] w).alloc _).trans hM1)
      clear hM1
      go_wp2_with fail
      go_ret
      exact ⟨rfl, M1.out⟩
end Go.Proofs.Ytgnemlfheiaolaa.Index
