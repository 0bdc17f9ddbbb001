/- index's laws: IndexRuns. -/
import Derived.Test.YtgnemlfheiaolaaIndexLaw1
import Derived.Test.YtgnemlfheiaolaaMap
namespace Go.Proofs.Ytgnemlfheiaolaa.Index
open Go Go.RowKit Go.YtgnemlfheiaolaaMem Go.YtgnemlfheiaolaaLex Go.Proofs.Ytgnemlfheiaolaa.Hash Go.Proofs.Ytgnemlfheiaolaa.Keys Go.Proofs.Ytgnemlfheiaolaa.Probe
set_option linter.unusedVariables false
set_option linter.unusedSimpArgs false

/-- The keys' places as a function. -/
def mapOf (S : List (Option (List UInt8))) (k : List UInt8) : Option Int := (placeOf S k).map fun p => (p : Int)
theorem mapOf_some {S : List (Option (List UInt8))} {k : List UInt8} {z : Int} (h : mapOf S k = some z) : optInt (placeOf S k) = z ∧ ∃ p : Nat, S[p]? = some (some k) := by
  unfold mapOf at h
  cases hp : placeOf S k with
  | none => rw [hp] at h; cases h
  | some p => rw [hp] at h; simp at h; subst h; exact ⟨rfl, p, placeOf_get hp⟩
theorem mapOf_emp (n : Nat) (k : List UInt8) : mapOf (emp n) k = none := by
  unfold mapOf
  rw [placeOf_none (emp_no n · k)]; rfl
theorem mapOf_set {S : List (Option (List UInt8))} {j : Nat} {key : List UInt8} (hj : S[j]? = some none) (hu : Uniq (S.set j (some key))) (h0 : placeOf S key = none) (k : List UInt8) : mapOf (S.set j (some key)) k = upd (mapOf S) key (some (j : Int)) k := by
  have hjl : j < S.length := (List.getElem?_eq_some_iff.1 hj).1
  unfold mapOf
  by_cases e : k = key
  · subst e; rw [upd_same, placeOf_there hu (List.getElem?_set_self hjl)]; rfl
  · rw [upd_other e]
    cases hp : placeOf S k with
    | some p =>
      have hg := placeOf_get hp
      have hne : j ≠ p := fun e => by subst e; rw [hj] at hg; simp at hg
      rw [placeOf_there hu (p := p) (by rw [List.getElem?_set_ne hne]; exact hg)]
    | none =>
      rw [placeOf_none]
      intro q hq
      by_cases e2 : j = q
      · subst e2; rw [List.getElem?_set_self hjl] at hq; simp at hq; exact e hq.symm
      · rw [List.getElem?_set_ne e2] at hq; exact placeOf_no hp q hq
theorem mapOf_del {S : List (Option (List UInt8))} {p : Nat} {key : List UInt8} (hp : S[p]? = some (some key)) (hu : Uniq S) (hu' : Uniq (S.set p none)) (k : List UInt8) : mapOf (S.set p none) k = upd (mapOf S) key none k := by
  have hpl : p < S.length := (List.getElem?_eq_some_iff.1 hp).1
  unfold mapOf
  by_cases e : k = key
  · subst e
    rw [upd_same, placeOf_none]
    · rfl
    intro q hq
    by_cases e2 : p = q
    · subst e2; rw [List.getElem?_set_self hpl] at hq; simp at hq
    · rw [List.getElem?_set_ne e2] at hq; exact e2 (hu p q _ hp hq)
  · rw [upd_other e]
    cases hk : placeOf S k with
    | some q =>
      have hg := placeOf_get hk
      have hne : p ≠ q := fun e2 => by subst e2; rw [hp] at hg; simp at hg; exact e hg.symm
      rw [placeOf_there hu' (p := q) (by rw [List.getElem?_set_ne hne]; exact hg)]
    | none =>
      rw [placeOf_none]
      intro q hq
      by_cases e2 : p = q
      · subst e2; rw [List.getElem?_set_self hpl] at hq; simp at hq
      · rw [List.getElem?_set_ne e2] at hq; exact placeOf_no hk q hq
theorem upd_none {f : List UInt8 → Option Int} {key : List UInt8} (h : f key = none) (k : List UInt8) : upd f key none k = f k := by
  by_cases e : k = key
  · subst e; rw [upd_same, h]
  · rw [upd_other e]
/-- All is below n, and each place is free or used. -/
def Whole (n : Nat) (S : List (Option (List UInt8))) (fl : List Nat) : Prop := S.length = n ∧ fl.length + used S = n
theorem IdxAt.free0 {w : World} {x g : Nat} {L : List Nat} {r : Row} {S : List (Option (List UInt8))} {j : Nat} {fl : List Nat} (h : IdxAt w x g L r S (j :: fl)) : S[j]? = some none := by
  obtain ⟨b1, b2, b3, t, bs, nx, T, rfl, h⟩ := h
  exact (h.sto.free 0 j rfl).1
theorem IdxAt.short {w : World} {x g : Nat} {L : List Nat} {r : Row} {S : List (Option (List UInt8))} {fl : List Nat} (h : IdxAt w x g L r S fl) {p : Nat} {k : List UInt8} (hp : S[p]? = some (some k)) : k.length ≤ 64 := by
  obtain ⟨b1, b2, b3, t, bs, nx, T, rfl, h⟩ := h
  exact (h.sto.key p k hp).1
theorem IdxAt.few {w : World} {x g : Nat} {L : List Nat} {r : Row} {S : List (Option (List UInt8))} {fl : List Nat} (h : IdxAt w x g L r S fl) : S.length ≤ 2000 := by
  obtain ⟨b1, b2, b3, t, bs, nx, T, rfl, h⟩ := h
  exact h.sto.few
theorem whole_emp (n : Nat) : Whole n (emp n) (List.range n) := by
  refine ⟨by simp [emp], ?_⟩
  have : used (emp n) = 0 := by unfold used emp; rw [List.countP_eq_zero]; intro x hx; rw [List.eq_of_mem_replicate hx]; simp
  rw [this, List.length_range, Nat.add_zero]
theorem whole_set {n : Nat} {S : List (Option (List UInt8))} {j : Nat} {fl : List Nat} {key : List UInt8} (h : Whole n S (j :: fl)) (hj : S[j]? = some none) : Whole n (S.set j (some key)) fl ∧ used (S.set j (some key)) = used S + 1 := by
  have h1 := used_set_some S j key hj
  obtain ⟨h2, h3⟩ := h
  simp only [List.length_cons] at h3
  exact ⟨⟨by rw [List.length_set]; exact h2, by omega⟩, h1⟩
theorem whole_del {n : Nat} {S : List (Option (List UInt8))} {p : Nat} {fl : List Nat} {key : List UInt8} (h : Whole n S fl) (hp : S[p]? = some (some key)) : Whole n (S.set p none) (p :: fl) ∧ used (S.set p none) = used S - 1 ∧ 1 ≤ used S := by
  have h1 := used_set_none S p key hp
  obtain ⟨h2, h3⟩ := h
  exact ⟨⟨by rw [List.length_set]; exact h2, by simp only [List.length_cons]; omega⟩, by omega, by omega⟩

section
variable {w : World} {x g : Nat} {L : List Nat} {r : Row} {S : List (Option (List UInt8))} {fl : List Nat}
theorem is_at (h : IdxAt w x g L r S fl) (i : Int) (key : List UInt8) : Calls Try.prog 16 #[.pointer (some ⟨g, 0, none⟩), .int .i64 i, .string ⟨key.toArray⟩] w fun e w' => e = .returned (.bool (decide (Keys.keyOf S i = some key))) ∧ Mod [] w w' := by
  obtain ⟨b1, b2, b3, t, bs, nx, T, rfl, h⟩ := h
  exact is_any h.sto i key
theorem used_at (h : IdxAt w x g L r S fl) : Calls Try.prog 17 #[.pointer (some ⟨g, 0, none⟩)] w fun e w' => e = .returned (.int .i64 (used S : Nat)) ∧ w = w' := by
  obtain ⟨b1, b2, b3, t, bs, nx, T, rfl, h⟩ := h
  exact used_any h.sto
end
theorem putS_there {S : List (Option (List UInt8))} {fl : List Nat} {key : List UInt8} {p : Nat} (h : placeOf S key = some p) : putS S fl key = (-1, S, fl) := by unfold putS; rw [h]
theorem putS_no {S : List (Option (List UInt8))} {fl : List Nat} {key : List UInt8} (h : placeOf S key = none) (h2 : fl.length = 0 ∨ 64 < key.length) : putS S fl key = (-1, S, fl) := by
  unfold putS; rw [h]
  cases fl with
  | nil => rfl
  | cons f0 fl' =>
    simp only [List.length_cons] at h2
    simp only
    rw [if_neg (by omega)]
theorem putS_yes {S : List (Option (List UInt8))} {f0 : Nat} {fl' : List Nat} {key : List UInt8} (h : placeOf S key = none) (h2 : key.length ≤ 64) : putS S (f0 :: fl') key = ((f0 : Int), S.set f0 (some key), fl') := by
  unfold putS; rw [h]; simp only; rw [if_pos h2]
abbrev MW := MapW Try.prog 9 3
abbrev RW := RangeW Try.prog 9 3
theorem zero_int (w : World) : (zeroValue 3).run Try.prog w = .ok (.int .i64 0) w := by kernel_rfl

def RunsPost (w : World) (e : Ending) (w' : World) : Prop := e = .returned (.bool true) ∧ Mod [] w w'
set_option maxRecDepth 8000 in
set_option maxHeartbeats 12800000 in
theorem runs_main (w : World) (nz : Int) (a0 a1 a2 : Nat) (ha : ∀ x ∈ [a0, a1, a2], x < 18446744073709551616) (a : Option Addr) (cp : Nat) (l : List (Int × List UInt8)) (hP : InKT w a l) (hl : l.length ≤ 200) :
    Calls Try.prog 6 #[.int .i64 nz, .agg #[.int .u64 (a0 : Int), .int .u64 (a1 : Int), .int .u64 (a2 : Int)], .slice a l.length cp] w (RunsPost w) := by
  obtain ⟨n, hn1, hn2⟩ : ∃ n : Nat, bits .and .i64 nz 15 = (n : Int) ∧ n < 16 := ⟨(nz % 16).toNat, by rw [show (15 : Int) = 2 ^ 4 - 1 from rfl, and_mask _ _ (by omega)]; omega, by omega⟩
  have R1 := Lib.hid (fun W : World => row_any a0 a1 a2 (ha a0 (by simp)) (ha a1 (by simp)) (ha a2 (by simp)) W)
  have hr1 := rowOf_ok [a0, a1, a2]
  unfold RowPost v3 at R1
  generalize rowOf [a0, a1, a2] = r1 at *
  have HR1 := Lib.hid hr1
  have HP := Lib.hid hP
  have B0 := Lib.hid (Blk.new w [.int .u64 (a0 : Int), .int .u64 (a1 : Int), .int .u64 (a2 : Int)] 23)
  have d1 : decide ((200 : Int) < l.length) = false := by simp; omega
  have hmm := @run_makeMap Try.prog
  clear ha hr1 hP
  go_enter Try.func6, Try.ntmps6
  go_wp2_with fail
  refine (fit_any _).mono ?_
  rintro e1 w1 ⟨rfl, hM1⟩
  have M1 := Lib.hid (((Mod.refl [] w).alloc (.cells #[.int .u64 (a0 : Int), .int .u64 (a1 : Int), .int .u64 (a2 : Int)] 23)).trans hM1)
  have B1 := Lib.hid (hM1.blk B0.out (by simp))
  clear hM1
  go_wp2_with fail
  refine (Keys.new_any n (by omega) _).mono ?_
  rintro e2 w2 ⟨g, b1, b2, b3, bs, nx, rfl, hS, hg, h1, h2, h3, hM2⟩
  have S2 := Lib.hid hS
  have M2 := Lib.hid (M1.out.trans hM2)
  have B2 := Lib.hid (hM2.blk B1.out (by simp))
  clear hS hM2
  have k0 := B2.out.cell (i := 0) rfl
  have k1 := B2.out.cell (i := 1) rfl
  have k2 := B2.out.cell (i := 2) rfl
  go_wp2_with fail
  refine (R1.out _).mono ?_
  rintro e3 w3 ⟨rfl, hM3⟩
  have M3 := Lib.hid (M2.out.trans hM3)
  have S3 := Lib.hid (S2.out.mod hM3 (by simp))
  clear k0 k1 k2 hM3
  go_wp2_with fail
  refine (new_at S3.out r1 HR1.out).mono ?_
  rintro e4 w4 ⟨x, L, rfl, hI, hL, hx, hM4⟩
  have M4 := Lib.hid (M3.out.trans hM4)
  have I4 := Lib.hid hI
  have hs1 := M1.out.size
  have hs3 := M3.out.size
  have L4 : Hid (∀ b, b ∈ L → w.heap.size ≤ b) := Lib.hid fun b hb => by
    rcases hL b hb with h | h
    · simp at h; omega
    · omega
  have hLt := I4.out.lt
  have NM : Hid (w4.heap.size ∉ L) := Lib.hid fun h => by have := hLt _ h; omega
  have MP : Hid (MW (w4.alloc (.map #[] 0)) w4.heap.size 0 (fun _ => none) 0) := Lib.hid (MapW.made w4)
  have hmb : w.heap.size ≤ w4.heap.size := M4.out.size
  clear hI hL hM4 hg h1 h2 h3 hx hs1 hs3 hLt
  go_wp2_with fail
  obtain ⟨mb, hmbe⟩ : ∃ mb, w4.heap.size = mb := ⟨_, rfl⟩
  have MP2 : Hid (MW (w4.alloc (.map #[] 0)) mb 0 (mapOf (emp n)) (used (emp n))) := Lib.hid (by
    have h0 : used (emp n) = 0 := by have := (whole_emp n).2; rw [List.length_range] at this; omega
    rw [h0, ← hmbe]; exact MP.out.congr fun k => (mapOf_emp n k).symm)
  rw [hmbe] at NM hmb ⊢
  clear MP hmbe
  have I5 := Lib.hid (I4.out.mod ((Mod.refl [] w4).alloc (.map #[] 0)) (by simp))
  have M5 := Lib.hid (M4.out.alloc (.map #[] 0))
  go_loopw [35] (fun i wr => ∃ (j : Nat) (S : List (Option (List UInt8))) (fl : List Nat) (nm : Nat), j ≤ l.length ∧ i = .int .i64 (j : Int) ∧ nm ≤ j ∧ Whole n S fl ∧ IdxAt wr x g L r1 S fl ∧ MW wr mb nm (mapOf S) (used S) ∧ Mod [] w wr) (fun i _ => l.length - (intOf i).toNat)
  case atStart => exact ⟨0, emp n, List.range n, 0, Nat.zero_le _, rfl, Nat.le_refl _, whole_emp n, I5.out, MP2.out, M5.out⟩
  case round =>
    clear I5 M5 MP2 I4 M4 S3 M3 S2 M2 B2 B1 M1 B0 R1 HR1 hmm
    obtain ⟨j, S, fl, nm, hj, rfl, hnm, hW, hI, hMP, hM⟩ := hrel
    have IR := Lib.hid hI
    have MR := Lib.hid hM
    have PR := Lib.hid hMP
    have WR := Lib.hid hW
    by_cases hlt : j < l.length
    · obtain ⟨q, hq⟩ : ∃ q, l[j]? = some q := ⟨_, List.getElem?_eq_getElem hlt⟩
      obtain ⟨b, off, rfl, hb, p0, p1⟩ := HP.out j q hq
      obtain ⟨z, key⟩ := q
      have c0 := (hM.cell (a := ⟨b, off + j * 2, none⟩) hb (by simp)).trans p0
      have c1 := (hM.cell (a := ⟨b, off + j * 2 + 1, none⟩) hb (by simp)).trans p1
      simp only at c0 c1
      have hsz : (ByteArray.mk key.toArray).size = key.length := by simp [ByteArray.size]
      obtain ⟨t, ht, ht1, ht2, hk⟩ := kind_of z
      have NB := Lib.hid (Blk.new wr [.int .i64 z, .string ⟨key.toArray⟩] 35)
      have A1 := Lib.hid ((Mod.refl [] wr).alloc (.cells #[.int .i64 z, .string ⟨key.toArray⟩] 35))
      have HNL : Hid (wr.heap.size ∉ L) := Lib.hid fun h => by have := hI.lt _ h; omega
      have HNM : Hid (wr.heap.size ≠ mb) := Lib.hid fun h => by have := hMP.lt; omega
      clear hW hI hMP hM p0 p1 hq hb
      have IA := Lib.hid (IR.out.mod A1.out (by simp))
      have PA := Lib.hid (PR.out.mod A1.out (by simp))
      have MA := Lib.hid (MR.out.trans A1.out)
      by_cases h200 : key.length ≤ 200
      · have d2 : decide ((200 : Int) < key.length) = false := by simp; omega
        have hkm : key.length ≤ maxLen := by unfold maxLen; omega
        have lk := PA.out.look (mt := 39) Try.underlying39 Try.underlying9 Try.underlying3 (zero_int _) hkm
        have ln := PA.out.len (mt := 39) Try.underlying39
        cases hp : placeOf S key with
        | some p =>
          have hmf : mapOf S key = some (p : Int) := by unfold mapOf; rw [hp]; rfl
          rw [hmf] at lk
          have hpg := placeOf_get hp
          have HPG := Lib.hid hpg
          have hpp := Lib.hid hp
          have HMF := Lib.hid hmf
          clear hp hpg hmf
          rcases hk with hk | hk | hk
          · have NA := Lib.hid (Blk.new wr [.int .i64 z, .string ⟨key.toArray⟩] 35)
            have PM := Lib.hid (put_any IA.out key (by omega))
            have hpm : putS S fl key = (-1, S, fl) := putS_there hpp.out
            rw [hpm] at PM
            go_wp2_with fail
            refine PM.out.mono ?_
            rintro e5 w5 ⟨rfl, hI5, hM5⟩
            have N5 := Lib.hid hM5
            have I5 := Lib.hid hI5
            have P5 := Lib.hid (PA.out.mod hM5 NM.out)
            have M5 := Lib.hid (MA.out.trans' hM5 (fun b hb => .inr (L4.out b hb)))
            have NA5 := Lib.hid (hM5.blk NA.out HNL.out)
            have k1 := NA5.out.cell (i := 1) rfl
            have ln5 := P5.out.len (mt := 39) Try.underlying39
            clear hM5 hI5 lk ln hpm

            have W6 := WR
            have L6 : Hid (nm ≤ j + 1) := Lib.hid (by omega)

            obtain ⟨w7, rg, P7, M7r, hsz7⟩ := P5.out.range (mt := 39) Try.underlying39 Try.underlying9
            have HSZ7 := Lib.hid hsz7
            have I7 := Lib.hid (I5.out.mod M7r (by simp))
            have M7 := Lib.hid (M5.out.trans M7r)
            have RG7 := Lib.hid P7
            have NL7 : Hid (w5.heap.size ∉ L) := Lib.hid fun h => by have := I5.out.lt _ h; omega
            clear hsz7 M7r P7
            go_wp2_with fail
            obtain ⟨rr, hrr⟩ : ∃ rr, w5.heap.size = rr := ⟨_, rfl⟩
            have hrw : w.heap.size ≤ rr := by rw [← hrr]; exact M5.out.size
            rw [hrr] at RG7 NL7 ⊢
            clear rg hrr
            go_loopw [17, 18] (fun _ _ wr => RW wr mb rr nm (mapOf S) (used S) ∧ IdxAt wr x g L r1 S fl ∧ Mod [] w wr) (fun _ _ wr => wr.rangeLeft mb rr)
            case atStart => exact ⟨RG7.out, I7.out, M7.out⟩
            case round =>
              obtain ⟨hR, hI, hM⟩ := hrel
              have RR := Lib.hid hR
              have I8 := Lib.hid hI
              have M8 := Lib.hid hM
              clear hR hI hM
              rcases RR.out.next Try.underlying9 Try.underlying3 0 with nx | ⟨k, zk, w9, hkl, hfk, nx, R9, hlt9, M9r, hsz9, en⟩
              · have ln9 := RR.out.map.len (mt := 39) Try.underlying39
                go_wp2_with fail
                refine (used_at I8.out).mono ?_
                rintro e10 w10 ⟨rfl, rfl⟩
                go_wp2_with fail
                go_roundw
                case rel => exact ⟨j + 1, S, fl, nm, by omega, by go_num, L6.out, W6.out, I8.out, RR.out.map, M8.out⟩
                case measure => simp [intOf]; omega
              · have I9 := Lib.hid (I8.out.mod M9r (fun b hb hb' => by simp at hb'; subst hb'; exact NL7.out hb))
                have M9 := Lib.hid (M8.out.trans' M9r (fun b hb => .inr (by simp at hb; omega)))
                have R9' := Lib.hid R9
                have H9 := Lib.hid hlt9
                obtain ⟨ho, p9, hp9⟩ := mapOf_some hfk
                have hk64 := I8.out.short hp9
                have FI := Lib.hid (find_any I9.out k (by omega))
                rw [ho] at FI
                clear R9 hlt9 M9r hsz9 ho hp9 hfk
                go_wp2_with fail
                refine FI.out.mono ?_
                rintro e10 w10 ⟨rfl, hM10⟩
                have N10 := Lib.hid hM10
                clear hM10
                go_wp2_with fail
                go_roundw
                case rel => exact ⟨R9'.out.mod N10.out (by simp) (by simp), I9.out.mod N10.out (by simp), M9.out.trans N10.out⟩
                case measure => rw [R9'.out.left_mod N10.out (by simp) (by simp)]; exact H9.out
          · have NA := Lib.hid (Blk.new wr [.int .i64 z, .string ⟨key.toArray⟩] 35)
            have RM := Lib.hid (remove_any IA.out key (by omega))
            have hrm : remS S fl key = ((p : Int), S.set p none, p :: fl) := by unfold remS; rw [hpp.out]
            rw [hrm] at RM
            go_wp2_with fail
            refine RM.out.mono ?_
            rintro e5 w5 ⟨rfl, hI5, hM5⟩
            have N5 := Lib.hid hM5
            have I5 := Lib.hid hI5
            have P5 := Lib.hid (PA.out.mod hM5 NM.out)
            have M5 := Lib.hid (MA.out.trans' hM5 (fun b hb => .inr (L4.out b hb)))
            have k1 := (hM5.blk NA.out HNL.out).cell (i := 1) rfl
            obtain ⟨w6, dl, P6r, N6r⟩ := P5.out.del (mt := 39) Try.underlying39 Try.underlying9 hkm 0
            have hu5 := I5.out.uniq
            have I6 := Lib.hid (I5.out.mod N6r (by simp; exact fun b hb hm => NM.out (hm ▸ hb)))
            have M6 := Lib.hid (M5.out.trans' N6r (by simp; omega))
            obtain ⟨w61, w62, w63⟩ := whole_del WR.out HPG.out
            have W6 := Lib.hid w61
            have P6 : Hid (MW w6 mb nm (mapOf (S.set p none)) (used (S.set p none))) := Lib.hid (by
              have := P6r.congr fun k => (mapOf_del HPG.out IR.out.uniq hu5 k).symm
              rw [HMF.out] at this
              rw [w62]; exact this)
            clear w61 w62 w63
            have L6 : Hid (nm ≤ j + 1) := Lib.hid (by omega)
            clear hM5 hI5 lk ln hrm P6r N6r hu5

            obtain ⟨w7, rg, P7, M7r, hsz7⟩ := P6.out.range (mt := 39) Try.underlying39 Try.underlying9
            have HSZ7 := Lib.hid hsz7
            have I7 := Lib.hid (I6.out.mod M7r (by simp))
            have M7 := Lib.hid (M6.out.trans M7r)
            have RG7 := Lib.hid P7
            have NL7 : Hid (w6.heap.size ∉ L) := Lib.hid fun h => by have := I6.out.lt _ h; omega
            clear hsz7 M7r P7
            go_wp2_with fail
            obtain ⟨rr, hrr⟩ : ∃ rr, w6.heap.size = rr := ⟨_, rfl⟩
            have hrw : w.heap.size ≤ rr := by rw [← hrr]; exact M6.out.size
            rw [hrr] at RG7 NL7 ⊢
            clear rg hrr
            go_loopw [17, 18] (fun _ _ wr => RW wr mb rr nm (mapOf (S.set p none)) (used (S.set p none)) ∧ IdxAt wr x g L r1 (S.set p none) (p :: fl) ∧ Mod [] w wr) (fun _ _ wr => wr.rangeLeft mb rr)
            case atStart => exact ⟨RG7.out, I7.out, M7.out⟩
            case round =>
              obtain ⟨hR, hI, hM⟩ := hrel
              have RR := Lib.hid hR
              have I8 := Lib.hid hI
              have M8 := Lib.hid hM
              clear hR hI hM
              rcases RR.out.next Try.underlying9 Try.underlying3 0 with nx | ⟨k, zk, w9, hkl, hfk, nx, R9, hlt9, M9r, hsz9, en⟩
              · have ln9 := RR.out.map.len (mt := 39) Try.underlying39
                go_wp2_with fail
                refine (used_at I8.out).mono ?_
                rintro e10 w10 ⟨rfl, rfl⟩
                go_wp2_with fail
                go_roundw
                case rel => exact ⟨j + 1, (S.set p none), (p :: fl), nm, by omega, by go_num, L6.out, W6.out, I8.out, RR.out.map, M8.out⟩
                case measure => simp [intOf]; omega
              · have I9 := Lib.hid (I8.out.mod M9r (fun b hb hb' => by simp at hb'; subst hb'; exact NL7.out hb))
                have M9 := Lib.hid (M8.out.trans' M9r (fun b hb => .inr (by simp at hb; omega)))
                have R9' := Lib.hid R9
                have H9 := Lib.hid hlt9
                obtain ⟨ho, p9, hp9⟩ := mapOf_some hfk
                have hk64 := I8.out.short hp9
                have FI := Lib.hid (find_any I9.out k (by omega))
                rw [ho] at FI
                clear R9 hlt9 M9r hsz9 ho hp9 hfk
                go_wp2_with fail
                refine FI.out.mono ?_
                rintro e10 w10 ⟨rfl, hM10⟩
                have N10 := Lib.hid hM10
                clear hM10
                go_wp2_with fail
                go_roundw
                case rel => exact ⟨R9'.out.mod N10.out (by simp) (by simp), I9.out.mod N10.out (by simp), M9.out.trans N10.out⟩
                case measure => rw [R9'.out.left_mod N10.out (by simp) (by simp)]; exact H9.out
          · go_wp2_with fail
            refine (find_any IA.out key (by omega)).mono ?_
            rintro e5 w5 ⟨rfl, hM5⟩
            rw [hpp.out]
            have hoi : optInt (some p) = (p : Int) := rfl
            rw [hoi]
            have N5 := Lib.hid hM5
            have I6 := Lib.hid (IA.out.mod N5.out (by simp))
            have P6 := Lib.hid (PA.out.mod N5.out (by simp))
            have M6 := Lib.hid (MA.out.trans N5.out)
            have W6 := WR
            have L6 : Hid (nm ≤ j + 1) := Lib.hid (by omega)
            clear hM5 hoi lk ln

            obtain ⟨w7, rg, P7, M7r, hsz7⟩ := P6.out.range (mt := 39) Try.underlying39 Try.underlying9
            have HSZ7 := Lib.hid hsz7
            have I7 := Lib.hid (I6.out.mod M7r (by simp))
            have M7 := Lib.hid (M6.out.trans M7r)
            have RG7 := Lib.hid P7
            have NL7 : Hid (w5.heap.size ∉ L) := Lib.hid fun h => by have := I6.out.lt _ h; omega
            clear hsz7 M7r P7
            go_wp2_with fail
            obtain ⟨rr, hrr⟩ : ∃ rr, w5.heap.size = rr := ⟨_, rfl⟩
            have hrw : w.heap.size ≤ rr := by rw [← hrr]; exact M6.out.size
            rw [hrr] at RG7 NL7 ⊢
            clear rg hrr
            go_loopw [17, 18] (fun _ _ wr => RW wr mb rr nm (mapOf S) (used S) ∧ IdxAt wr x g L r1 S fl ∧ Mod [] w wr) (fun _ _ wr => wr.rangeLeft mb rr)
            case atStart => exact ⟨RG7.out, I7.out, M7.out⟩
            case round =>
              obtain ⟨hR, hI, hM⟩ := hrel
              have RR := Lib.hid hR
              have I8 := Lib.hid hI
              have M8 := Lib.hid hM
              clear hR hI hM
              rcases RR.out.next Try.underlying9 Try.underlying3 0 with nx | ⟨k, zk, w9, hkl, hfk, nx, R9, hlt9, M9r, hsz9, en⟩
              · have ln9 := RR.out.map.len (mt := 39) Try.underlying39
                go_wp2_with fail
                refine (used_at I8.out).mono ?_
                rintro e10 w10 ⟨rfl, rfl⟩
                go_wp2_with fail
                go_roundw
                case rel => exact ⟨j + 1, S, fl, nm, by omega, by go_num, L6.out, W6.out, I8.out, RR.out.map, M8.out⟩
                case measure => simp [intOf]; omega
              · have I9 := Lib.hid (I8.out.mod M9r (fun b hb hb' => by simp at hb'; subst hb'; exact NL7.out hb))
                have M9 := Lib.hid (M8.out.trans' M9r (fun b hb => .inr (by simp at hb; omega)))
                have R9' := Lib.hid R9
                have H9 := Lib.hid hlt9
                obtain ⟨ho, p9, hp9⟩ := mapOf_some hfk
                have hk64 := I8.out.short hp9
                have FI := Lib.hid (find_any I9.out k (by omega))
                rw [ho] at FI
                clear R9 hlt9 M9r hsz9 ho hp9 hfk
                go_wp2_with fail
                refine FI.out.mono ?_
                rintro e10 w10 ⟨rfl, hM10⟩
                have N10 := Lib.hid hM10
                clear hM10
                go_wp2_with fail
                go_roundw
                case rel => exact ⟨R9'.out.mod N10.out (by simp) (by simp), I9.out.mod N10.out (by simp), M9.out.trans N10.out⟩
                case measure => rw [R9'.out.left_mod N10.out (by simp) (by simp)]; exact H9.out
        | none =>
          have hmf : mapOf S key = none := by unfold mapOf; rw [hp]; rfl
          rw [hmf] at lk
          have hpp := Lib.hid hp
          have HMF := Lib.hid hmf
          clear hp hmf
          rcases hk with hk | hk | hk
          · by_cases hun : used S < n
            · have d3 : decide ((used S : Int) < n) = true := by simp; omega
              by_cases h64 : key.length ≤ 64
              · have d4 : decide ((key.length : Int) ≤ 64) = true := by simp; omega
                obtain ⟨f0, fl', rfl⟩ : ∃ f0 fl', fl = f0 :: fl' := List.exists_cons_of_length_pos (by have := WR.out.2; omega)

                have NA := Lib.hid (Blk.new wr [.int .i64 z, .string ⟨key.toArray⟩] 35)
                have PM := Lib.hid (put_any IA.out key (by omega))
                have hpm : putS S (f0 :: fl') key = ((f0 : Int), S.set f0 (some key), fl') := putS_yes hpp.out h64
                rw [hpm] at PM
                go_wp2_with fail
                refine PM.out.mono ?_
                rintro e5 w5 ⟨rfl, hI5, hM5⟩
                have N5 := Lib.hid hM5
                have I5 := Lib.hid hI5
                have P5 := Lib.hid (PA.out.mod hM5 NM.out)
                have M5 := Lib.hid (MA.out.trans' hM5 (fun b hb => .inr (L4.out b hb)))
                have NA5 := Lib.hid (hM5.blk NA.out HNL.out)
                have k1 := NA5.out.cell (i := 1) rfl
                have ln5 := P5.out.len (mt := 39) Try.underlying39
                clear hM5 hI5 lk ln hpm

                have hf0 := IR.out.free0
                have HF0 := Lib.hid hf0
                have hf0l : f0 < S.length := (List.getElem?_eq_some_iff.1 hf0).1
                have hfew := IR.out.few
                have IS := Lib.hid (is_at I5.out (f0 : Int) key)
                have hki : decide (Keys.keyOf (S.set f0 (some key)) (f0 : Int) = some key) = true := by rw [keyOf_some (List.getElem?_set_self hf0l)]; simp
                rw [hki] at IS
                clear hki hf0
                go_wp2_with fail
                refine IS.out.mono ?_
                rintro e51 w51 ⟨rfl, hM51⟩
                have I51 := Lib.hid (I5.out.mod hM51 (by simp))
                have P51 := Lib.hid (P5.out.mod hM51 (by simp))
                have M51 := Lib.hid (M5.out.trans hM51)
                have k51 := (hM51.blk NA5.out (by simp)).cell (i := 1) rfl
                obtain ⟨w6, pt, P6r, N6r⟩ := P51.out.put (mt := 39) Try.underlying39 Try.underlying9 Try.underlying3 (by unfold maxLen; omega) hkm (z := (f0 : Int)) (WalkArith.wf_i64 (by omega))
                have hu5 := I5.out.uniq
                have I6 := Lib.hid (I51.out.mod N6r (by simp; exact fun b hb hm => NM.out (hm ▸ hb)))
                have M6 := Lib.hid (M51.out.trans' N6r (by simp; omega))
                obtain ⟨w61, w62⟩ := whole_set (key := key) WR.out HF0.out
                have W6 := Lib.hid w61
                have P6 : Hid (MW w6 mb (nm + 1) (mapOf (S.set f0 (some key))) (used (S.set f0 (some key)))) := Lib.hid (by
                  have := P6r.congr fun k => (mapOf_set HF0.out hu5 hpp.out k).symm
                  rw [HMF.out] at this
                  rw [w62]; exact this)
                have L6 : Hid (nm + 1 ≤ j + 1) := Lib.hid (by omega)
                clear w61 w62 P6r N6r hu5 hM51

                obtain ⟨w7, rg, P7, M7r, hsz7⟩ := P6.out.range (mt := 39) Try.underlying39 Try.underlying9
                have HSZ7 := Lib.hid hsz7
                have I7 := Lib.hid (I6.out.mod M7r (by simp))
                have M7 := Lib.hid (M6.out.trans M7r)
                have RG7 := Lib.hid P7
                have NL7 : Hid (w6.heap.size ∉ L) := Lib.hid fun h => by have := I6.out.lt _ h; omega
                clear hsz7 M7r P7
                go_wp2_with fail
                obtain ⟨rr, hrr⟩ : ∃ rr, w6.heap.size = rr := ⟨_, rfl⟩
                have hrw : w.heap.size ≤ rr := by rw [← hrr]; exact M6.out.size
                rw [hrr] at RG7 NL7 ⊢
                clear rg hrr
                go_loopw [17, 18] (fun _ _ wr => RW wr mb rr (nm + 1) (mapOf (S.set f0 (some key))) (used (S.set f0 (some key))) ∧ IdxAt wr x g L r1 (S.set f0 (some key)) fl' ∧ Mod [] w wr) (fun _ _ wr => wr.rangeLeft mb rr)
                case atStart => exact ⟨RG7.out, I7.out, M7.out⟩
                case round =>
                  obtain ⟨hR, hI, hM⟩ := hrel
                  have RR := Lib.hid hR
                  have I8 := Lib.hid hI
                  have M8 := Lib.hid hM
                  clear hR hI hM
                  rcases RR.out.next Try.underlying9 Try.underlying3 0 with nx | ⟨k, zk, w9, hkl, hfk, nx, R9, hlt9, M9r, hsz9, en⟩
                  · have ln9 := RR.out.map.len (mt := 39) Try.underlying39
                    go_wp2_with fail
                    refine (used_at I8.out).mono ?_
                    rintro e10 w10 ⟨rfl, rfl⟩
                    go_wp2_with fail
                    go_roundw
                    case rel => exact ⟨j + 1, (S.set f0 (some key)), fl', (nm + 1), by omega, by go_num, L6.out, W6.out, I8.out, RR.out.map, M8.out⟩
                    case measure => simp [intOf]; omega
                  · have I9 := Lib.hid (I8.out.mod M9r (fun b hb hb' => by simp at hb'; subst hb'; exact NL7.out hb))
                    have M9 := Lib.hid (M8.out.trans' M9r (fun b hb => .inr (by simp at hb; omega)))
                    have R9' := Lib.hid R9
                    have H9 := Lib.hid hlt9
                    obtain ⟨ho, p9, hp9⟩ := mapOf_some hfk
                    have hk64 := I8.out.short hp9
                    have FI := Lib.hid (find_any I9.out k (by omega))
                    rw [ho] at FI
                    clear R9 hlt9 M9r hsz9 ho hp9 hfk
                    go_wp2_with fail
                    refine FI.out.mono ?_
                    rintro e10 w10 ⟨rfl, hM10⟩
                    have N10 := Lib.hid hM10
                    clear hM10
                    go_wp2_with fail
                    go_roundw
                    case rel => exact ⟨R9'.out.mod N10.out (by simp) (by simp), I9.out.mod N10.out (by simp), M9.out.trans N10.out⟩
                    case measure => rw [R9'.out.left_mod N10.out (by simp) (by simp)]; exact H9.out
              · have d4 : decide ((key.length : Int) ≤ 64) = false := by simp; omega
                have NA := Lib.hid (Blk.new wr [.int .i64 z, .string ⟨key.toArray⟩] 35)
                have PM := Lib.hid (put_any IA.out key (by omega))
                have hpm : putS S fl key = (-1, S, fl) := putS_no hpp.out (.inr (by omega))
                rw [hpm] at PM
                go_wp2_with fail
                refine PM.out.mono ?_
                rintro e5 w5 ⟨rfl, hI5, hM5⟩
                have N5 := Lib.hid hM5
                have I5 := Lib.hid hI5
                have P5 := Lib.hid (PA.out.mod hM5 NM.out)
                have M5 := Lib.hid (MA.out.trans' hM5 (fun b hb => .inr (L4.out b hb)))
                have NA5 := Lib.hid (hM5.blk NA.out HNL.out)
                have k1 := NA5.out.cell (i := 1) rfl
                have ln5 := P5.out.len (mt := 39) Try.underlying39
                clear hM5 hI5 lk ln hpm

                have W6 := WR
                have L6 : Hid (nm ≤ j + 1) := Lib.hid (by omega)

                obtain ⟨w7, rg, P7, M7r, hsz7⟩ := P5.out.range (mt := 39) Try.underlying39 Try.underlying9
                have HSZ7 := Lib.hid hsz7
                have I7 := Lib.hid (I5.out.mod M7r (by simp))
                have M7 := Lib.hid (M5.out.trans M7r)
                have RG7 := Lib.hid P7
                have NL7 : Hid (w5.heap.size ∉ L) := Lib.hid fun h => by have := I5.out.lt _ h; omega
                clear hsz7 M7r P7
                go_wp2_with fail
                obtain ⟨rr, hrr⟩ : ∃ rr, w5.heap.size = rr := ⟨_, rfl⟩
                have hrw : w.heap.size ≤ rr := by rw [← hrr]; exact M5.out.size
                rw [hrr] at RG7 NL7 ⊢
                clear rg hrr
                go_loopw [17, 18] (fun _ _ wr => RW wr mb rr nm (mapOf S) (used S) ∧ IdxAt wr x g L r1 S fl ∧ Mod [] w wr) (fun _ _ wr => wr.rangeLeft mb rr)
                case atStart => exact ⟨RG7.out, I7.out, M7.out⟩
                case round =>
                  obtain ⟨hR, hI, hM⟩ := hrel
                  have RR := Lib.hid hR
                  have I8 := Lib.hid hI
                  have M8 := Lib.hid hM
                  clear hR hI hM
                  rcases RR.out.next Try.underlying9 Try.underlying3 0 with nx | ⟨k, zk, w9, hkl, hfk, nx, R9, hlt9, M9r, hsz9, en⟩
                  · have ln9 := RR.out.map.len (mt := 39) Try.underlying39
                    go_wp2_with fail
                    refine (used_at I8.out).mono ?_
                    rintro e10 w10 ⟨rfl, rfl⟩
                    go_wp2_with fail
                    go_roundw
                    case rel => exact ⟨j + 1, S, fl, nm, by omega, by go_num, L6.out, W6.out, I8.out, RR.out.map, M8.out⟩
                    case measure => simp [intOf]; omega
                  · have I9 := Lib.hid (I8.out.mod M9r (fun b hb hb' => by simp at hb'; subst hb'; exact NL7.out hb))
                    have M9 := Lib.hid (M8.out.trans' M9r (fun b hb => .inr (by simp at hb; omega)))
                    have R9' := Lib.hid R9
                    have H9 := Lib.hid hlt9
                    obtain ⟨ho, p9, hp9⟩ := mapOf_some hfk
                    have hk64 := I8.out.short hp9
                    have FI := Lib.hid (find_any I9.out k (by omega))
                    rw [ho] at FI
                    clear R9 hlt9 M9r hsz9 ho hp9 hfk
                    go_wp2_with fail
                    refine FI.out.mono ?_
                    rintro e10 w10 ⟨rfl, hM10⟩
                    have N10 := Lib.hid hM10
                    clear hM10
                    go_wp2_with fail
                    go_roundw
                    case rel => exact ⟨R9'.out.mod N10.out (by simp) (by simp), I9.out.mod N10.out (by simp), M9.out.trans N10.out⟩
                    case measure => rw [R9'.out.left_mod N10.out (by simp) (by simp)]; exact H9.out
            · have d3 : decide ((used S : Int) < n) = false := by simp; omega
              have NA := Lib.hid (Blk.new wr [.int .i64 z, .string ⟨key.toArray⟩] 35)
              have PM := Lib.hid (put_any IA.out key (by omega))
              have hpm : putS S fl key = (-1, S, fl) := putS_no hpp.out (.inl (by have := WR.out.2; omega))
              rw [hpm] at PM
              go_wp2_with fail
              refine PM.out.mono ?_
              rintro e5 w5 ⟨rfl, hI5, hM5⟩
              have N5 := Lib.hid hM5
              have I5 := Lib.hid hI5
              have P5 := Lib.hid (PA.out.mod hM5 NM.out)
              have M5 := Lib.hid (MA.out.trans' hM5 (fun b hb => .inr (L4.out b hb)))
              have NA5 := Lib.hid (hM5.blk NA.out HNL.out)
              have k1 := NA5.out.cell (i := 1) rfl
              have ln5 := P5.out.len (mt := 39) Try.underlying39
              clear hM5 hI5 lk ln hpm

              have W6 := WR
              have L6 : Hid (nm ≤ j + 1) := Lib.hid (by omega)

              obtain ⟨w7, rg, P7, M7r, hsz7⟩ := P5.out.range (mt := 39) Try.underlying39 Try.underlying9
              have HSZ7 := Lib.hid hsz7
              have I7 := Lib.hid (I5.out.mod M7r (by simp))
              have M7 := Lib.hid (M5.out.trans M7r)
              have RG7 := Lib.hid P7
              have NL7 : Hid (w5.heap.size ∉ L) := Lib.hid fun h => by have := I5.out.lt _ h; omega
              clear hsz7 M7r P7
              go_wp2_with fail
              obtain ⟨rr, hrr⟩ : ∃ rr, w5.heap.size = rr := ⟨_, rfl⟩
              have hrw : w.heap.size ≤ rr := by rw [← hrr]; exact M5.out.size
              rw [hrr] at RG7 NL7 ⊢
              clear rg hrr
              go_loopw [17, 18] (fun _ _ wr => RW wr mb rr nm (mapOf S) (used S) ∧ IdxAt wr x g L r1 S fl ∧ Mod [] w wr) (fun _ _ wr => wr.rangeLeft mb rr)
              case atStart => exact ⟨RG7.out, I7.out, M7.out⟩
              case round =>
                obtain ⟨hR, hI, hM⟩ := hrel
                have RR := Lib.hid hR
                have I8 := Lib.hid hI
                have M8 := Lib.hid hM
                clear hR hI hM
                rcases RR.out.next Try.underlying9 Try.underlying3 0 with nx | ⟨k, zk, w9, hkl, hfk, nx, R9, hlt9, M9r, hsz9, en⟩
                · have ln9 := RR.out.map.len (mt := 39) Try.underlying39
                  go_wp2_with fail
                  refine (used_at I8.out).mono ?_
                  rintro e10 w10 ⟨rfl, rfl⟩
                  go_wp2_with fail
                  go_roundw
                  case rel => exact ⟨j + 1, S, fl, nm, by omega, by go_num, L6.out, W6.out, I8.out, RR.out.map, M8.out⟩
                  case measure => simp [intOf]; omega
                · have I9 := Lib.hid (I8.out.mod M9r (fun b hb hb' => by simp at hb'; subst hb'; exact NL7.out hb))
                  have M9 := Lib.hid (M8.out.trans' M9r (fun b hb => .inr (by simp at hb; omega)))
                  have R9' := Lib.hid R9
                  have H9 := Lib.hid hlt9
                  obtain ⟨ho, p9, hp9⟩ := mapOf_some hfk
                  have hk64 := I8.out.short hp9
                  have FI := Lib.hid (find_any I9.out k (by omega))
                  rw [ho] at FI
                  clear R9 hlt9 M9r hsz9 ho hp9 hfk
                  go_wp2_with fail
                  refine FI.out.mono ?_
                  rintro e10 w10 ⟨rfl, hM10⟩
                  have N10 := Lib.hid hM10
                  clear hM10
                  go_wp2_with fail
                  go_roundw
                  case rel => exact ⟨R9'.out.mod N10.out (by simp) (by simp), I9.out.mod N10.out (by simp), M9.out.trans N10.out⟩
                  case measure => rw [R9'.out.left_mod N10.out (by simp) (by simp)]; exact H9.out
          · have NA := Lib.hid (Blk.new wr [.int .i64 z, .string ⟨key.toArray⟩] 35)
            have RM := Lib.hid (remove_any IA.out key (by omega))
            have hrm : remS S fl key = (-1, S, fl) := by unfold remS; rw [hpp.out]
            rw [hrm] at RM
            go_wp2_with fail
            refine RM.out.mono ?_
            rintro e5 w5 ⟨rfl, hI5, hM5⟩
            have N5 := Lib.hid hM5
            have I5 := Lib.hid hI5
            have P5 := Lib.hid (PA.out.mod hM5 NM.out)
            have M5 := Lib.hid (MA.out.trans' hM5 (fun b hb => .inr (L4.out b hb)))
            have k1 := (hM5.blk NA.out HNL.out).cell (i := 1) rfl
            obtain ⟨w6, dl, P6r, N6r⟩ := P5.out.del (mt := 39) Try.underlying39 Try.underlying9 hkm 0
            have hu5 := I5.out.uniq
            have I6 := Lib.hid (I5.out.mod N6r (by simp; exact fun b hb hm => NM.out (hm ▸ hb)))
            have M6 := Lib.hid (M5.out.trans' N6r (by simp; omega))
            have W6 := WR
            have P6 : Hid (MW w6 mb nm (mapOf S) (used S)) := Lib.hid (by
              have := P6r.congr fun k => upd_none HMF.out k
              rw [HMF.out] at this
              exact this)
            have L6 : Hid (nm ≤ j + 1) := Lib.hid (by omega)
            clear hM5 hI5 lk ln hrm P6r N6r hu5

            obtain ⟨w7, rg, P7, M7r, hsz7⟩ := P6.out.range (mt := 39) Try.underlying39 Try.underlying9
            have HSZ7 := Lib.hid hsz7
            have I7 := Lib.hid (I6.out.mod M7r (by simp))
            have M7 := Lib.hid (M6.out.trans M7r)
            have RG7 := Lib.hid P7
            have NL7 : Hid (w6.heap.size ∉ L) := Lib.hid fun h => by have := I6.out.lt _ h; omega
            clear hsz7 M7r P7
            go_wp2_with fail
            obtain ⟨rr, hrr⟩ : ∃ rr, w6.heap.size = rr := ⟨_, rfl⟩
            have hrw : w.heap.size ≤ rr := by rw [← hrr]; exact M6.out.size
            rw [hrr] at RG7 NL7 ⊢
            clear rg hrr
            go_loopw [17, 18] (fun _ _ wr => RW wr mb rr nm (mapOf S) (used S) ∧ IdxAt wr x g L r1 S fl ∧ Mod [] w wr) (fun _ _ wr => wr.rangeLeft mb rr)
            case atStart => exact ⟨RG7.out, I7.out, M7.out⟩
            case round =>
              obtain ⟨hR, hI, hM⟩ := hrel
              have RR := Lib.hid hR
              have I8 := Lib.hid hI
              have M8 := Lib.hid hM
              clear hR hI hM
              rcases RR.out.next Try.underlying9 Try.underlying3 0 with nx | ⟨k, zk, w9, hkl, hfk, nx, R9, hlt9, M9r, hsz9, en⟩
              · have ln9 := RR.out.map.len (mt := 39) Try.underlying39
                go_wp2_with fail
                refine (used_at I8.out).mono ?_
                rintro e10 w10 ⟨rfl, rfl⟩
                go_wp2_with fail
                go_roundw
                case rel => exact ⟨j + 1, S, fl, nm, by omega, by go_num, L6.out, W6.out, I8.out, RR.out.map, M8.out⟩
                case measure => simp [intOf]; omega
              · have I9 := Lib.hid (I8.out.mod M9r (fun b hb hb' => by simp at hb'; subst hb'; exact NL7.out hb))
                have M9 := Lib.hid (M8.out.trans' M9r (fun b hb => .inr (by simp at hb; omega)))
                have R9' := Lib.hid R9
                have H9 := Lib.hid hlt9
                obtain ⟨ho, p9, hp9⟩ := mapOf_some hfk
                have hk64 := I8.out.short hp9
                have FI := Lib.hid (find_any I9.out k (by omega))
                rw [ho] at FI
                clear R9 hlt9 M9r hsz9 ho hp9 hfk
                go_wp2_with fail
                refine FI.out.mono ?_
                rintro e10 w10 ⟨rfl, hM10⟩
                have N10 := Lib.hid hM10
                clear hM10
                go_wp2_with fail
                go_roundw
                case rel => exact ⟨R9'.out.mod N10.out (by simp) (by simp), I9.out.mod N10.out (by simp), M9.out.trans N10.out⟩
                case measure => rw [R9'.out.left_mod N10.out (by simp) (by simp)]; exact H9.out
          · go_wp2_with fail
            refine (find_any IA.out key (by omega)).mono ?_
            rintro e5 w5 ⟨rfl, hM5⟩
            rw [hpp.out]
            have hoi : optInt (none) = -1 := rfl
            rw [hoi]
            have N5 := Lib.hid hM5
            have I6 := Lib.hid (IA.out.mod N5.out (by simp))
            have P6 := Lib.hid (PA.out.mod N5.out (by simp))
            have M6 := Lib.hid (MA.out.trans N5.out)
            have W6 := WR
            have L6 : Hid (nm ≤ j + 1) := Lib.hid (by omega)
            clear hM5 hoi lk ln

            obtain ⟨w7, rg, P7, M7r, hsz7⟩ := P6.out.range (mt := 39) Try.underlying39 Try.underlying9
            have HSZ7 := Lib.hid hsz7
            have I7 := Lib.hid (I6.out.mod M7r (by simp))
            have M7 := Lib.hid (M6.out.trans M7r)
            have RG7 := Lib.hid P7
            have NL7 : Hid (w5.heap.size ∉ L) := Lib.hid fun h => by have := I6.out.lt _ h; omega
            clear hsz7 M7r P7
            go_wp2_with fail
            obtain ⟨rr, hrr⟩ : ∃ rr, w5.heap.size = rr := ⟨_, rfl⟩
            have hrw : w.heap.size ≤ rr := by rw [← hrr]; exact M6.out.size
            rw [hrr] at RG7 NL7 ⊢
            clear rg hrr
            go_loopw [17, 18] (fun _ _ wr => RW wr mb rr nm (mapOf S) (used S) ∧ IdxAt wr x g L r1 S fl ∧ Mod [] w wr) (fun _ _ wr => wr.rangeLeft mb rr)
            case atStart => exact ⟨RG7.out, I7.out, M7.out⟩
            case round =>
              obtain ⟨hR, hI, hM⟩ := hrel
              have RR := Lib.hid hR
              have I8 := Lib.hid hI
              have M8 := Lib.hid hM
              clear hR hI hM
              rcases RR.out.next Try.underlying9 Try.underlying3 0 with nx | ⟨k, zk, w9, hkl, hfk, nx, R9, hlt9, M9r, hsz9, en⟩
              · have ln9 := RR.out.map.len (mt := 39) Try.underlying39
                go_wp2_with fail
                refine (used_at I8.out).mono ?_
                rintro e10 w10 ⟨rfl, rfl⟩
                go_wp2_with fail
                go_roundw
                case rel => exact ⟨j + 1, S, fl, nm, by omega, by go_num, L6.out, W6.out, I8.out, RR.out.map, M8.out⟩
                case measure => simp [intOf]; omega
              · have I9 := Lib.hid (I8.out.mod M9r (fun b hb hb' => by simp at hb'; subst hb'; exact NL7.out hb))
                have M9 := Lib.hid (M8.out.trans' M9r (fun b hb => .inr (by simp at hb; omega)))
                have R9' := Lib.hid R9
                have H9 := Lib.hid hlt9
                obtain ⟨ho, p9, hp9⟩ := mapOf_some hfk
                have hk64 := I8.out.short hp9
                have FI := Lib.hid (find_any I9.out k (by omega))
                rw [ho] at FI
                clear R9 hlt9 M9r hsz9 ho hp9 hfk
                go_wp2_with fail
                refine FI.out.mono ?_
                rintro e10 w10 ⟨rfl, hM10⟩
                have N10 := Lib.hid hM10
                clear hM10
                go_wp2_with fail
                go_roundw
                case rel => exact ⟨R9'.out.mod N10.out (by simp) (by simp), I9.out.mod N10.out (by simp), M9.out.trans N10.out⟩
                case measure => rw [R9'.out.left_mod N10.out (by simp) (by simp)]; exact H9.out
      · have d2 : decide ((200 : Int) < key.length) = true := by simp; omega
        go_wp2_with fail
        go_ret
        exact ⟨rfl, MA.out⟩
    · obtain rfl : j = l.length := by omega
      clear hW hI hMP hM
      go_wp2_with fail
      go_ret
      exact ⟨rfl, MR.out⟩
set_option maxRecDepth 8000 in
theorem runs_walk (w : World) (nz : Int) (hw : (Lit.int .i64 nz).wf = true) (v : Value) (ds : List Nat) (hv : v = .agg (ds.map fun x : Nat => Value.int .u64 (x : Int)).toArray) (hd : ds.length = 3) (ha : ∀ x ∈ ds, x < 18446744073709551616) (a : Option Addr) (cp : Nat) (l : List (Int × List UInt8)) (hm : l.length ≤ maxLen) (hP : InKT w a l) :
    Calls Try.prog 6 #[.int .i64 nz, v, .slice a l.length cp] w fun e w' => e = .returned (.bool true) ∧ Mod [] w w' := by
  subst hv
  match ds, hd with
  | [a0, a1, a2], _ =>
    by_cases hl : l.length ≤ 200
    · exact runs_main w nz a0 a1 a2 ha a cp l hP hl
    · have d1 : decide ((200 : Int) < l.length) = true := by simp; omega
      obtain ⟨n, hn1, hn2⟩ : ∃ n : Nat, bits .and .i64 nz 15 = (n : Int) ∧ n < 16 := ⟨(nz % 16).toNat, by rw [show (15 : Int) = 2 ^ 4 - 1 from rfl, and_mask _ _ (by omega)]; omega, by omega⟩
      unfold maxLen at hm
      clear hP hw
      simp only [List.map_cons, List.map_nil]
      go_enter Try.func6, Try.ntmps6
      go_wp2_with fail
      refine (fit_any _).mono ?_
      rintro e1 w1 ⟨rfl, hM1⟩
      have M1 := Lib.hid (((Mod.refl [] w).alloc _).trans hM1)
      clear hM1
      go_wp2_with fail
      go_ret
      exact ⟨rfl, M1.out⟩
end Go.Proofs.Ytgnemlfheiaolaa.Index
