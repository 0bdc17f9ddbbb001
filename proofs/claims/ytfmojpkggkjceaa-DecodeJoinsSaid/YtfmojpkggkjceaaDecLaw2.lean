/- decode's laws: DecodeOne: a request is whole by its last byte, and by none ahead of it. No condition. -/
import Derived.Test.YtfmojpkggkjceaaDecLaw1
import Derived.Test.YtfmojpkggkjceaaParseLaw
import Derived.Test.YtfmojpkggkjceaaFrameRef2
namespace Go.Proofs.Ytfmojpkggkjceaa.Frame
open Go Go.RowKit Go.YtfmojpkggkjceaaMem Go.YtfmojpkggkjceaaLex
set_option linter.unusedVariables false
set_option linter.unusedSimpArgs false

theorem take_next {bs : List UInt8} {k : Nat} (h : k < bs.length) : bs.take k ++ [bs[k]] = bs.take (k + 1) := (List.take_succ_eq_append_getElem h).symm
theorem len_at {w : World} {g n : Nat} {pend : List UInt8} {rules : Int} {err : Nat} (h : Dec w g pend rules err) (hn : pend.length = n) :
    Calls Try.prog 11 #[.pointer (some ⟨g, 0, none⟩)] w fun e w' => e = .returned (.int .i64 n) ∧ w = w' := by subst hn; exact len_any h

set_option maxRecDepth 4000 in
set_option maxHeartbeats 1600000 in
theorem one_main (w : World) (q : Req) (cq : q.cost < 4294967296) (hq : q.may 9) (lq : q.key.length ≤ 100) :
    Calls Try.prog 5 #[q.val] w fun e w' => e = .returned (.bool true) ∧ Mod [] w w' := by
  obtain ⟨l1, l2, l3⟩ := Req.may_len hq
  clear l3
  have hbl := bytes_len hq
  have d100 : decide ((100 : Int) < q.key.length) = false := by simp; omega
  have EN := fun w => refEncode w q cq hq
  have RQ := fun w => refRight w q 9
  unfold RightPost at RQ
  rw [decide_eq_true hq] at RQ
  have hall : parse q.bytes 9 = (q, q.bytes.length, 0) := by
    have := parse_bytes hq cq [] 9
    rw [List.append_nil, if_pos hq.2.1] at this; exact this
  have hpart : ∀ j, j < q.bytes.length → parse (q.bytes.take j) 9 = (Req.none, 0, 0) := fun j hj => by
    have := parse_part hq j hj 9
    rw [if_pos (.inl hq.2.1)] at this; exact this
  have hl6 : 6 ≤ q.bytes.length := by omega
  have hl75 : q.bytes.length ≤ 75 := by omega
  clear hbl
  generalize hbs : q.bytes = bs at *
  have tpart : ∀ k (h : k + 1 < bs.length), tried (bs.take k) 9 0 bs[k] = (Req.none, false, 0) := fun k h => by
    rw [tried_ok, take_next (by omega), hpart _ h]; rfl
  have tall : ∀ k (h : k + 1 = bs.length), tried (bs.take k) 9 0 (bs[k]'(by omega)) = (q, true, 0) := fun k h => by
    rw [tried_ok, take_next (by omega), List.take_of_length_le (by omega), hall]
    have : decide (0 < bs.length) = true := by simp; omega
    simp only [this]
  have fpart : ∀ k (h : k + 1 < bs.length), fed (bs.take k) 9 0 bs[k] = (bs.take (k + 1), 0) := fun k h => by
    unfold fed; rw [tpart k h, if_neg (by simp), if_neg (by simp), take_next (by omega)]
  have fall : ∀ k (h : k + 1 = bs.length), fed (bs.take k) 9 0 (bs[k]'(by omega)) = ([], 0) := fun k h => by
    unfold fed; rw [tall k h, if_neg (by simp), if_pos rfl]
  have HEN := Lib.hid EN
  have HRQ := Lib.hid RQ
  have TP := Lib.hid tpart
  have TA := Lib.hid tall
  have FP := Lib.hid fpart
  have FA := Lib.hid fall
  have B1 := Lib.hid (Box.new w q rfl)
  clear EN RQ tpart tall fpart fall hall hpart hbs hq cq lq l1 l2
  have hz := new_zero.1
  have hs := new_cells 0 9
  obtain ⟨op, rule, cost, key, k0⟩ := q
  simp only [Req.val] at *
  go_enter Try.func5, Try.ntmps5
  go_wp2_with fail
  refine (fit_any _).mono ?_
  rintro e1 w1 ⟨rfl, hM1⟩
  obtain ⟨p0, p1, p2, p3, p4⟩ := Box.facts (Box.mod B1.out hM1)
  have M1 := Lib.hid hM1
  clear hM1
  go_wp2_with fail
  refine (HRQ.out _).mono ?_
  rintro e2 w2 ⟨rfl, hM2⟩
  clear p0 p1 p2 p3 p4
  have M2 := Lib.hid (M1.out.trans hM2)
  clear hM2
  obtain ⟨p0, p1, p2, p3, p4⟩ := Box.facts (Box.mod B1.out M2.out)
  go_wp2_with fail
  refine (HEN.out _).mono ?_
  rintro e3 w3 ⟨v3, rfl, ho3, hM3⟩
  clear p0 p1 p2 p3 p4
  have M3 := Lib.hid (M2.out.trans hM3)
  obtain ⟨gb, cb, rfl, hgb, hgl, hcb⟩ := own_one ho3 (by omega)
  have HCB := Lib.hid hcb
  have hs2 := ((Mod.refl [] w).alloc (.cells (Req.cells ⟨op, rule, cost, key, k0⟩).toArray 32)).trans M2.out |>.size
  clear hM3 ho3 hcb
  go_wp2_with fail
  refine (new_any _ _).mono ?_
  rintro e4 w4 ⟨rfl, hM4⟩
  have M4 := Lib.hid (M3.out.trans hM4)
  have N4 := Lib.hid hM4
  have hs4 := hM4.size
  clear hM4
  go_wp2_with fail
  have D0 := Lib.hid (new_dec w4 9)
  have M5 := Lib.hid (M4.out.alloc (.cells (newCells 9) 27))
  have N5 := Lib.hid (N4.out.alloc (.cells (newCells 9) 27))
  clear hz hs
  go_loopw [26] (fun i wr => ∃ (k : Nat) (pend : List UInt8), k ≤ bs.length ∧ i = .int .i64 k ∧ Dec wr w4.heap.size pend 9 0 ∧ (k < bs.length → pend = bs.take k) ∧ (k = bs.length → pend = []) ∧ Mod [] (w.alloc (.cells (Req.cells ⟨op, rule, cost, key, k0⟩).toArray 32)) wr ∧ Mod [] w3 wr) (fun i _ => bs.length - (intOf i).toNat)
  case atStart => exact ⟨0, [], Nat.zero_le _, rfl, D0.out, fun _ => rfl, fun _ => rfl, M5.out, N5.out⟩
  case round =>
    obtain ⟨k, pend, hk, rfl, hD, hp1, hp2, hM, hN⟩ := hrel
    have HD := Lib.hid hD
    have MR := Lib.hid hM
    have NR := Lib.hid hN
    clear hD hM hN
    by_cases hlt : k < bs.length
    · obtain rfl := hp1 hlt
      clear hp1 hp2
      have ck : wr.cell? ⟨gb, k, none⟩ = some (.int .u8 bs[k].toNat) := (NR.out.cell hgl (by simp)).trans (HCB.out k _ (vb_get (List.getElem?_eq_getElem hlt)))
      go_wp2_with fail
      refine (feed_any HD.out bs[k]).mono ?_
      rintro e6 w6 ⟨rfl, hM6, hD6⟩
      have M6 := Lib.hid (MR.out.trans' hM6 (fun x hx => by simp at hx; simp; omega))
      have N6 := Lib.hid (NR.out.trans' hM6 (fun x hx => by simp at hx; omega))
      obtain ⟨p0, p1, p2, p3, p4⟩ := Box.facts (Box.mod B1.out M6.out)
      have hw6 : w.heap.size < w6.heap.size := Blk.lt (Box.mod B1.out M6.out)
      clear hM6
      by_cases hlast : k + 1 < bs.length
      · rw [FP.out k hlast] at hD6
        rw [TP.out k hlast]
        have D6 := Lib.hid hD6
        clear hD6
        simp only [Req.none, Req.val]
        have dk : ((k : Int) == (bs.length : Int) - 1) = false := by simp; omega
        go_wp2_with fail
        refine (len_at (n := k + 1) (D6.out.mod ((Mod.refl [] _).alloc _) (by simp)) (by rw [List.length_take]; omega)).mono ?_
        rintro e7 w7 ⟨rfl, rfl⟩
        go_wp2_with fail
        go_roundw
        case rel => exact ⟨k + 1, _, by omega, by go_num, D6.out.mod ((Mod.refl [] _).alloc _) (by simp), fun _ => rfl, fun h => by omega, M6.out.alloc _, N6.out.alloc _⟩
        case measure => simp [intOf]; omega
      · rw [FA.out k (by omega)] at hD6
        rw [TA.out k (by omega)]
        have D6 := Lib.hid hD6
        clear hD6
        simp only [Req.none, Req.val]
        have dk : ((k : Int) == (bs.length : Int) - 1) = true := by simp; omega
        go_wp2_with fail
        go_roundw
        case rel => exact ⟨k + 1, _, by omega, by go_num, D6.out.mod ((Mod.refl [] _).alloc _) (by simp), fun h => by omega, fun h => rfl, M6.out.alloc _, N6.out.alloc _⟩
        case measure => simp [intOf]; omega
    · obtain rfl : k = bs.length := by omega
      obtain rfl := hp2 rfl
      clear hp1 hp2
      go_wp2_with fail
      refine (len_at (n := 0) HD.out rfl).mono ?_
      rintro e7 w7 ⟨rfl, rfl⟩
      go_wp2_with fail
      refine (err_any HD.out).mono ?_
      rintro e8 w8 ⟨rfl, rfl⟩
      go_wp2_with fail
      go_ret
      exact ⟨rfl, ((Mod.refl [] w).alloc _).trans MR.out⟩

set_option maxRecDepth 4000 in
theorem one_walk (w : World) (q : Req) (cq : q.cost < 4294967296) :
    Calls Try.prog 5 #[q.val] w fun e w' => e = .returned (.bool true) ∧ Mod [] w w' := by
  have B1 := Lib.hid (Box.new w q rfl)
  by_cases lq : q.key.length ≤ 100
  · by_cases hq : q.may 9
    · exact one_main w q cq hq lq
    · have d100 : decide ((100 : Int) < q.key.length) = false := by simp; omega
      have RQ := fun w => refRight w q 9
      unfold RightPost at RQ
      rw [decide_eq_false hq] at RQ
      have HRQ := Lib.hid RQ
      clear RQ hq cq
      obtain ⟨op, rule, cost, key, k0⟩ := q
      simp only [Req.val] at *
      go_enter Try.func5, Try.ntmps5
      go_wp2_with fail
      refine (fit_any _).mono ?_
      rintro e1 w1 ⟨rfl, hM1⟩
      obtain ⟨p0, p1, p2, p3, p4⟩ := Box.facts (Box.mod B1.out hM1)
      have M1 := Lib.hid hM1
      clear hM1
      go_wp2_with fail
      refine (HRQ.out _).mono ?_
      rintro e2 w2 ⟨rfl, hM2⟩
      have M2 := Lib.hid (M1.out.trans hM2)
      clear hM2 p0 p1 p2 p3 p4
      go_wp2_with fail
      go_ret
      exact ⟨rfl, ((Mod.refl [] w).alloc _).trans M2.out⟩
  · have d100 : decide ((100 : Int) < q.key.length) = true := by simp; omega
    obtain ⟨op, rule, cost, key, k0⟩ := q
    simp only [Req.val] at *
    go_enter Try.func5, Try.ntmps5
    go_wp2_with fail
    refine (fit_any _).mono ?_
    rintro e1 w1 ⟨rfl, hM1⟩
    obtain ⟨p0, p1, p2, p3, p4⟩ := Box.facts (Box.mod B1.out hM1)
    have M1 := Lib.hid hM1
    clear hM1
    go_wp2_with fail
    go_ret
    exact ⟨rfl, ((Mod.refl [] w).alloc _).trans M1.out⟩
end Go.Proofs.Ytfmojpkggkjceaa.Frame
