/- decode's laws: DecodeBytes: byte by byte a decoder tells what comes, first by a try, which changes nothing, then indeed. No condition. -/
import Derived.Test.YtfmojpkggkjceaaDecLaw2
import Derived.Test.YtfmojpkggkjceaaParseBack
namespace Go.Proofs.Ytfmojpkggkjceaa.Frame
open Go Go.RowKit Go.YtfmojpkggkjceaaMem Go.YtfmojpkggkjceaaLex
set_option linter.unusedVariables false
set_option linter.unusedSimpArgs false

theorem refParse_at {w : World} {v : Value} {bs : List UInt8} (hv : Sl w v (vb bs)) (hc : bs.length ≤ 1000000) (rules : Int) {op rule k : Int} {cost : Nat} {key : List UInt8} {n e : Nat} (h : parse bs rules = (⟨op, rule, cost, key, k⟩, n, e)) :
    Calls Try.prog 14 #[v, .int .i64 rules] w fun x w' => x = .returned (.tuple #[.agg #[.int .i64 op, .int .i64 rule, .int .u32 cost, .string ⟨key.toArray⟩, .int .i64 k], .int .i64 n, .int .i64 e]) ∧ Mod [] w w' := by
  have := refParse_any hv hc rules
  unfold ParsePost at this
  rw [h] at this
  exact this
theorem try_at {w : World} {g : Nat} {pend : List UInt8} {rules : Int} {err : Nat} (h : Dec w g pend rules err) (c : UInt8) {op rule k : Int} {cost : Nat} {key : List UInt8} {ok : Bool} {e : Nat} (ht : tried pend rules err c = (⟨op, rule, cost, key, k⟩, ok, e)) :
    Calls Try.prog 12 #[.pointer (some ⟨g, 0, none⟩), .int .u8 c.toNat] w fun x w' => x = .returned (.tuple #[.agg #[.int .i64 op, .int .i64 rule, .int .u32 cost, .string ⟨key.toArray⟩, .int .i64 k], .bool ok, .int .i64 e]) ∧ Mod [] w w' := by
  have := try_any h c
  unfold TryPost at this
  rw [ht] at this
  exact this
theorem feed_at {w : World} {g : Nat} {pend : List UInt8} {rules : Int} {err : Nat} (h : Dec w g pend rules err) (c : UInt8) {op rule k : Int} {cost : Nat} {key : List UInt8} {ok : Bool} {e : Nat} {p' : List UInt8} {err' : Nat} (ht : tried pend rules err c = (⟨op, rule, cost, key, k⟩, ok, e)) (hf : fed pend rules err c = (p', err')) :
    Calls Try.prog 15 #[.pointer (some ⟨g, 0, none⟩), .int .u8 c.toNat] w fun x w' => x = .returned (.tuple #[.agg #[.int .i64 op, .int .i64 rule, .int .u32 cost, .string ⟨key.toArray⟩, .int .i64 k], .bool ok, .int .i64 e]) ∧ Mod [g] w w' ∧ Dec w' g p' rules err' := by
  have := feed_any h c
  unfold FeedPost at this
  rw [ht, hf] at this
  exact this
theorem err_at {w : World} {g n : Nat} {pend : List UInt8} {rules : Int} {err : Nat} (h : Dec w g pend rules err) (hn : err = n) :
    Calls Try.prog 13 #[.pointer (some ⟨g, 0, none⟩)] w fun e w' => e = .returned (.int .i64 n) ∧ w = w' := by subst hn; exact err_any h
theorem part_next {bs : List UInt8} {at0 k : Nat} (h : at0 ≤ k) (hk : k < bs.length) : (bs.drop at0).take (k - at0) ++ [bs[k]] = (bs.drop at0).take (k + 1 - at0) := by
  rw [show k + 1 - at0 = (k - at0) + 1 by omega, List.take_succ_eq_append_getElem (by rw [List.length_drop]; omega)]
  congr 2
  rw [List.getElem_drop]
  congr 1; omega

set_option maxRecDepth 4000 in
set_option maxHeartbeats 3200000 in
theorem bytes_main (w : World) (b off cp : Nat) (bs : List UInt8) (h1 : bs.length ≤ cp) (h2 : cp ≤ maxLen) (hb : b < w.heap.size) (hc : ∀ i u, (vb bs)[i]? = some u → w.cell? ⟨b, off + i, none⟩ = some u) (hl : bs.length ≤ 500) (rules : Int) :
    Calls Try.prog 3 #[.slice (some ⟨b, off, none⟩) bs.length cp, .int .i64 rules] w fun e w' => e = .returned (.bool true) ∧ Mod [] w w' := by
  obtain ⟨r1, hr1, hr2⟩ : ∃ n : Nat, bits .and .i64 rules 15 = (n : Int) ∧ n < 16 := ⟨(rules % 16).toNat, by rw [show (15 : Int) = 2 ^ 4 - 1 from rfl, and_mask _ _ (by omega)]; omega, by omega⟩
  have HC := Lib.hid hc
  have d500 : decide ((500 : Int) < bs.length) = false := by simp; omega
  have hz := new_zero.1
  have hs := new_cells 0 r1
  clear hc
  go_enter Try.func3, Try.ntmps3
  go_wp2_with fail
  refine (fit_any _).mono ?_
  rintro e1 w1 ⟨rfl, hM1⟩
  have M1 := Lib.hid hM1
  clear hM1
  go_wp2_with fail
  refine (new_any _ _).mono ?_
  rintro e2 w2 ⟨rfl, hM2⟩
  have M2 := Lib.hid (M1.out.trans hM2)
  have hg := (M1.out.trans hM2).size
  clear hM2
  go_wp2_with fail
  have D0 := Lib.hid (new_dec w2 r1)
  have M3 := Lib.hid (M2.out.alloc (.cells (newCells r1) 27))
  clear hz hs
  go_loopw [6, 33] (fun x i wr => ∃ k at0 : Nat, k ≤ bs.length ∧ at0 ≤ k ∧ x = .int .i64 at0 ∧ i = .int .i64 k ∧ Dec wr w2.heap.size ((bs.drop at0).take (k - at0)) r1 0 ∧ Mod [] w wr) (fun _ i _ => bs.length - (intOf i).toNat)
  case atStart => exact ⟨0, 0, Nat.zero_le _, Nat.zero_le _, rfl, rfl, D0.out, M3.out⟩
  case round =>
    obtain ⟨k, at0, hk, hat, rfl, rfl, hD, hM⟩ := hrel
    have HD := Lib.hid hD
    have MR := Lib.hid hM
    have hgr : w2.heap.size < wr.heap.size := by obtain ⟨_, h, _⟩ := hD; exact h.blk.lt
    clear hD hM
    by_cases hlt : k < bs.length
    · have ck : wr.cell? ⟨b, off + k, none⟩ = some (.int .u8 bs[k].toNat) := (MR.out.cell hb (by simp)).trans (HC.out k _ (vb_get (List.getElem?_eq_getElem hlt)))
      have hpl : ((bs.drop at0).take (k - at0)).length = k - at0 := by rw [List.length_take, List.length_drop]; omega
      have hpn := part_next hat hlt
      have hsl : ∀ w', Mod [] w w' → Sl w' (.slice (some ⟨b, off + at0, none⟩) (k + 1 - at0) (cp - at0)) (vb ((bs.drop at0).take (k + 1 - at0))) := fun w' hM => Sl.part (hM.lt hb) (fun i u h => (hM.cell hb (by simp)).trans (HC.out i u h)) (by omega) (by omega) (by omega)
      have hlen : ((bs.drop at0).take (k + 1 - at0)).length ≤ 1000000 := by rw [List.length_take]; omega
      generalize hpe : (bs.drop at0).take (k - at0) = pend at *
      generalize hne : (bs.drop at0).take (k + 1 - at0) = nx at *
      have HPL := Lib.hid hpl
      have HPN := Lib.hid hpn
      have HSL := Lib.hid hsl
      have HNE := Lib.hid hne
      have hcap : ¬ cp = at0 := by omega
      have hkc : (k : Int) + 1 ≤ cp := by omega
      clear hpl hpn hsl hpe hne
      rcases parse_two nx (r1 : Int) with ⟨e, hP⟩ | ⟨q, n, hP, hn0, _, _, _, _, _, _⟩
      · by_cases he : e = 0
        · subst he
          have hT : tried pend r1 0 bs[k] = (Req.none, false, 0) := by rw [tried_ok, HPN.out, hP]; rfl
          have hF : fed pend r1 0 bs[k] = (nx, 0) := by unfold fed; rw [hT]; rw [if_neg (by simp), if_neg (by simp), HPN.out]
          have HT := Lib.hid hT
          have HF := Lib.hid hF
          have HP := Lib.hid hP
          clear hT hF hP
          go_wp2_with fail
          refine (len_at HD.out HPL.out).mono ?_
          rintro e3 w3 ⟨rfl, rfl⟩
          go_wp2_with fail
          refine (try_at HD.out bs[k] HT.out).mono ?_
          rintro e4 w4 ⟨rfl, hM4⟩
          have B4 := Lib.hid (Box.new w4 Req.none rfl)
          have hD4 := HD.out.mod (hM4.alloc (.cells (Req.cells Req.none).toArray 32)) (by simp)
          have D4 := Lib.hid hD4
          have M4 := Lib.hid ((MR.out.trans hM4).alloc (.cells (Req.cells Req.none).toArray 32))
          have hs4 := hM4.size
          clear hM4 hD4
          go_wp2_with fail
          refine (len_at D4.out HPL.out).mono ?_
          rintro e5 w5 ⟨rfl, rfl⟩
          go_wp2_with fail
          refine (err_at D4.out rfl).mono ?_
          rintro e6 w6 ⟨rfl, rfl⟩
          go_wp2_with fail
          refine (refParse_at (HSL.out _ M4.out) hlen _ HP.out).mono ?_
          rintro e7 w7 ⟨rfl, hM7⟩
          have B7 := Lib.hid (Blk.alloc (Box.mod B4.out hM7) (.cells (Req.cells Req.none).toArray 32))
          have C7 := Lib.hid (Box.new w7 Req.none rfl)
          have D7 := Lib.hid ((D4.out.mod hM7 (by simp)).mod ((Mod.refl [] w7).alloc (.cells (Req.cells Req.none).toArray 32)) (by simp))
          have M7 := Lib.hid ((M4.out.trans hM7).alloc (.cells (Req.cells Req.none).toArray 32))
          have hs7 : w4.heap.size < w7.heap.size := by have := hM7.size; simp at this; omega
          clear hM7
          go_wp2_with fail
          refine (feed_at D7.out bs[k] HT.out HF.out).mono ?_
          rintro e8 w8 ⟨rfl, hM8, hD8⟩
          have hb4 : Box w8 w4.heap.size Req.none := hM8.blk B7.out (by simp; omega)
          have hb7 : Box w8 w7.heap.size Req.none := hM8.blk C7.out (by simp; omega)
          obtain ⟨p0, p1, p2, p3, p4⟩ := Box.facts hb4
          obtain ⟨q0, q1, q2, q3, q4⟩ := Box.facts hb7
          have hx4 : w4.heap.size < w8.heap.size := Blk.lt hb4
          have hx7 : w7.heap.size < w8.heap.size := Blk.lt hb7
          have D8 := Lib.hid (hD8.mod ((Mod.refl [] w8).alloc (.cells (Req.cells Req.none).toArray 32)) (by simp))
          have M8 := Lib.hid ((M7.out.trans' hM8 (fun x hx => by simp at hx; omega)).alloc (.cells (Req.cells Req.none).toArray 32))
          clear hM8 hD8 hb4 hb7
          simp only [Req.none] at p0 p1 p2 p3 p4 q0 q1 q2 q3 q4
          go_wp2_with fail
          refine (len_at (n := k + 1 - at0) D8.out (by rw [← HNE.out, List.length_take, List.length_drop]; omega)).mono ?_
          rintro e9 w9 ⟨rfl, rfl⟩
          go_wp2_with fail
          go_roundw
          case rel => exact ⟨k + 1, at0, by omega, by omega, rfl, by go_num, by rw [HNE.out]; exact D8.out, M8.out⟩
          case measure => simp [intOf]; omega
        · skip
          have hT : tried pend r1 0 bs[k] = (Req.none, false, e) := by rw [tried_ok, HPN.out, hP]; rfl
          have hF : fed pend r1 0 bs[k] = ([], e) := by unfold fed; rw [hT]; rw [if_pos he]
          have HT := Lib.hid hT
          have HF := Lib.hid hF
          have HP := Lib.hid hP
          clear hT hF hP
          have de : ((e : Int) != 0) = true := by simp; omega
          have hT2 : tried [] r1 e bs[k] = (Req.none, false, e) := tried_err he
          have HT2 := Lib.hid hT2
          clear hT2
          go_wp2_with fail
          refine (len_at HD.out HPL.out).mono ?_
          rintro e3 w3 ⟨rfl, rfl⟩
          go_wp2_with fail
          refine (try_at HD.out bs[k] HT.out).mono ?_
          rintro e4 w4 ⟨rfl, hM4⟩
          have B4 := Lib.hid (Box.new w4 Req.none rfl)
          have hD4 := HD.out.mod (hM4.alloc (.cells (Req.cells Req.none).toArray 32)) (by simp)
          have D4 := Lib.hid hD4
          have M4 := Lib.hid ((MR.out.trans hM4).alloc (.cells (Req.cells Req.none).toArray 32))
          have hs4 := hM4.size
          clear hM4 hD4
          go_wp2_with fail
          refine (len_at D4.out HPL.out).mono ?_
          rintro e5 w5 ⟨rfl, rfl⟩
          go_wp2_with fail
          refine (err_at D4.out rfl).mono ?_
          rintro e6 w6 ⟨rfl, rfl⟩
          go_wp2_with fail
          refine (refParse_at (HSL.out _ M4.out) hlen _ HP.out).mono ?_
          rintro e7 w7 ⟨rfl, hM7⟩
          have B7 := Lib.hid (Blk.alloc (Box.mod B4.out hM7) (.cells (Req.cells Req.none).toArray 32))
          have C7 := Lib.hid (Box.new w7 Req.none rfl)
          have D7 := Lib.hid ((D4.out.mod hM7 (by simp)).mod ((Mod.refl [] w7).alloc (.cells (Req.cells Req.none).toArray 32)) (by simp))
          have M7 := Lib.hid ((M4.out.trans hM7).alloc (.cells (Req.cells Req.none).toArray 32))
          have hs7 : w4.heap.size < w7.heap.size := by have := hM7.size; simp at this; omega
          clear hM7
          go_wp2_with fail
          refine (feed_at D7.out bs[k] HT.out HF.out).mono ?_
          rintro e8 w8 ⟨rfl, hM8, hD8⟩
          have hb4 : Box w8 w4.heap.size Req.none := hM8.blk B7.out (by simp; omega)
          have hb7 : Box w8 w7.heap.size Req.none := hM8.blk C7.out (by simp; omega)
          obtain ⟨p0, p1, p2, p3, p4⟩ := Box.facts hb4
          obtain ⟨q0, q1, q2, q3, q4⟩ := Box.facts hb7
          have hx4 : w4.heap.size < w8.heap.size := Blk.lt hb4
          have hx7 : w7.heap.size < w8.heap.size := Blk.lt hb7
          have D8 := Lib.hid (hD8.mod ((Mod.refl [] w8).alloc (.cells (Req.cells Req.none).toArray 32)) (by simp))
          have M8 := Lib.hid ((M7.out.trans' hM8 (fun x hx => by simp at hx; omega)).alloc (.cells (Req.cells Req.none).toArray 32))
          clear hM8 hD8 hb4 hb7
          simp only [Req.none] at p0 p1 p2 p3 p4 q0 q1 q2 q3 q4
          go_wp2_with fail
          refine (try_at D8.out bs[k] HT2.out).mono ?_
          rintro e9 w9 ⟨rfl, hM9⟩
          have D9 := Lib.hid ((D8.out.mod hM9 (by simp)).mod ((Mod.refl [] w9).alloc (.cells (Req.cells Req.none).toArray 32)) (by simp))
          have M9 := Lib.hid ((M8.out.trans hM9).alloc (.cells (Req.cells Req.none).toArray 32))
          clear hM9 p0 p1 p2 p3 p4 q0 q1 q2 q3 q4
          go_wp2_with fail
          refine (err_at D9.out rfl).mono ?_
          rintro e10 w10 ⟨rfl, rfl⟩
          go_wp2_with fail
          refine (len_at (n := 0) D9.out rfl).mono ?_
          rintro e11 w11 ⟨rfl, rfl⟩
          go_wp2_with fail
          go_ret
          exact ⟨rfl, M9.out⟩
      · skip
        obtain ⟨op, rule, cost, key, k0⟩ := q
        have hT : tried pend r1 0 bs[k] = (⟨op, rule, cost, key, k0⟩, true, 0) := by rw [tried_ok, HPN.out, hP]; simp only [hn0, decide_true]
        have hF : fed pend r1 0 bs[k] = ([], 0) := by unfold fed; rw [hT]; rw [if_neg (by simp), if_pos rfl]
        have HT := Lib.hid hT
        have HF := Lib.hid hF
        have HP := Lib.hid hP
        clear hT hF hP
        have dn : decide ((0 : Int) < n) = true := by simp; omega
        go_wp2_with fail
        refine (len_at HD.out HPL.out).mono ?_
        rintro e3 w3 ⟨rfl, rfl⟩
        go_wp2_with fail
        refine (try_at HD.out bs[k] HT.out).mono ?_
        rintro e4 w4 ⟨rfl, hM4⟩
        have B4 := Lib.hid (Box.new w4 ⟨op, rule, cost, key, k0⟩ rfl)
        have hD4 := HD.out.mod (hM4.alloc (.cells (Req.cells ⟨op, rule, cost, key, k0⟩).toArray 32)) (by simp)
        have D4 := Lib.hid hD4
        have M4 := Lib.hid ((MR.out.trans hM4).alloc (.cells (Req.cells ⟨op, rule, cost, key, k0⟩).toArray 32))
        have hs4 := hM4.size
        clear hM4 hD4
        go_wp2_with fail
        refine (len_at D4.out HPL.out).mono ?_
        rintro e5 w5 ⟨rfl, rfl⟩
        go_wp2_with fail
        refine (err_at D4.out rfl).mono ?_
        rintro e6 w6 ⟨rfl, rfl⟩
        go_wp2_with fail
        refine (refParse_at (HSL.out _ M4.out) hlen _ HP.out).mono ?_
        rintro e7 w7 ⟨rfl, hM7⟩
        have B7 := Lib.hid (Blk.alloc (Box.mod B4.out hM7) (.cells (Req.cells ⟨op, rule, cost, key, k0⟩).toArray 32))
        have C7 := Lib.hid (Box.new w7 ⟨op, rule, cost, key, k0⟩ rfl)
        have D7 := Lib.hid ((D4.out.mod hM7 (by simp)).mod ((Mod.refl [] w7).alloc (.cells (Req.cells ⟨op, rule, cost, key, k0⟩).toArray 32)) (by simp))
        have M7 := Lib.hid ((M4.out.trans hM7).alloc (.cells (Req.cells ⟨op, rule, cost, key, k0⟩).toArray 32))
        have hs7 : w4.heap.size < w7.heap.size := by have := hM7.size; simp at this; omega
        clear hM7
        go_wp2_with fail
        refine (feed_at D7.out bs[k] HT.out HF.out).mono ?_
        rintro e8 w8 ⟨rfl, hM8, hD8⟩
        have hb4 : Box w8 w4.heap.size ⟨op, rule, cost, key, k0⟩ := hM8.blk B7.out (by simp; omega)
        have hb7 : Box w8 w7.heap.size ⟨op, rule, cost, key, k0⟩ := hM8.blk C7.out (by simp; omega)
        obtain ⟨p0, p1, p2, p3, p4⟩ := Box.facts hb4
        obtain ⟨q0, q1, q2, q3, q4⟩ := Box.facts hb7
        have hx4 : w4.heap.size < w8.heap.size := Blk.lt hb4
        have hx7 : w7.heap.size < w8.heap.size := Blk.lt hb7
        have D8 := Lib.hid (hD8.mod ((Mod.refl [] w8).alloc (.cells (Req.cells ⟨op, rule, cost, key, k0⟩).toArray 32)) (by simp))
        have M8 := Lib.hid ((M7.out.trans' hM8 (fun x hx => by simp at hx; omega)).alloc (.cells (Req.cells ⟨op, rule, cost, key, k0⟩).toArray 32))
        clear hM8 hD8 hb4 hb7
        skip
        go_wp2_with fail
        refine (len_at (n := 0) D8.out rfl).mono ?_
        rintro e9 w9 ⟨rfl, rfl⟩
        go_wp2_with fail
        go_roundw
        case rel => exact ⟨k + 1, k + 1, by omega, by omega, by go_num, by go_num, by rw [Nat.sub_self, List.take_zero]; exact D8.out, M8.out⟩
        case measure => simp [intOf]; omega
    · obtain rfl : k = bs.length := by omega
      go_wp2_with fail
      go_ret
      exact ⟨rfl, MR.out⟩

set_option maxRecDepth 4000 in
theorem bytes_walk (w : World) (v : Value) (bs : List UInt8) (hv : Sl w v (vb bs)) (rules : Int) (hw : (Lit.int .i64 rules).wf = true) :
    Calls Try.prog 3 #[v, .int .i64 rules] w fun e w' => e = .returned (.bool true) ∧ Mod [] w w' := by
  rcases hv with ⟨hn, av, capv, rfl⟩ | ⟨b, off, cap, rfl, hc1, hc2, hc3, hcell⟩
  · obtain rfl : bs = [] := by cases bs; rfl; simp [vb] at hn
    obtain ⟨r1, hr1, hr2⟩ : ∃ n : Nat, bits .and .i64 rules 15 = (n : Int) ∧ n < 16 := ⟨(rules % 16).toNat, by rw [show (15 : Int) = 2 ^ 4 - 1 from rfl, and_mask _ _ (by omega)]; omega, by omega⟩
    have hz := new_zero.1
    have hs := new_cells 0 r1
    go_enter Try.func3, Try.ntmps3
    go_wp2_with fail
    refine (fit_any _).mono ?_
    rintro e1 w1 ⟨rfl, hM1⟩
    have M1 := Lib.hid hM1
    clear hM1
    go_wp2_with fail
    refine (new_any _ _).mono ?_
    rintro e2 w2 ⟨rfl, hM2⟩
    have M2 := Lib.hid (M1.out.trans hM2)
    clear hM2
    go_wp2_with fail
    refine wp_loop_once ?_
    go_wp2_with fail
    go_ret
    exact ⟨rfl, M2.out.alloc _⟩
  · rw [vb_length] at *
    by_cases hl : bs.length ≤ 500
    · exact bytes_main w b off cap bs hc1 hc2 hc3 hcell hl rules
    · have d500 : decide ((500 : Int) < bs.length) = true := by simp; omega
      have hm : bs.length ≤ maxLen := by omega
      clear hcell
      go_enter Try.func3, Try.ntmps3
      go_wp2_with fail
      refine (fit_any _).mono ?_
      rintro e1 w1 ⟨rfl, hM1⟩
      have M1 := Lib.hid hM1
      clear hM1
      go_wp2_with fail
      go_ret
      exact ⟨rfl, M1.out⟩
end Go.Proofs.Ytfmojpkggkjceaa.Frame
