/- decode's laws: DecodeEnds: behind a fault nothing comes any more, whatever is fed. No condition. -/
import Derived.Test.YtfmojpkggkjceaaDec3
import Derived.BigQuiet
namespace Go.Proofs.Ytfmojpkggkjceaa.Frame
open Go Go.RowKit Go.YtfmojpkggkjceaaMem Go.YtfmojpkggkjceaaLex
set_option linter.unusedVariables false
set_option linter.unusedSimpArgs false

theorem tried_err {pend : List UInt8} {rules : Int} {err : Nat} {c : UInt8} (h : err ≠ 0) : tried pend rules err c = (Req.none, false, err) := by unfold tried; rw [if_pos h]
theorem tried_ok {pend : List UInt8} {rules : Int} {c : UInt8} : tried pend rules 0 c = ((parse (pend ++ [c]) rules).1, decide (0 < (parse (pend ++ [c]) rules).2.1), (parse (pend ++ [c]) rules).2.2) := by unfold tried; rw [if_neg (by simp)]
theorem fed_err {rules : Int} {err : Nat} {c : UInt8} (h : err ≠ 0) : fed [] rules err c = ([], err) := by unfold fed; rw [tried_err h, if_pos h]
theorem fed_nil {pend : List UInt8} {rules : Int} {err : Nat} {c : UInt8} (hp : err ≠ 0 → pend = []) (h : (fed pend rules err c).2 ≠ 0) : (fed pend rules err c).1 = [] := by
  by_cases he : err = 0
  · subst he
    unfold fed at h ⊢
    split
    · rfl
    · rename_i h1
      rw [if_neg h1] at h
      split
      · rfl
      · rename_i h2
        rw [if_neg h2] at h
        exact absurd rfl h
  · rw [hp he, fed_err he]

set_option maxRecDepth 4000 in
set_option maxHeartbeats 1600000 in
theorem ends_main (w : World) (v : Value) (bs : List UInt8) (hv : Sl w v (vb bs)) (v' : Value) (bs' : List UInt8) (hv' : Sl w v' (vb bs')) (hl : bs.length ≤ 300) (hl' : bs'.length ≤ 100) :
    Calls Try.prog 4 #[v, v'] w fun e w' => e = .returned (.bool true) ∧ Mod [] w w' := by
  obtain ⟨a, cp, rfl, hm, hA⟩ := hv.open
  obtain ⟨a', cp', rfl, hm', hA'⟩ := hv'.open
  rw [vb_length] at *
  have HA := Lib.hid hA
  have HA' := Lib.hid hA'
  have d300 : decide ((300 : Int) < bs.length) = false := by simp; omega
  have d100 : decide ((100 : Int) < bs'.length) = false := by simp; omega
  have hz := new_zero.1
  have hs := new_cells 0 3
  clear hv hv' hA hA'
  go_enter Try.func4, Try.ntmps4
  go_wp2_with fail
  refine (fit_any _).mono ?_
  rintro e1 w1 ⟨rfl, hM1⟩
  have M1 := Lib.hid hM1
  clear hM1
  go_wp2_with fail
  refine (new_any _ _).mono ?_
  rintro e2 w2 ⟨rfl, hM2⟩
  have M2 := Lib.hid (M1.out.trans hM2)
  have hg := (M1.out.trans hM2).size
  clear hM2
  go_wp2_with fail
  have D0 := Lib.hid (new_dec w2 3)
  have M3 := Lib.hid (M2.out.alloc (.cells (newCells 3) 27))
  clear hz hs
  go_loopw [27] (fun i wr => ∃ (k : Nat) (pend : List UInt8) (err : Nat), k ≤ bs.length ∧ i = .int .i64 k ∧ Dec wr w2.heap.size pend 3 err ∧ (err ≠ 0 → pend = []) ∧ Mod [] w wr) (fun i _ => bs.length - (intOf i).toNat)
  case atStart => exact ⟨0, [], 0, Nat.zero_le _, rfl, D0.out, fun _ => rfl, M3.out⟩
  case round =>
    obtain ⟨k, pend, err, hk, rfl, hD, hpn, hM⟩ := hrel
    have HD := Lib.hid hD
    have HPN := Lib.hid hpn
    have MR := Lib.hid hM
    clear hD hpn hM
    by_cases hlt : k < bs.length
    · obtain ⟨b, off, rfl, hb, hc⟩ := HA.out k hlt
      have ck : wr.cell? ⟨b, off + k, none⟩ = some (.int .u8 bs[k].toNat) := (MR.out.cell hb (by simp)).trans (hc k _ (vb_get (List.getElem?_eq_getElem hlt)))
      clear hc
      go_wp2_with fail
      refine (feed_any HD.out bs[k]).mono ?_
      rintro e4 w4 ⟨rfl, hM4, hD4⟩
      have M4 := Lib.hid (MR.out.trans' hM4 (fun x hx => by simp at hx; omega))
      have D4 := Lib.hid hD4
      clear hM4 hD4
      go_wp2_with fail
      go_roundw
      case rel => exact ⟨k + 1, _, _, by omega, by go_num, D4.out, fun h => fed_nil HPN.out h, M4.out⟩
      case measure => simp [intOf]; omega
    · obtain rfl : k = bs.length := by omega
      have hp75 : pend.length < 75 := by obtain ⟨_, _, _, h⟩ := HD.out; exact h
      go_wp2_with fail
      refine (err_any HD.out).mono ?_
      rintro e4 w4 ⟨rfl, rfl⟩
      by_cases he : err = 0
      · subst he
        have d75 : decide ((pend.length : Int) < 75) = true := by simp; omega
        go_wp2_with fail
        refine (len_any HD.out).mono ?_
        rintro e5 w5 ⟨rfl, rfl⟩
        go_wp2_with fail
        go_ret
        exact ⟨rfl, MR.out⟩
      · have de : ((err : Int) == 0) = false := by simp; omega
        have hpe := HPN.out he
        subst hpe
        have te := fun c => tried_err (pend := []) (rules := 3) (err := err) (c := c) he
        have fe := fun c => fed_err (rules := 3) (err := err) (c := c) he
        have TE := Lib.hid te
        have FE := Lib.hid fe
        clear te fe
        go_wp2_with fail
        go_loopw [41] (fun i wr => ∃ (k : Nat), k ≤ bs'.length ∧ i = .int .i64 k ∧ Dec wr w2.heap.size [] 3 err ∧ Mod [] w wr) (fun i _ => bs'.length - (intOf i).toNat)
        case atStart => exact ⟨0, Nat.zero_le _, rfl, HD.out, MR.out⟩
        case round =>
          obtain ⟨j, hj, rfl, hD, hM⟩ := hrel
          have HD' := Lib.hid hD
          have MR' := Lib.hid hM
          clear hD hM
          by_cases hlt' : j < bs'.length
          · obtain ⟨b', off', rfl, hb', hc'⟩ := HA'.out j hlt'
            have cj : wr.cell? ⟨b', off' + j, none⟩ = some (.int .u8 bs'[j].toNat) := (MR'.out.cell hb' (by simp)).trans (hc' j _ (vb_get (List.getElem?_eq_getElem hlt')))
            clear hc'
            go_wp2_with fail
            refine (feed_any HD'.out bs'[j]).mono ?_
            rintro e6 w6 ⟨rfl, hM6, hD6⟩
            rw [FE.out] at hD6
            rw [TE.out]
            have M6 := Lib.hid (MR'.out.trans' hM6 (fun x hx => by simp at hx; omega))
            have D6 := Lib.hid hD6
            clear hM6 hD6
            simp only [Req.none, Req.val]
            go_wp2_with fail
            refine (len_any (D6.out.mod ((Mod.refl [] _).alloc _) (by simp))).mono ?_
            rintro e7 w7 ⟨rfl, rfl⟩
            go_wp2_with fail
            refine (err_any (D6.out.mod ((Mod.refl [] _).alloc _) (by simp))).mono ?_
            rintro e8 w8 ⟨rfl, rfl⟩
            go_wp2_with fail
            go_roundw
            case rel => exact ⟨j + 1, by omega, by go_num, D6.out.mod ((Mod.refl [] _).alloc _) (by simp), M6.out.alloc _⟩
            case measure => simp [intOf]; omega
          · obtain rfl : j = bs'.length := by omega
            go_wp2_with fail
            go_ret
            exact ⟨rfl, MR'.out⟩

set_option maxRecDepth 4000 in
theorem ends_walk (w : World) (v : Value) (bs : List UInt8) (hv : Sl w v (vb bs)) (v' : Value) (bs' : List UInt8) (hv' : Sl w v' (vb bs')) :
    Calls Try.prog 4 #[v, v'] w fun e w' => e = .returned (.bool true) ∧ Mod [] w w' := by
  by_cases hl : bs.length ≤ 300
  · by_cases hl' : bs'.length ≤ 100
    · exact ends_main w v bs hv v' bs' hv' hl hl'
    · obtain ⟨a, cp, rfl, hm, hA⟩ := hv.open
      obtain ⟨a', cp', rfl, hm', hA'⟩ := hv'.open
      rw [vb_length] at *
      have d300 : decide ((300 : Int) < bs.length) = false := by simp; omega
      have d100 : decide ((100 : Int) < bs'.length) = true := by simp; omega
      clear hv hv' hA hA'
      go_enter Try.func4, Try.ntmps4
      go_wp2_with fail
      refine (fit_any _).mono ?_
      rintro e1 w1 ⟨rfl, hM1⟩
      have M1 := Lib.hid hM1
      clear hM1
      go_wp2_with fail
      go_ret
      exact ⟨rfl, M1.out⟩
  · obtain ⟨a, cp, rfl, hm, hA⟩ := hv.open
    obtain ⟨a', cp', rfl, hm', hA'⟩ := hv'.open
    rw [vb_length] at *
    have d300 : decide ((300 : Int) < bs.length) = true := by simp; omega
    clear hv hv' hA hA'
    go_enter Try.func4, Try.ntmps4
    go_wp2_with fail
    refine (fit_any _).mono ?_
    rintro e1 w1 ⟨rfl, hM1⟩
    have M1 := Lib.hid hM1
    clear hM1
    go_wp2_with fail
    go_ret
    exact ⟨rfl, M1.out⟩
end Go.Proofs.Ytfmojpkggkjceaa.Frame
