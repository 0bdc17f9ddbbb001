/- decode's laws: DecodeStreams: a stream tells the requests that it has, one behind the other, up to the first byte that has a fault. No condition. -/
import Derived.Test.YtfmojpkggkjceaaDecRef
namespace Go.Proofs.Ytfmojpkggkjceaa.Frame
open Go Go.RowKit Go.YtfmojpkggkjceaaMem Go.YtfmojpkggkjceaaLex
set_option linter.unusedVariables false
set_option linter.unusedSimpArgs false

theorem ref_all_nil (w : World) (a : Option Addr) (cp : Nat) (rules : Int) : Calls Try.prog 19 #[.slice a 0 cp, .int .i64 rules] w (AllPost [] rules w) := by
  have hp0 : parse [] rules = (⟨0, 0, 0, [], 0⟩, 0, 0) := rfl
  by_cases hcap : cp = 0
  · subst hcap
    go_enter Try.func19, Try.ntmps19
    go_wp2_with fail
    refine wp_loop_once ?_
    go_wp2_with fail
    refine (refParse_at (bs := []) (Sl.nil _ _ _) (by simp) _ hp0).mono ?_
    rintro e2 w2 ⟨rfl, hM2⟩
    have M2 := Lib.hid (hM2.alloc (.cells (Req.cells Req.none).toArray 32))
    clear hM2
    go_wp2_with fail
    exact bodyPost_ret (v := .tuple #[.slice none 0 0, .int .i64 0, .int .i64 0]) (by simp [results, Try.results19, go_sem]) rfl ⟨.slice none 0 0, rfl, OwnQ.nil _ _, M2.out⟩
  · cases a
    · go_enter Try.func19, Try.ntmps19
      go_wp2_with fail
      refine wp_loop_once ?_
      go_wp2_with fail
      refine (refParse_at (bs := []) (Sl.nil _ _ _) (by simp) _ hp0).mono ?_
      rintro e2 w2 ⟨rfl, hM2⟩
      have M2 := Lib.hid (hM2.alloc (.cells (Req.cells Req.none).toArray 32))
      clear hM2
      go_wp2_with fail
      exact bodyPost_ret (v := .tuple #[.slice none 0 0, .int .i64 0, .int .i64 0]) (by simp [results, Try.results19, go_sem]) rfl ⟨.slice none 0 0, rfl, OwnQ.nil _ _, M2.out⟩
    · go_enter Try.func19, Try.ntmps19
      go_wp2_with fail
      refine wp_loop_once ?_
      go_wp2_with fail
      refine (refParse_at (bs := []) (Sl.nil _ _ _) (by simp) _ hp0).mono ?_
      rintro e2 w2 ⟨rfl, hM2⟩
      have M2 := Lib.hid (hM2.alloc (.cells (Req.cells Req.none).toArray 32))
      clear hM2
      go_wp2_with fail
      exact bodyPost_ret (v := .tuple #[.slice none 0 0, .int .i64 0, .int .i64 0]) (by simp [results, Try.results19, go_sem]) rfl ⟨.slice none 0 0, rfl, OwnQ.nil _ _, M2.out⟩

set_option maxRecDepth 4000 in
set_option maxHeartbeats 1600000 in
theorem streams_main (w : World) (a : Option Addr) (cp : Nat) (bs : List UInt8) (hv : Sl w (.slice a bs.length cp) (vb bs)) (hl : bs.length ≤ 1500) (href : ∀ w', Mod [] w w' → ∀ rules : Int, Calls Try.prog 19 #[.slice a bs.length cp, .int .i64 rules] w' (AllPost bs rules w')) (rules : Int) :
    Calls Try.prog 6 #[.slice a bs.length cp, .int .i64 rules] w fun e w' => e = .returned (.bool true) ∧ Mod [] w w' := by
  obtain ⟨r1, hr1, hr2⟩ : ∃ n : Nat, bits .and .i64 rules 15 = (n : Int) ∧ n < 16 := ⟨(rules % 16).toNat, by rw [show (15 : Int) = 2 ^ 4 - 1 from rfl, and_mask _ _ (by omega)]; omega, by omega⟩
  obtain ⟨l, n, e, hR⟩ : ∃ l n e, runA r1 bs [] 0 = (l, n, e) := ⟨_, _, _, rfl⟩
  have d1500 : decide ((1500 : Int) < bs.length) = false := by simp; omega
  have RA := fun w' hM => href w' hM r1
  unfold AllPost at RA
  rw [hR] at RA
  have HV := Lib.hid hv
  have HR := Lib.hid hR
  have HRA := Lib.hid RA
  clear hv href RA hR
  go_enter Try.func6, Try.ntmps6
  go_wp2_with fail
  refine (fit_any _).mono ?_
  rintro e1 w1 ⟨rfl, hM1⟩
  have M1 := Lib.hid hM1
  clear hM1
  go_wp2_with fail
  refine (all_at (HV.out.mod M1.out (by simp)) (by omega) _ HR.out).mono ?_
  rintro e2 w2 ⟨v2, rfl, ho2, hM2⟩
  obtain ⟨a2, c2, rfl⟩ := ho2.slice
  have O2 := Lib.hid ho2
  have M2 := Lib.hid (M1.out.trans hM2)
  clear ho2 hM2
  go_wp2_with fail
  refine (HRA.out _ M2.out).mono ?_
  rintro e3 w3 ⟨v3, rfl, ho3, hM3⟩
  obtain ⟨a3, c3, rfl⟩ := ho3.slice
  have O2' := Lib.hid (O2.out.mod hM3 (by simp))
  have O3 := Lib.hid ho3
  have M3 := Lib.hid (M2.out.trans hM3)
  clear ho3 hM3
  go_wp2_with fail
  go_loopw [50] (fun i wr => ∃ (j : Nat), j ≤ l.length ∧ i = .int .i64 j ∧ Mod [] w3 wr) (fun i _ => l.length - (intOf i).toNat)
  case atStart => exact ⟨0, Nat.zero_le _, rfl, Mod.refl _ _⟩
  case round =>
    obtain ⟨j, hj, rfl, hM⟩ := hrel
    have MR := Lib.hid hM
    clear hM
    by_cases hlt : j < l.length
    · obtain ⟨g3, cq3, he3, hB3, hg3, hc31, hc32, hx3⟩ := O3.out.at (fun h => by rw [h] at hlt; simp at hlt)
      obtain ⟨g2, cq2, he2, hB2, hg2, hc21, hc22, hx2⟩ := O2'.out.at (fun h => by rw [h] at hlt; simp at hlt)
      injection he3 with he3a he3b he3c
      injection he2 with he2a he2b he2c
      subst he3a he3c he2a he2c
      have hmx : l.length ≤ 9223372036854775807 := by have h := Nat.le_trans hc31 hc32; unfold maxLen at h; omega
      obtain ⟨q, hq⟩ : ∃ q, l[j]? = some q := ⟨_, List.getElem?_eq_getElem hlt⟩
      have hx3' := fun i u h => (MR.out.cell hg3 (by simp)).trans (hx3 j q hq i u h)
      have hx2' := fun i u h => (MR.out.cell hg2 (by simp)).trans (hx2 j q hq i u h)
      have p0 := hx3' 0 _ rfl
      have p1 := hx3' 1 _ rfl
      have p2 := hx3' 2 _ rfl
      have p3 := hx3' 3 _ rfl
      have p4 := hx3' 4 _ rfl
      have q0 := hx2' 0 _ rfl
      have q1 := hx2' 1 _ rfl
      have q2 := hx2' 2 _ rfl
      have q3 := hx2' 3 _ rfl
      have q4 := hx2' 4 _ rfl
      clear hx3 hx2 hx3' hx2' hq he2b he3b
      obtain ⟨op, rule, cost, key, k0⟩ := q
      simp only [Nat.add_zero] at p0 p1 p2 p3 p4 q0 q1 q2 q3 q4
      go_wp2_with fail
      refine wp_region_lex (by kernel_rfl) (by kernel_rfl) ?_
      go_wp2_with fail
      refine ⟨by kernel_rfl, ?_⟩
      go_wp2_with fail
      go_roundw
      case rel => exact ⟨j + 1, by omega, by go_num, MR.out.drew⟩
      case measure => simp [intOf]; omega
    · obtain rfl : j = l.length := by omega
      go_wp2_with fail
      go_ret
      exact ⟨rfl, M3.out.trans MR.out⟩

set_option maxRecDepth 4000 in
theorem streams_walk (w : World) (v : Value) (bs : List UInt8) (hv : Sl w v (vb bs)) (rules : Int) (hw : (Lit.int .i64 rules).wf = true) :
    Calls Try.prog 6 #[v, .int .i64 rules] w fun e w' => e = .returned (.bool true) ∧ Mod [] w w' := by
  rcases hv with ⟨hn, av, capv, rfl⟩ | ⟨b, off, cap, rfl, hc1, hc2, hc3, hcell⟩
  · obtain rfl : bs = [] := by cases bs; rfl; simp [vb] at hn
    exact streams_main w av capv [] (Sl.nil _ _ _) (by simp) (fun w' _ rules => ref_all_nil w' av capv rules) rules
  · rw [vb_length] at *
    by_cases hl : bs.length ≤ 1500
    · exact streams_main w _ cap bs (.inr ⟨b, off, cap, by rw [vb_length], by rw [vb_length]; exact hc1, hc2, hc3, hcell⟩) hl
        (fun w' hM rules => ref_all hc1 hc2 (hM.lt hc3) (fun i u h => (hM.cell hc3 (by simp)).trans (hcell i u h)) (by omega) rules) rules
    · have d1500 : decide ((1500 : Int) < bs.length) = true := by simp; omega
      have hm : bs.length ≤ maxLen := by omega
      clear hcell
      go_enter Try.func6, Try.ntmps6
      go_wp2_with fail
      refine (fit_any _).mono ?_
      rintro e1 w1 ⟨rfl, hM1⟩
      have M1 := Lib.hid hM1
      clear hM1
      go_wp2_with fail
      go_ret
      exact ⟨rfl, M1.out⟩
end Go.Proofs.Ytfmojpkggkjceaa.Frame
