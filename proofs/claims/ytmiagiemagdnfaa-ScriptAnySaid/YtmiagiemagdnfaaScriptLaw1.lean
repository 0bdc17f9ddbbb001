/- script's laws: ScriptAny: any bytes are acts, at times that don't go back, each as it may be. No condition. -/
import Derived.Test.YtmiagiemagdnfaaScript4
namespace Go.Proofs.Ytmiagiemagdnfaa.Script
open Go Go.RowKit Go.YtmiagiemagdnfaaMem Go.YtmiagiemagdnfaaLex Go.Proofs.Ytmiagiemagdnfaa.Frame
set_option linter.unusedVariables false
set_option linter.unusedSimpArgs false

theorem weight_take {l : List Act} {j : Nat} {a : Act} (h : l[j]? = some a) : weight (l.take (j + 1)) = weight (l.take j) + (1 + a.data.length) := by
  rw [List.take_add_one, h]; simp [weight]
theorem weight_le (l : List Act) (j : Nat) : weight (l.take j) ≤ weight l := by
  have h : weight l = weight (l.take j) + weight (l.drop j) := by
    unfold weight; rw [← List.sum_append, ← List.map_append, List.take_append_drop]
  omega
/-- The time of the act ahead of the j-th. -/
def before (l : List Act) (j : Nat) : Nat := match l[j - 1]? with | some a => if j = 0 then 0 else a.clock | none => 0

set_option maxRecDepth 4000 in
set_option maxHeartbeats 3200000 in
theorem any_main (w : World) (a : Option Addr) (cp : Nat) (bs : List UInt8) (hv : Sl w (.slice a bs.length cp) (vb bs)) (hl : bs.length ≤ 2000) :
    Calls Try.prog 3 #[.slice a bs.length cp] w fun e w' => e = .returned (.bool true) ∧ Mod [] w w' := by
  have d2000 : decide ((2000 : Int) < bs.length) = false := by simp; omega
  have HV := Lib.hid hv
  clear hv
  go_enter Try.func3, Try.ntmps3
  go_wp2_with fail
  refine (fit_any _).mono ?_
  rintro e1 w1 ⟨rfl, hM1⟩
  have M1 := Lib.hid hM1
  clear hM1
  go_wp2_with fail
  refine (decode_any (HV.out.mod M1.out (by simp)) (by omega)).mono ?_
  rintro e2 w2 ⟨v2, c, l, av, g, rfl, hg, hO, hav, hS, hll, hM2⟩
  have hT := steps_told hS
  have M2 := Lib.hid (M1.out.trans hM2)
  obtain ⟨a2, c2, rfl⟩ := own_slice hO.1
  have hlen : av.length = l.length := by rw [← hav, List.length_map]
  rw [hlen] at hO ⊢
  have O2 := Lib.hid hO
  have HAV := Lib.hid hav
  have HT := Lib.hid hT
  have hw := hT.weight
  have hzero : l.length = 0 → bs.length = 0 := fun h => hT.none (List.eq_nil_of_length_eq_zero h)
  have HZ := Lib.hid hzero
  have HW := Lib.hid hw
  have hlb : l.length ≤ 2000 := by omega
  clear hM2 hO hav hS hT hlen hw hzero hg hll
  go_wp2_with fail
  go_loopw [4, 5, 17] (fun x y i wr => ∃ (j : Nat), j ≤ l.length ∧ x = .int .i64 (before l j : Nat) ∧ y = .int .i64 (weight (l.take j) : Nat) ∧ i = .int .i64 j ∧ Mod [] w2 wr) (fun _ _ i _ => l.length - (intOf i).toNat)
  case atStart => exact ⟨0, Nat.zero_le _, by unfold before; congr 1; split <;> rfl, rfl, rfl, Mod.refl _ _⟩
  case round =>
    obtain ⟨j, hj, rfl, rfl, rfl, hM⟩ := hrel
    have MR := Lib.hid hM
    clear hM
    have hwl := weight_le l j
    have HWL := Lib.hid hwl
    by_cases hlt : j < l.length
    · obtain ⟨q, hq⟩ : ∃ q, l[j]? = some q := ⟨_, List.getElem?_eq_getElem hlt⟩
      obtain ⟨g1, cap, x, y, p, p', he, hg1, hc1, hc2, c0, c1, c2', c3, c4, c5⟩ := O2.out.one HAV.out hq
      injection he with he1 he2 he3
      subst he1 he3
      have k0 := (MR.out.cell hg1 (by simp)).trans c0
      have k1 := (MR.out.cell hg1 (by simp)).trans c1
      have k2 := (MR.out.cell hg1 (by simp)).trans c2'
      have k3 := (MR.out.cell hg1 (by simp)).trans c3
      have k4 := (MR.out.cell hg1 (by simp)).trans c4
      have k5 := (MR.out.cell hg1 (by simp)).trans c5
      obtain ⟨f0, f1, f2, f3, f4⟩ := HT.out.fair j q hq
      have hbf : before l j ≤ q.clock := by
        unfold before
        split
        · rename_i a ha
          split
          · omega
          · exact HT.out.up (j - 1) a q ha (by rw [show j - 1 + 1 = j by omega]; exact hq)
        · omega
      have hbn : before l (j + 1) = q.clock := by unfold before; simp [hq]
      have hcl : q.clock ≤ 9223372036854775807 → True := fun _ => trivial
      have hwt := weight_take hq
      have hww := weight_le l (j + 1)
      have HBN := Lib.hid hbn
      have HWT := Lib.hid hwt
      have hwn : weight (l.take j) ≤ 2000 := by have := HW.out; omega
      clear c0 c1 c2' c3 c4 c5 he2 hq hbn hwt hww hcl hwl
      obtain ⟨kind, clock, conn, data, n, seeds⟩ := q
      simp only at k0 k1 k2 k3 k4 k5 f0 f1 f2 f3 f4 hbf
      have dk : decide ((4 : Int) < kind) = false := by simp; omega
      have dc : decide ((15 : Int) < conn) = false := by simp; omega
      have ds : decide ((3 : Int) < seeds.length) = false := by simp; omega
      have dn : decide ((255 : Int) < n) = false := by simp; omega
      have dd : decide ((255 : Int) < data.length) = false := by simp; omega
      have db : decide ((clock : Int) < before l j) = false := by simp; omega
      generalize hsl : seeds.length = sl at *
      generalize hdl : data.length = dl at *
      generalize hbj : before l j = bj at *
      generalize hwj : weight (l.take j) = wj at *
      have HDL := Lib.hid hdl
      have HWJ := Lib.hid hwj
      clear hsl hdl hbj hwj
      go_wp2_with fail
      go_roundw
      case rel => exact ⟨j + 1, by omega, by rw [HBN.out], by rw [HWT.out]; simp, by go_num, MR.out.alloc _⟩
      case measure => simp [intOf]; omega
    · obtain rfl : j = l.length := by omega
      rw [List.take_length]
      have hw := HW.out
      have hz := HZ.out
      have hz2 : bs.length = 0 → l.length = 0 := fun h => by
        by_cases hne : l = []
        · rw [hne]; rfl
        · obtain ⟨q, t, rfl⟩ := List.exists_cons_of_ne_nil hne
          have : 1 ≤ weight (q :: t) := by simp [weight]; omega
          omega
      generalize hwg : weight l = wl at *
      clear hwl hwg
      go_wp2
      all_goals go_ret
      all_goals refine ⟨?_, M2.out.trans MR.out⟩
      all_goals first
        | rfl
        | (exfalso; omega)
        | (show Ending.returned (.bool _) = _; congr 2; simp; omega)

set_option maxRecDepth 4000 in
theorem any_walk (w : World) (v : Value) (bs : List UInt8) (hv : Sl w v (vb bs)) :
    Calls Try.prog 3 #[v] w fun e w' => e = .returned (.bool true) ∧ Mod [] w w' := by
  obtain ⟨a, cp, rfl, hm, _⟩ := hv.open
  rw [vb_length] at *
  by_cases hl : bs.length ≤ 2000
  · exact any_main w a cp bs hv hl
  · have d2000 : decide ((2000 : Int) < bs.length) = true := by simp; omega
    clear hv
    go_enter Try.func3, Try.ntmps3
    go_wp2_with fail
    refine (fit_any _).mono ?_
    rintro e1 w1 ⟨rfl, hM1⟩
    have M1 := Lib.hid hM1
    clear hM1
    go_wp2_with fail
    go_ret
    exact ⟨rfl, M1.out⟩
end Go.Proofs.Ytmiagiemagdnfaa.Script
