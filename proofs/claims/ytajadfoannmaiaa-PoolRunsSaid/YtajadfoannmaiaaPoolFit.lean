/- pool's laws: fit; names of one byte. -/
import Derived.Test.YtajadfoannmaiaaPool4
namespace Go.Proofs.Ytajadfoannmaiaa.Pool
open Go Go.RowKit Go.YtajadfoannmaiaaMem Go.YtajadfoannmaiaaLex Go.YtajadfoannmaiaaRange Go.Proofs.Ytajadfoannmaiaa.Hash Go.Proofs.Ytajadfoannmaiaa.Keys Go.Proofs.Ytajadfoannmaiaa.Index Go.Proofs.Ytajadfoannmaiaa.Cell Go.Proofs.Ytajadfoannmaiaa.Arith
set_option linter.unusedVariables false
set_option linter.unusedSimpArgs false

def s0 (n : Nat) : PS := ⟨emp n, List.range n, List.replicate n Cell.zero⟩
theorem i64_small {a : Int} (h1 : -1000000 ≤ a) (h2 : a ≤ 1000000) : I64 a := by unfold I64; omega
set_option maxRecDepth 4000 in
set_option maxHeartbeats 1600000 in
theorem fit_any (w : World) : Calls Try.prog 7 #[] w fun e w' => e = .returned (.bool true) ∧ Mod [] w w' := by
  have N0 := Lib.hid (fun W : World => new_any 1 (by omega) (by omega) ⟨1, 1, 0⟩ ⟨by decide, by decide, by decide⟩ W)
  have C1 := Lib.hid (fun W : World => Cell.new_any 3 1 W)
  have C2 := Lib.hid (fun W : World => Cell.new_any 4 1 W)
  simp only [fresh, Cell.val] at C1 C2
  go_enter Try.func7, Try.ntmps7
  go_wp2_with fail
  refine (N0.out _).mono ?_
  rintro e1 w1 ⟨B, rfl, hP, hB, hr, hM1⟩
  have P1 := Lib.hid (show At w1 B (s0 1) from hP)
  have M1 := Lib.hid hM1
  have BL := Lib.hid hB
  clear hP hM1 hB hr
  go_wp2_with fail
  refine (C1.out _).mono ?_
  rintro e2 w2 ⟨rfl, hM2⟩
  have P2 := Lib.hid (P1.out.mod hM2 (by simp))
  have M2 := Lib.hid (M1.out.trans hM2)
  have PA := Lib.hid (put_at P2.out [97] (by decide) ⟨3, 3, 1, 0⟩ ⟨i64_small (by decide) (by decide), i64_small (by decide) (by decide), i64_small (by decide) (by decide), i64_small (by decide) (by decide)⟩)
  have e : putP (s0 1) [97] ⟨3, 3, 1, 0⟩ = (some 0, ⟨[some [97]], [], [⟨3, 3, 1, 0⟩]⟩) := rfl
  rw [e] at PA
  clear hM2 e
  go_wp2_with fail
  refine PA.out.mono ?_
  rintro e3 w3 ⟨rfl, hP, hM3⟩
  have P3 := Lib.hid hP
  have M3 := Lib.hid (M2.out.trans' hM3 (fun b hb => .inr (by have := BL.out b hb; omega)))
  rw [show cellAt B (some 0) = .pointer (some ⟨B.cb, 0, none⟩) from rfl]
  clear hP hM3
  go_wp2_with fail
  refine (C2.out _).mono ?_
  rintro e4 w4 ⟨rfl, hM4⟩
  have P4 := Lib.hid (P3.out.mod hM4 (by simp))
  have M4 := Lib.hid (M3.out.trans hM4)
  have PB := Lib.hid (put_at P4.out [98] (by decide) ⟨4, 4, 1, 0⟩ ⟨i64_small (by decide) (by decide), i64_small (by decide) (by decide), i64_small (by decide) (by decide), i64_small (by decide) (by decide)⟩)
  have e : putP ⟨[some [97]], [], [⟨3, 3, 1, 0⟩]⟩ [98] ⟨4, 4, 1, 0⟩ = (none, ⟨[some [97]], [], [⟨3, 3, 1, 0⟩]⟩) := rfl
  rw [e] at PB
  clear hM4 e
  go_wp2_with fail
  refine PB.out.mono ?_
  rintro e5 w5 ⟨rfl, hP, hM5⟩
  have P5 := Lib.hid hP
  have M5 := Lib.hid (M4.out.trans' hM5 (fun b hb => .inr (by have := BL.out b hb; omega)))
  rw [show cellAt B none = .pointer none from rfl]
  have k1 := (cel4 (j := 0) hP.cel rfl).2.1
  rw [Nat.zero_mul, Nat.zero_add] at k1
  have FU := Lib.hid (full_any P5.out)
  rw [show decide (([] : List Nat) = []) = true by simp] at FU
  simp only at k1
  clear hP hM5
  go_wp2_with fail
  refine FU.out.mono ?_
  rintro e6 w6 ⟨rfl, hM6⟩
  have P6 := Lib.hid (P5.out.mod hM6 (by simp))
  have M6 := Lib.hid (M5.out.trans hM6)
  have LE := Lib.hid (len_any P6.out)
  rw [show used [some [(97 : UInt8)]] = 1 from rfl] at LE
  clear hM6
  go_wp2_with fail
  refine LE.out.mono ?_
  rintro e7 w7 ⟨rfl, rfl⟩
  go_wp2_with fail
  go_ret
  exact ⟨rfl, M6.out⟩
end Go.Proofs.Ytajadfoannmaiaa.Pool
