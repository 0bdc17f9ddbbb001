/- summary's laws: SummaryEpochs, the walk. -/
import Derived.Test.YtpobjhmfidebbaaSumLaw4
namespace Go.Proofs.Ytpobjhmfidebbaa.Sum
open Go Go.RowKit Go.YtpobjhmfidebbaaMem Go.YtpobjhmfidebbaaLex Go.YtpobjhmfidebbaaRange Go.Proofs.Ytpobjhmfidebbaa.Hash Go.Proofs.Ytpobjhmfidebbaa.Keys Go.Proofs.Ytpobjhmfidebbaa.Index
set_option linter.unusedVariables false
set_option linter.unusedSimpArgs false

set_option maxRecDepth 40000 in
set_option maxHeartbeats 12800000 in
theorem epochs_walk (w : World) (az : Int) (hw1 : (Lit.int .i64 az).wf = true) (bz : Int) (hw2 : (Lit.int .i64 bz).wf = true) :
    Calls Try.prog 10 #[.int .i64 az, .int .i64 bz] w fun e w' => e = .returned (.bool true) ∧ Mod [] w w' := by
  obtain ⟨A, hA, hA2⟩ : ∃ A, bits .and .i64 az 4611686018427387903 = A ∧ 0 ≤ A ∧ A < 4611686018427387904 := ⟨_, rfl, by rw [show (4611686018427387903 : Int) = 2 ^ 62 - 1 from rfl, and_mask _ _ (by omega)]; omega⟩
  obtain ⟨B, hB, hB2⟩ : ∃ B, bits .and .i64 bz 4611686018427387903 = B ∧ 0 ≤ B ∧ B < 4611686018427387904 := ⟨_, rfl, by rw [show (4611686018427387903 : Int) = 2 ^ 62 - 1 from rfl, and_mask _ _ (by omega)]; omega⟩
  have RW := Lib.hid (fun W : World => row_any 1 2 3 (by omega) (by omega) (by omega) W)
  have RZ := Lib.hid (fun W : World => row_any 0 0 0 (by omega) (by omega) (by omega) W)
  have hr := rowOf_ok [1, 2, 3]
  unfold RowPost v3 at RW RZ
  generalize rowOf [1, 2, 3] = r at *
  generalize rowOf [0, 0, 0] = r0 at *
  have NW := Lib.hid (fun W : World => new_any 2 (by omega) (by omega) r hr W)
  have NN := Lib.hid (fun (m : Int) (h : m < 1 ∨ 64 < m) (W : World) => new_none m h r0 W)
  have F1 := Lib.hid (fun (W : World) (S : SB) (h : SumAt W S 2 [] 0) => offer_ok (s := ([], 0)) h (ok_nil 2) (by omega) xK (by simp [xK]) A (by omega))
  obtain ⟨s1, hs1⟩ : ∃ s1, offer 2 ([], 0) xK A = s1 := ⟨_, rfl⟩
  rw [hs1] at F1
  have ht := two_eq A B hA2 hB2
  have h2 : two A B = offer 2 s1 yK B := by unfold two; rw [hs1]
  rw [h2] at ht
  obtain ⟨s2, hs2⟩ : ∃ s2, offer 2 s1 yK B = s2 := ⟨_, rfl⟩
  rw [hs2] at ht
  have HS2 := Lib.hid hs2
  clear hr hw1 hw2 h2 hs1 hs2
  simp only [xK, yK] at F1 ht HS2
  go_enter Try.func10, Try.ntmps10
  go_wp2_with fail
  refine (fit_any _).mono ?_
  rintro e1 w1 ⟨rfl, hM1⟩
  have M1 := Lib.hid hM1
  clear hM1
  go_wp2_with fail
  refine (RW.out _).mono ?_
  rintro e2 w2 ⟨rfl, hM2⟩
  have M2 := Lib.hid (M1.out.trans hM2)
  clear hM2
  go_wp2_with fail
  refine (NW.out _).mono ?_
  rintro e3 w3 ⟨S, rfl, hS, hB3, hM3⟩
  have A3 := Lib.hid hS
  have M3 := Lib.hid (M2.out.trans hM3)
  have BL : Hid (∀ b, b ∈ S.all → w.heap.size ≤ b) := Lib.hid fun b hb => by have := hB3 b hb; have := M2.out.size; omega
  clear hS hB3 hM3
  go_wp2_with fail
  refine (F1.out _ S A3.out).mono ?_
  rintro e4 w4 ⟨⟨v4, rfl⟩, hS4, hO4, hM4⟩
  have M4 := Lib.hid (M3.out.trans' hM4 (fun b hb => .inr (BL.out b hb)))
  have F2 := Lib.hid (offer_ok hS4 hO4 (by omega) [121] (by simp) B (by omega))
  rw [HS2.out] at F2
  clear hS4 hO4 hM4
  go_wp2_with fail
  refine F2.out.mono ?_
  rintro e5 w5 ⟨⟨v5, rfl⟩, hS5, hO5, hM5⟩
  have A5 := Lib.hid hS5
  have M5 := Lib.hid (M4.out.trans' hM5 (fun b hb => .inr (BL.out b hb)))
  clear hS5 hO5 hM5
  by_cases hb : B < 1
  · rw [if_pos hb] at ht
    by_cases ha : 0 < A
    · rw [if_pos ha] at ht
      have hs2 := ht
      obtain rfl : B = 0 := by omega
      rw [hs2] at A5
      simp only at A5
      have CX := Lib.hid (count_any A5.out [120] (by simp))
      rw [show countE [⟨[120], A, 0⟩] [120] = (A, 0, true) by simp [countE, findE, List.findIdx?_cons]] at CX
      have CY := Lib.hid (fun W (h : Mod [] w5 W) => count_any (A5.out.mod h (by simp)) [121] (by simp))
      rw [show countE [⟨[120], A, 0⟩] [121] = (0, 0, false) by simp [countE, findE, List.findIdx?_cons]] at CY
      go_wp2_with fail
      refine CX.out.mono ?_
      rintro e6 w6 ⟨rfl, hM6⟩
      have N6 := Lib.hid hM6
      clear hM6
      go_wp2_with fail
      refine (CY.out _ N6.out).mono ?_
      rintro e6' w6' ⟨rfl, hM6'⟩
      have M6 := Lib.hid ((M5.out.trans N6.out).trans hM6')
      have A6 := Lib.hid (A5.out.mod (N6.out.trans hM6') (by simp))
      have TT := Lib.hid (total_any A6.out)
      have LN := Lib.hid (len_any A6.out)
      clear hM6'
      have a0 : decide ((0 : Int) < A) = true := by simp; omega
      go_wp2_with fail

      refine (offer_nil [97] 1 _).mono ?_
      rintro e7 w7 ⟨⟨v7, rfl⟩, rfl⟩
      go_wp2_with fail
      refine (clear_nil _).mono ?_
      rintro e8 w8 ⟨⟨v8, rfl⟩, rfl⟩
      go_wp2_with fail
      refine TT.out.mono ?_
      rintro e9 w9 ⟨rfl, rfl⟩
      go_wp2_with fail
      refine (total_nil _).mono ?_
      rintro e10 w10 ⟨rfl, rfl⟩
      go_wp2_with fail
      refine (len_nil _).mono ?_
      rintro e11 w11 ⟨rfl, rfl⟩
      go_wp2_with fail
      refine (top_nil 1 _).mono ?_
      rintro e12 w12 ⟨rfl, hM12⟩
      have N12 := Lib.hid (M6.out.trans hM12)
      clear hM12
      go_wp2_with fail
      refine (least_nil _).mono ?_
      rintro e13 w13 ⟨rfl, hM13⟩
      have N13 := Lib.hid (N12.out.trans hM13)
      clear hM13
      go_wp2_with fail
      refine (RZ.out _).mono ?_
      rintro e14 w14 ⟨rfl, hM14⟩
      have N14 := Lib.hid (N13.out.trans hM14)
      clear hM14
      go_wp2_with fail
      refine (NN.out 0 (by omega) _).mono ?_
      rintro e15 w15 ⟨rfl, hM15⟩
      have N15 := Lib.hid (N14.out.trans hM15)
      clear hM15
      go_wp2_with fail
      refine (RZ.out _).mono ?_
      rintro e16 w16 ⟨rfl, hM16⟩
      have N16 := Lib.hid (N15.out.trans hM16)
      clear hM16
      go_wp2_with fail
      refine (NN.out 65 (by omega) _).mono ?_
      rintro e17 w17 ⟨rfl, hM17⟩
      have N17 := Lib.hid (N16.out.trans hM17)
      clear hM17
      go_wp2_with fail
      go_ret
      exact ⟨rfl, N17.out⟩
    · rw [if_neg ha] at ht
      have hs2 := ht
      obtain rfl : B = 0 := by omega
      obtain rfl : A = 0 := by omega
      rw [hs2] at A5
      simp only at A5
      have CX := Lib.hid (count_any A5.out [120] (by simp))
      rw [show countE ([] : List Ent) [120] = (0, 0, false) by simp [countE, findE, List.findIdx?_cons]] at CX
      have CY := Lib.hid (fun W (h : Mod [] w5 W) => count_any (A5.out.mod h (by simp)) [121] (by simp))
      rw [show countE ([] : List Ent) [121] = (0, 0, false) by simp [countE, findE, List.findIdx?_cons]] at CY
      go_wp2_with fail
      refine CX.out.mono ?_
      rintro e6 w6 ⟨rfl, hM6⟩
      have N6 := Lib.hid hM6
      clear hM6
      go_wp2_with fail
      refine (CY.out _ N6.out).mono ?_
      rintro e6' w6' ⟨rfl, hM6'⟩
      have M6 := Lib.hid ((M5.out.trans N6.out).trans hM6')
      have A6 := Lib.hid (A5.out.mod (N6.out.trans hM6') (by simp))
      have TT := Lib.hid (total_any A6.out)
      have LN := Lib.hid (len_any A6.out)
      clear hM6'

      go_wp2_with fail

      refine (offer_nil [97] 1 _).mono ?_
      rintro e7 w7 ⟨⟨v7, rfl⟩, rfl⟩
      go_wp2_with fail
      refine (clear_nil _).mono ?_
      rintro e8 w8 ⟨⟨v8, rfl⟩, rfl⟩
      go_wp2_with fail
      refine TT.out.mono ?_
      rintro e9 w9 ⟨rfl, rfl⟩
      go_wp2_with fail
      refine (total_nil _).mono ?_
      rintro e10 w10 ⟨rfl, rfl⟩
      go_wp2_with fail
      refine (len_nil _).mono ?_
      rintro e11 w11 ⟨rfl, rfl⟩
      go_wp2_with fail
      refine (top_nil 1 _).mono ?_
      rintro e12 w12 ⟨rfl, hM12⟩
      have N12 := Lib.hid (M6.out.trans hM12)
      clear hM12
      go_wp2_with fail
      refine (least_nil _).mono ?_
      rintro e13 w13 ⟨rfl, hM13⟩
      have N13 := Lib.hid (N12.out.trans hM13)
      clear hM13
      go_wp2_with fail
      refine (RZ.out _).mono ?_
      rintro e14 w14 ⟨rfl, hM14⟩
      have N14 := Lib.hid (N13.out.trans hM14)
      clear hM14
      go_wp2_with fail
      refine (NN.out 0 (by omega) _).mono ?_
      rintro e15 w15 ⟨rfl, hM15⟩
      have N15 := Lib.hid (N14.out.trans hM15)
      clear hM15
      go_wp2_with fail
      refine (RZ.out _).mono ?_
      rintro e16 w16 ⟨rfl, hM16⟩
      have N16 := Lib.hid (N15.out.trans hM16)
      clear hM16
      go_wp2_with fail
      refine (NN.out 65 (by omega) _).mono ?_
      rintro e17 w17 ⟨rfl, hM17⟩
      have N17 := Lib.hid (N16.out.trans hM17)
      clear hM17
      go_wp2_with fail
      go_ret
      exact ⟨rfl, N17.out⟩
  · rw [if_neg hb] at ht
    by_cases ha : 0 < A
    · rw [if_pos ha] at ht
      by_cases hc : 4611686018427387904 - B ≤ A
      · rw [if_pos hc] at ht
        have hs2 := ht
        rw [hs2] at A5
        simp only at A5
        have CX := Lib.hid (count_any A5.out [120] (by simp))
        rw [show countE [⟨[121], B, 0⟩] [120] = (0, 0, false) by simp [countE, findE, List.findIdx?_cons]] at CX
        have CY := Lib.hid (fun W (h : Mod [] w5 W) => count_any (A5.out.mod h (by simp)) [121] (by simp))
        rw [show countE [⟨[121], B, 0⟩] [121] = (B, 0, true) by simp [countE, findE, List.findIdx?_cons]] at CY
        go_wp2_with fail
        refine CX.out.mono ?_
        rintro e6 w6 ⟨rfl, hM6⟩
        have N6 := Lib.hid hM6
        clear hM6
        go_wp2_with fail
        refine (CY.out _ N6.out).mono ?_
        rintro e6' w6' ⟨rfl, hM6'⟩
        have M6 := Lib.hid ((M5.out.trans N6.out).trans hM6')
        have A6 := Lib.hid (A5.out.mod (N6.out.trans hM6') (by simp))
        have TT := Lib.hid (total_any A6.out)
        have LN := Lib.hid (len_any A6.out)
        clear hM6'
        have b0 : decide ((0 : Int) < B) = true := by simp; omega
        have a0 : decide ((0 : Int) < A) = true := by simp; omega
        have c0 : decide ((4611686018427387904 : Int) - B ≤ A) = true := by simpa using hc
        go_wp2_with fail

        refine TT.out.mono ?_
        rintro e9 w9 ⟨rfl, rfl⟩
        go_wp2_with fail
        refine LN.out.mono ?_
        rintro e10 w10 ⟨rfl, rfl⟩
        go_wp2_with fail
        go_ret
        exact ⟨rfl, M6.out⟩
      · rw [if_neg hc] at ht
        by_cases hd : A < B
        · rw [if_pos hd] at ht
          have hs2 := ht
          rw [hs2] at A5
          simp only at A5
          have CX := Lib.hid (count_any A5.out [120] (by simp))
          rw [show countE [⟨[121], B, 0⟩, ⟨[120], A, 0⟩] [120] = (A, 0, true) by simp [countE, findE, List.findIdx?_cons]] at CX
          have CY := Lib.hid (fun W (h : Mod [] w5 W) => count_any (A5.out.mod h (by simp)) [121] (by simp))
          rw [show countE [⟨[121], B, 0⟩, ⟨[120], A, 0⟩] [121] = (B, 0, true) by simp [countE, findE, List.findIdx?_cons]] at CY
          go_wp2_with fail
          refine CX.out.mono ?_
          rintro e6 w6 ⟨rfl, hM6⟩
          have N6 := Lib.hid hM6
          clear hM6
          go_wp2_with fail
          refine (CY.out _ N6.out).mono ?_
          rintro e6' w6' ⟨rfl, hM6'⟩
          have M6 := Lib.hid ((M5.out.trans N6.out).trans hM6')
          have A6 := Lib.hid (A5.out.mod (N6.out.trans hM6') (by simp))
          have TT := Lib.hid (total_any A6.out)
          have LN := Lib.hid (len_any A6.out)
          clear hM6'
          have b0 : decide ((0 : Int) < B) = true := by simp; omega
          have a0 : decide ((0 : Int) < A) = true := by simp; omega
          have c0 : decide ((4611686018427387904 : Int) - B ≤ A) = false := by simpa using hc
          go_wp2_with fail

          refine (offer_nil [97] 1 _).mono ?_
          rintro e7 w7 ⟨⟨v7, rfl⟩, rfl⟩
          go_wp2_with fail
          refine (clear_nil _).mono ?_
          rintro e8 w8 ⟨⟨v8, rfl⟩, rfl⟩
          go_wp2_with fail
          refine TT.out.mono ?_
          rintro e9 w9 ⟨rfl, rfl⟩
          go_wp2_with fail
          refine (total_nil _).mono ?_
          rintro e10 w10 ⟨rfl, rfl⟩
          go_wp2_with fail
          refine (len_nil _).mono ?_
          rintro e11 w11 ⟨rfl, rfl⟩
          go_wp2_with fail
          refine (top_nil 1 _).mono ?_
          rintro e12 w12 ⟨rfl, hM12⟩
          have N12 := Lib.hid (M6.out.trans hM12)
          clear hM12
          go_wp2_with fail
          refine (least_nil _).mono ?_
          rintro e13 w13 ⟨rfl, hM13⟩
          have N13 := Lib.hid (N12.out.trans hM13)
          clear hM13
          go_wp2_with fail
          refine (RZ.out _).mono ?_
          rintro e14 w14 ⟨rfl, hM14⟩
          have N14 := Lib.hid (N13.out.trans hM14)
          clear hM14
          go_wp2_with fail
          refine (NN.out 0 (by omega) _).mono ?_
          rintro e15 w15 ⟨rfl, hM15⟩
          have N15 := Lib.hid (N14.out.trans hM15)
          clear hM15
          go_wp2_with fail
          refine (RZ.out _).mono ?_
          rintro e16 w16 ⟨rfl, hM16⟩
          have N16 := Lib.hid (N15.out.trans hM16)
          clear hM16
          go_wp2_with fail
          refine (NN.out 65 (by omega) _).mono ?_
          rintro e17 w17 ⟨rfl, hM17⟩
          have N17 := Lib.hid (N16.out.trans hM17)
          clear hM17
          go_wp2_with fail
          go_ret
          exact ⟨rfl, N17.out⟩
        · rw [if_neg hd] at ht
          have hs2 := ht
          rw [hs2] at A5
          simp only at A5
          have CX := Lib.hid (count_any A5.out [120] (by simp))
          rw [show countE [⟨[120], A, 0⟩, ⟨[121], B, 0⟩] [120] = (A, 0, true) by simp [countE, findE, List.findIdx?_cons]] at CX
          have CY := Lib.hid (fun W (h : Mod [] w5 W) => count_any (A5.out.mod h (by simp)) [121] (by simp))
          rw [show countE [⟨[120], A, 0⟩, ⟨[121], B, 0⟩] [121] = (B, 0, true) by simp [countE, findE, List.findIdx?_cons]] at CY
          go_wp2_with fail
          refine CX.out.mono ?_
          rintro e6 w6 ⟨rfl, hM6⟩
          have N6 := Lib.hid hM6
          clear hM6
          go_wp2_with fail
          refine (CY.out _ N6.out).mono ?_
          rintro e6' w6' ⟨rfl, hM6'⟩
          have M6 := Lib.hid ((M5.out.trans N6.out).trans hM6')
          have A6 := Lib.hid (A5.out.mod (N6.out.trans hM6') (by simp))
          have TT := Lib.hid (total_any A6.out)
          have LN := Lib.hid (len_any A6.out)
          clear hM6'
          have b0 : decide ((0 : Int) < B) = true := by simp; omega
          have a0 : decide ((0 : Int) < A) = true := by simp; omega
          have c0 : decide ((4611686018427387904 : Int) - B ≤ A) = false := by simpa using hc
          go_wp2_with fail

          refine (offer_nil [97] 1 _).mono ?_
          rintro e7 w7 ⟨⟨v7, rfl⟩, rfl⟩
          go_wp2_with fail
          refine (clear_nil _).mono ?_
          rintro e8 w8 ⟨⟨v8, rfl⟩, rfl⟩
          go_wp2_with fail
          refine TT.out.mono ?_
          rintro e9 w9 ⟨rfl, rfl⟩
          go_wp2_with fail
          refine (total_nil _).mono ?_
          rintro e10 w10 ⟨rfl, rfl⟩
          go_wp2_with fail
          refine (len_nil _).mono ?_
          rintro e11 w11 ⟨rfl, rfl⟩
          go_wp2_with fail
          refine (top_nil 1 _).mono ?_
          rintro e12 w12 ⟨rfl, hM12⟩
          have N12 := Lib.hid (M6.out.trans hM12)
          clear hM12
          go_wp2_with fail
          refine (least_nil _).mono ?_
          rintro e13 w13 ⟨rfl, hM13⟩
          have N13 := Lib.hid (N12.out.trans hM13)
          clear hM13
          go_wp2_with fail
          refine (RZ.out _).mono ?_
          rintro e14 w14 ⟨rfl, hM14⟩
          have N14 := Lib.hid (N13.out.trans hM14)
          clear hM14
          go_wp2_with fail
          refine (NN.out 0 (by omega) _).mono ?_
          rintro e15 w15 ⟨rfl, hM15⟩
          have N15 := Lib.hid (N14.out.trans hM15)
          clear hM15
          go_wp2_with fail
          refine (RZ.out _).mono ?_
          rintro e16 w16 ⟨rfl, hM16⟩
          have N16 := Lib.hid (N15.out.trans hM16)
          clear hM16
          go_wp2_with fail
          refine (NN.out 65 (by omega) _).mono ?_
          rintro e17 w17 ⟨rfl, hM17⟩
          have N17 := Lib.hid (N16.out.trans hM17)
          clear hM17
          go_wp2_with fail
          go_ret
          exact ⟨rfl, N17.out⟩
    · rw [if_neg ha] at ht
      have hs2 := ht
      obtain rfl : A = 0 := by omega
      rw [hs2] at A5
      simp only at A5
      have CX := Lib.hid (count_any A5.out [120] (by simp))
      rw [show countE [⟨[121], B, 0⟩] [120] = (0, 0, false) by simp [countE, findE, List.findIdx?_cons]] at CX
      have CY := Lib.hid (fun W (h : Mod [] w5 W) => count_any (A5.out.mod h (by simp)) [121] (by simp))
      rw [show countE [⟨[121], B, 0⟩] [121] = (B, 0, true) by simp [countE, findE, List.findIdx?_cons]] at CY
      go_wp2_with fail
      refine CX.out.mono ?_
      rintro e6 w6 ⟨rfl, hM6⟩
      have N6 := Lib.hid hM6
      clear hM6
      go_wp2_with fail
      refine (CY.out _ N6.out).mono ?_
      rintro e6' w6' ⟨rfl, hM6'⟩
      have M6 := Lib.hid ((M5.out.trans N6.out).trans hM6')
      have A6 := Lib.hid (A5.out.mod (N6.out.trans hM6') (by simp))
      have TT := Lib.hid (total_any A6.out)
      have LN := Lib.hid (len_any A6.out)
      clear hM6'
      have b0 : decide ((0 : Int) < B) = true := by simp; omega
      go_wp2_with fail

      refine (offer_nil [97] 1 _).mono ?_
      rintro e7 w7 ⟨⟨v7, rfl⟩, rfl⟩
      go_wp2_with fail
      refine (clear_nil _).mono ?_
      rintro e8 w8 ⟨⟨v8, rfl⟩, rfl⟩
      go_wp2_with fail
      refine TT.out.mono ?_
      rintro e9 w9 ⟨rfl, rfl⟩
      go_wp2_with fail
      refine (total_nil _).mono ?_
      rintro e10 w10 ⟨rfl, rfl⟩
      go_wp2_with fail
      refine (len_nil _).mono ?_
      rintro e11 w11 ⟨rfl, rfl⟩
      go_wp2_with fail
      refine (top_nil 1 _).mono ?_
      rintro e12 w12 ⟨rfl, hM12⟩
      have N12 := Lib.hid (M6.out.trans hM12)
      clear hM12
      go_wp2_with fail
      refine (least_nil _).mono ?_
      rintro e13 w13 ⟨rfl, hM13⟩
      have N13 := Lib.hid (N12.out.trans hM13)
      clear hM13
      go_wp2_with fail
      refine (RZ.out _).mono ?_
      rintro e14 w14 ⟨rfl, hM14⟩
      have N14 := Lib.hid (N13.out.trans hM14)
      clear hM14
      go_wp2_with fail
      refine (NN.out 0 (by omega) _).mono ?_
      rintro e15 w15 ⟨rfl, hM15⟩
      have N15 := Lib.hid (N14.out.trans hM15)
      clear hM15
      go_wp2_with fail
      refine (RZ.out _).mono ?_
      rintro e16 w16 ⟨rfl, hM16⟩
      have N16 := Lib.hid (N15.out.trans hM16)
      clear hM16
      go_wp2_with fail
      refine (NN.out 65 (by omega) _).mono ?_
      rintro e17 w17 ⟨rfl, hM17⟩
      have N17 := Lib.hid (N16.out.trans hM17)
      clear hM17
      go_wp2_with fail
      go_ret
      exact ⟨rfl, N17.out⟩
end Go.Proofs.Ytpobjhmfidebbaa.Sum
