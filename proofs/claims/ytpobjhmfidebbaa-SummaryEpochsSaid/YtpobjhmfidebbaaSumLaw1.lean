/- summary's laws: SummaryBytes. -/
import Derived.Test.YtpobjhmfidebbaaSumFit
namespace Go.Proofs.Ytpobjhmfidebbaa.Sum
open Go Go.RowKit Go.YtpobjhmfidebbaaMem Go.YtpobjhmfidebbaaLex Go.YtpobjhmfidebbaaRange Go.Proofs.Ytpobjhmfidebbaa.Hash Go.Proofs.Ytpobjhmfidebbaa.Keys Go.Proofs.Ytpobjhmfidebbaa.Index
set_option linter.unusedVariables false
set_option linter.unusedSimpArgs false

theorem bytes_index (n : Nat) (hn : n ≤ 100000) (w : World) : Calls Try.prog 34 #[.int .i64 n] w fun e w' => e = .returned (.int .i64 (4 * (2 * (n : Int) + 1))) ∧ w = w' := by
  have K := Lib.hid (fun W : World => size_any n (by omega) W)
  obtain ⟨m, hm⟩ : ∃ m, 2 * n + 1 = m := ⟨_, rfl⟩
  rw [hm] at K
  rw [show 4 * (2 * (n : Int) + 1) = 4 * (m : Int) by omega]
  have hm2 : m ≤ 200001 := by omega
  clear hm
  go_enter Try.func34, Try.ntmps34
  go_wp2_with fail
  refine (K.out _).mono ?_
  rintro e1 w1 ⟨rfl, rfl⟩
  go_wp2_with fail
  go_ret
  exact ⟨rfl, rfl⟩
theorem bytes_keys (n : Nat) (hn : n ≤ 100000) (w : World) : Calls Try.prog 33 #[.int .i64 n] w fun e w' => e = .returned (.int .i64 ((n : Int) * 69)) ∧ w = w' := by
  go_enter Try.func33, Try.ntmps33
  go_wp2_with fail
  go_ret
  exact ⟨rfl, rfl⟩
theorem bytes_any (n : Nat) (hn : n ≤ 100000) (w : World) : Calls Try.prog 18 #[.int .i64 n] w fun e w' => e = .returned (.int .i64 ((n : Int) * 69 + 4 * (2 * (n : Int) + 1) + n * 24)) ∧ w = w' := by
  have K := Lib.hid (fun W : World => bytes_keys n hn W)
  have I := Lib.hid (fun W : World => bytes_index n hn W)
  go_enter Try.func18, Try.ntmps18
  go_wp2_with fail
  refine (K.out _).mono ?_
  rintro e1 w1 ⟨rfl, rfl⟩
  go_wp2_with fail
  refine (I.out _).mono ?_
  rintro e1 w1 ⟨rfl, rfl⟩
  go_wp2_with fail
  go_ret
  exact ⟨rfl, rfl⟩
/-- What New tells: is there one? -/
theorem new_is (m : Int) (r : Row) (hr : r.ok) (w : World) : Calls Try.prog 13 #[.int .i64 m, .agg #[.int .u64 (r.x : Int), .int .u64 (r.a : Int), .int .u64 (r.b : Int)]] w fun e w' => ∃ o, e = .returned (.pointer o) ∧ (o.isSome = decide (1 ≤ m ∧ m ≤ 64)) ∧ Mod [] w w' := by
  by_cases h : 1 ≤ m ∧ m ≤ 64
  · obtain ⟨k, rfl⟩ : ∃ k : Nat, m = (k : Int) := ⟨m.toNat, by omega⟩
    refine (new_any k (by omega) (by omega) r hr w).mono ?_
    rintro e w' ⟨B, rfl, _, _, hM⟩
    exact ⟨_, rfl, by simp; omega, hM⟩
  · refine (new_none m (by omega) r w).mono ?_
    rintro e w' ⟨rfl, hM⟩
    exact ⟨none, rfl, by simp; omega, hM⟩
set_option maxRecDepth 8000 in
set_option maxHeartbeats 3200000 in
theorem bytes_walk (w : World) (z : Int) (hw : (Lit.int .i64 z).wf = true) :
    Calls Try.prog 4 #[.int .i64 z] w fun e w' => e = .returned (.bool true) ∧ Mod [] w w' := by
  obtain ⟨k, hk, hk4⟩ : ∃ k : Nat, bits .and .i64 z 4095 = (k : Int) ∧ k ≤ 4095 := ⟨(z % 4096).toNat, by rw [show (4095 : Int) = 2 ^ 12 - 1 from rfl, and_mask _ _ (by omega)]; omega, by omega⟩
  have BY := Lib.hid (fun W : World => bytes_any (k + 1) (by omega) W)
  rw [show (((k + 1 : Nat) : Int) * 69 + 4 * (2 * ((k + 1 : Nat) : Int) + 1) + ((k + 1 : Nat) : Int) * 24) = ((k : Int) + 1) * 101 + 4 by omega, show ((k + 1 : Nat) : Int) = (k : Int) + 1 by omega] at BY
  have RW := Lib.hid (fun W : World => row_any 2 3 4 (by omega) (by omega) (by omega) W)
  have hr := rowOf_ok [2, 3, 4]
  unfold RowPost v3 at RW
  generalize rowOf [2, 3, 4] = r at *
  have NW := Lib.hid (fun (m : Int) (W : World) => new_is m r hr W)
  have hz := wf_i64_of hw
  obtain ⟨t, ht⟩ : ∃ t, z.tmod 70 = t := ⟨_, rfl⟩
  have ht1 : -70 < t ∧ t < 70 := by
    have h1 := Int.lt_tmod_of_pos z (show (0 : Int) < 70 by omega)
    have h2 := Int.tmod_lt_of_pos z (show (0 : Int) < 70 by omega)
    omega
  clear hr hw
  go_enter Try.func4, Try.ntmps4
  go_wp2_with fail
  refine (fit_any _).mono ?_
  rintro e1 w1 ⟨rfl, hM1⟩
  have M1 := Lib.hid hM1
  clear hM1
  go_wp2_with fail
  refine (BY.out _).mono ?_
  rintro e2 w2 ⟨rfl, rfl⟩
  go_wp2_with fail
  have AB := Lib.hid (Blk.new w1 [.int .i64 z, .int .i64 t, .int .i64 64, .int .i64 65] 3)
  have M2 := Lib.hid (M1.out.alloc (.cells #[.int .i64 z, .int .i64 t, .int .i64 64, .int .i64 65] 3))
  obtain ⟨w3, hw3⟩ : ∃ w3, w1.alloc (.cells #[.int .i64 z, .int .i64 t, .int .i64 64, .int .i64 65] 3) = w3 := ⟨_, rfl⟩
  obtain ⟨b, hb⟩ : ∃ b, w1.heap.size = b := ⟨_, rfl⟩
  rw [hw3] at AB M2
  rw [hb] at AB
  rw [hw3, hb]
  clear hw3 hb
  go_loopw [22] (fun i wr => ∃ j : Nat, j ≤ 4 ∧ i = .int .i64 (j : Int) ∧ Mod [] w3 wr) (fun i _ => 4 - (intOf i).toNat)
  case atStart => exact ⟨0, Nat.zero_le _, rfl, Mod.refl _ _⟩
  case round =>
    obtain ⟨j, hj, rfl, hM⟩ := hrel
    have MR := Lib.hid hM
    by_cases hlt : j < 4
    · obtain ⟨m, hm⟩ : ∃ m, [z, t, 64, 65][j]? = some m := ⟨_, List.getElem?_eq_getElem (by simpa using hlt)⟩
      have cj := (hM.blk AB.out (by simp)).cell (i := j) (v := .int .i64 m) (by
        have : ([Value.int .i64 z, .int .i64 t, .int .i64 64, .int .i64 65] : List Value) = [z, t, 64, 65].map (Value.int .i64) := rfl
        rw [this, List.getElem?_map, hm]; rfl)
      have N1 := Lib.hid (NW.out m)
      clear hM hm
      go_wp2_with fail
      refine (RW.out _).mono ?_
      rintro e4 w4 ⟨rfl, hM4⟩
      have M4 := Lib.hid (MR.out.trans hM4)
      clear hM4 cj
      go_wp2_with fail
      refine (N1.out _).mono ?_
      rintro e5 w5 ⟨o, rfl, ho, hM5⟩
      have M5 := Lib.hid (M4.out.trans hM5)
      clear hM5
      by_cases h1 : 1 ≤ m
      · have d1 : decide (1 ≤ m) = true := by simpa using h1
        by_cases h2 : m ≤ 64
        · have d2 : decide (m ≤ 64) = true := by simpa using h2
          cases o with
          | none => simp at ho; omega
          | some ad =>
            clear ho
            go_wp2_with fail
            go_roundw
            case rel => exact ⟨j + 1, by omega, by go_num, M5.out⟩
            case measure => simp [intOf]; omega
        · have d2 : decide (m ≤ 64) = false := by simpa using h2
          cases o with
          | some ad => simp at ho; omega
          | none =>
            clear ho
            go_wp2_with fail
            go_roundw
            case rel => exact ⟨j + 1, by omega, by go_num, M5.out⟩
            case measure => simp [intOf]; omega
      · have d1 : decide (1 ≤ m) = false := by simpa using h1
        cases o with
        | some ad => simp at ho; omega
        | none =>
          clear ho
          go_wp2_with fail
          go_roundw
          case rel => exact ⟨j + 1, by omega, by go_num, M5.out⟩
          case measure => simp [intOf]; omega
    · obtain rfl : j = 4 := by omega
      clear hM
      go_wp2_with fail
      go_ret
      exact ⟨rfl, M2.out.trans MR.out⟩
end Go.Proofs.Ytpobjhmfidebbaa.Sum
