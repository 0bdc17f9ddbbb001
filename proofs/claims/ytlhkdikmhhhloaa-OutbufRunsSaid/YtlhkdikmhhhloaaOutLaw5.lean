/- outbuf's laws: OutbufRuns. -/
import Derived.Test.YtlhkdikmhhhloaaOutLaw1
import Derived.Test.YtlhkdikmhhhloaaArg
namespace Go.Proofs.Ytlhkdikmhhhloaa.Out
open Go Go.RowKit Go.YtlhkdikmhhhloaaMem Go.YtlhkdikmhhhloaaLex
set_option linter.unusedVariables false
set_option linter.unusedSimpArgs false

def RunsPost (w : World) (e : Ending) (w' : World) : Prop := e = .returned (.bool true) ∧ Mod [] w w'

theorem str_to (w : World) (q : List UInt8) (m : Nat) (h : m ≤ q.length) :
    (Instr.slice 9 (.string ⟨q.toArray⟩) none (some (.int .i64 (m : Int))) none).run Try.prog w = .ok (.string ⟨(q.take m).toArray⟩) w := by
  have hs : (ByteArray.mk q.toArray).size = q.length := by simp [ByteArray.size]
  rw [run_slice_string_h (P := Try.prog) w _ _ Try.underlying9 .i64 m (by omega) (by rw [hs]; omega), ByteArray.extract_mk]
  simp
theorem str_from (w : World) (q : List UInt8) (m : Nat) (h : m ≤ q.length) :
    (Instr.slice 9 (.string ⟨q.toArray⟩) (some (.int .i64 (m : Int))) none none).run Try.prog w = .ok (.string ⟨(q.drop m).toArray⟩) w := by
  have hs : (ByteArray.mk q.toArray).size = q.length := by simp [ByteArray.size]
  rw [run_slice_string_l (P := Try.prog) w _ _ Try.underlying9 .i64 m (by omega) (by rw [hs]; omega), ByteArray.extract_mk, hs, List.take_of_length_le (by simp)]
  simp

theorem room_at {w p d} {s1 : Nat} {q} (h : Buf w p d (s1 + 1) q) :
    Calls Try.prog 13 #[.pointer (some ⟨p, 0, none⟩)] w fun e w' => e = .returned (.int .i64 ((s1 : Int) + 1 - q.length)) ∧ w.drew = w' := by
  have := room_any h
  rwa [show (((s1 + 1 : Nat) : Int) - q.length) = ((s1 : Int) + 1 - q.length) by omega] at this

set_option maxRecDepth 4000 in
set_option maxHeartbeats 3200000 in
theorem runs_main (w : World) (size : Int) (a : Option Addr) (n c : Nat) (hP : ∀ i, i < n → ∃ b off u bs z, Pair w a i b off u bs z) (h2 : n ≤ 200) :
    Calls Try.prog 3 #[.int .i64 size, .slice a n c] w (RunsPost w) := by
  obtain ⟨s1, hs1, hs2⟩ : ∃ n : Nat, bits .and .i64 size 31 = (n : Int) ∧ n < 32 := ⟨(size % 32).toNat, by rw [show (31 : Int) = 2 ^ 5 - 1 from rfl, and_mask _ _ (by omega)]; omega, by omega⟩
  have HP := Lib.hid hP
  clear hP
  go_enter Try.func3, Try.ntmps3
  go_wp2_with fail
  refine (fit_any w).mono ?_
  rintro e w1 ⟨rfl, hM1⟩
  have HM1 := Lib.hid hM1
  clear hM1
  go_wp2_with fail
  refine (new_some _ _ (by omega) (by omega)).mono ?_
  rintro e w2 ⟨p, d, rfl, hB, hp, hd, hM2⟩
  have hz1 := HM1.out.size
  have hp0 : w.heap.size ≤ p := by omega
  have hd0 : w.heap.size ≤ d := by omega
  have HB : Hid (Buf w2 p d (s1 + 1) []) := by
    have : ((s1 : Int) + 1).toNat = s1 + 1 := by omega
    rw [this] at hB; exact hB
  have HM := Lib.hid (HM1.out.trans hM2)
  clear hB hM2 hs1
  go_wp2_with fail
  go_loopw [6, 23] (fun g i wr => ∃ (k : Nat) (q : List UInt8), k ≤ n ∧ i = .int .i64 k ∧ g = .string ⟨q.toArray⟩ ∧ Buf wr p d (s1 + 1) q ∧ Mod [] w wr) (fun _ i _ => n - (intOf i).toNat)
  case atStart => exact ⟨0, [], Nat.zero_le _, rfl, rfl, HB.out, HM.out⟩
  case round =>
    clear HB HM
    obtain ⟨k, q, hk, rfl, rfl, hB, hM⟩ := hrel
    have hw := hM.size
    have hl := hB.lt
    have hle := hB.le
    have HBr := Lib.hid hB
    have HMr := Lib.hid hM
    by_cases hlt : k < n
    · obtain ⟨b, off, u, bs, z, hPr⟩ := HP.out k hlt
      obtain ⟨rfl, hb0, c0, c1, hsl, hwf⟩ := hPr
      obtain ⟨av, cv, rfl, hlv, hA⟩ := hsl.open
      rw [vb_length] at *
      have c0' : wr.cell? ⟨b, off + k * 2, none⟩ = some (.slice av bs.length cv) := by rw [hM.cell hb0 (by simp)]; exact c0
      have c1' : wr.cell? ⟨b, off + k * 2 + 1, none⟩ = some (.int .i64 z) := by rw [hM.cell hb0 (by simp)]; exact c1
      have HS := Lib.hid hsl
      have HA := Lib.hid hA
      clear hB hM hsl hA c0 c1
      by_cases hlen : bs.length ≤ 200
      · have hlen' : decide ((200 : Int) < bs.length) = false := by simp; omega
        by_cases hz : 0 < z ∨ z < -50
        · obtain ⟨m, hm⟩ : ∃ m : Nat, (m : Int) = min (max z 0) q.length := ⟨(min (max z 0) q.length).toNat, by omega⟩
          have hmx : ∀ w : World, (Builtin.max_ #[3, 3] 3 #[.int .i64 z, .int .i64 0]).run Try.prog w = .ok (.int .i64 (max z 0)) w := fun w => by
            show Result.ok (Value.int .i64 (if 0 > z then 0 else z)) w = _
            congr 2; omega
          have hmn : ∀ w : World, (Builtin.min_ #[3, 3] 3 #[.int .i64 (max z 0), .int .i64 q.length]).run Try.prog w = .ok (.int .i64 m) w := fun w => by
            show Result.ok (Value.int .i64 (if (q.length : Int) < max z 0 then (q.length : Int) else max z 0)) w = _
            congr 2; rw [hm]; omega
          have hmq : m ≤ q.length := by omega
          have hto := fun w => str_to w q m hmq
          have hfrom := fun w => str_from w q m hmq
          have hself : ((ByteArray.mk (q.take m).toArray).toList == (ByteArray.mk (q.take m).toArray).toList) = true := by simp
          have Hm := Lib.hid hm
          clear hm
          by_cases hz1 : 0 < z
          · have hz2 : decide (0 < z) = true := by simp; omega
            go_wp2_with fail
            refine wp_region_lex (by kernel_rfl) (by kernel_rfl) ?_
            go_wp2_with fail
            refine (take_any ((HBr.out.mod ((Mod.refl [] _).alloc _) (by simp) (by simp)).mod (Mod.refl [] _).drew (by simp) (by simp)) _ m Hm.out).mono ?_
            rintro e w4 ⟨v4, rfl, ho4, hB4, hM4⟩
            obtain ⟨a4, k4, rfl⟩ := own_slice ho4
            have hcv4 := own_str (P := Try.prog) ho4 Try.underlying26 Try.underlying5 Try.underlying9
            have HB4 := Lib.hid hB4
            have HM4 := Lib.hid ((HMr.out.alloc (.cells #[.slice av bs.length cv, .int .i64 z] 28)).drew.trans' hM4 (by simp; omega))
            clear hB4 hM4 ho4
            go_wp2_with fail
            refine ⟨by kernel_rfl, ?_⟩
            go_wp2_with fail
            refine (len_any HB4.out).mono ?_
            rintro e w5 ⟨rfl, rfl⟩
            go_wp2_with fail
            refine (room_at HB4.out).mono ?_
            rintro e w5 ⟨rfl, rfl⟩
            go_wp2_with fail
            go_roundw
            case rel => exact ⟨k + 1, q.drop m, by omega, by go_num, rfl, HB4.out.mod (Mod.refl [] _).drew (by simp) (by simp), HM4.out.drew⟩
            case measure => simp [intOf]; omega
          · have hz2 : decide (0 < z) = false := by simp; omega
            have hz3 : decide (z < -50) = true := by simp; omega
            go_wp2_with fail
            refine wp_region_lex (by kernel_rfl) (by kernel_rfl) ?_
            go_wp2_with fail
            refine (take_any ((HBr.out.mod ((Mod.refl [] _).alloc _) (by simp) (by simp)).mod (Mod.refl [] _).drew (by simp) (by simp)) _ m Hm.out).mono ?_
            rintro e w4 ⟨v4, rfl, ho4, hB4, hM4⟩
            obtain ⟨a4, k4, rfl⟩ := own_slice ho4
            have hcv4 := own_str (P := Try.prog) ho4 Try.underlying26 Try.underlying5 Try.underlying9
            have HB4 := Lib.hid hB4
            have HM4 := Lib.hid ((HMr.out.alloc (.cells #[.slice av bs.length cv, .int .i64 z] 28)).drew.trans' hM4 (by simp; omega))
            clear hB4 hM4 ho4
            go_wp2_with fail
            refine ⟨by kernel_rfl, ?_⟩
            go_wp2_with fail
            refine (len_any HB4.out).mono ?_
            rintro e w5 ⟨rfl, rfl⟩
            go_wp2_with fail
            refine (room_at HB4.out).mono ?_
            rintro e w5 ⟨rfl, rfl⟩
            go_wp2_with fail
            go_roundw
            case rel => exact ⟨k + 1, q.drop m, by omega, by go_num, rfl, HB4.out.mod (Mod.refl [] _).drew (by simp) (by simp), HM4.out.drew⟩
            case measure => simp [intOf]; omega
        · have hz2 : decide (0 < z) = false := by simp; omega
          have hz3 : decide (z < -50) = false := by simp; omega
          have hown : ∀ c, (Value.slice av bs.length cv).ownBlock = some c → c < w.heap.size ∨ bs.length = 0 := by
            intro c hc
            by_cases h0 : bs.length = 0
            · exact .inr h0
            · obtain ⟨b', off', rfl, hb', _⟩ := HA.out 0 (by first | omega | (simp; omega))
              simp [Value.ownBlock] at hc; left; omega
          have HO := Lib.hid hown
          clear hown
          by_cases hok : q.length + bs.length ≤ s1 + 1
          · have hok1 : decide ((q.length : Int) + bs.length ≤ s1 + 1) = true := by simp; omega
            have hsz : (ByteArray.mk q.toArray).size + (ByteArray.mk bs.toArray).size ≤ 9223372036854775807 := by
              simp [ByteArray.size]; omega
            have hadd : ∀ w, (Op.stringOp .add (ByteArray.mk q.toArray) (ByteArray.mk bs.toArray)).run Try.prog w = .ok (.string ⟨(q ++ bs).toArray⟩) w := fun w => by
              rw [run_string_add_sum (P := Try.prog) w (ByteArray.mk q.toArray) (ByteArray.mk bs.toArray) hsz, ByteArray.mk_append_mk]
            go_wp2_with fail
            refine (put_yes (HBr.out.mod ((Mod.refl [] _).alloc _) (by simp) (by simp)) _ bs (HS.out.mod (HMr.out.alloc _) (by simp)) (fun c hc => by have := HO.out c hc; omega) hok).mono ?_
            rintro e w4 ⟨rfl, hB4, hM4⟩
            have HB4 := Lib.hid hB4
            have HM4 := Lib.hid ((HMr.out.alloc (.cells #[.slice av bs.length cv, .int .i64 z] 28)).trans' hM4 (by simp; omega))
            have hc4 : w4.cell? ⟨wr.heap.size, 0, none⟩ = some (.slice av bs.length cv) := by
              rw [hM4.cell (by simp) (by simp; omega)]; exact World.cell?_alloc_at _ _ _ _ rfl
            have hcv4 := run_str (P := Try.prog) (HS.out.mod HM4.out (by simp)) Try.underlying26 Try.underlying5 Try.underlying9
            clear hB4 hM4
            go_wp2_with fail
            refine (len_any HB4.out).mono ?_
            rintro e w5 ⟨rfl, rfl⟩
            go_wp2_with fail
            refine (room_at HB4.out).mono ?_
            rintro e w5 ⟨rfl, rfl⟩
            go_wp2_with fail
            go_roundw
            case rel => exact ⟨k + 1, q ++ bs, by omega, by go_num, rfl, HB4.out.mod (Mod.refl [] _).drew (by simp) (by simp), HM4.out.drew⟩
            case measure => simp [intOf]; omega
          · have hok1 : decide ((q.length : Int) + bs.length ≤ s1 + 1) = false := by simp; omega
            go_wp2_with fail
            refine (put_no (HBr.out.mod ((Mod.refl [] _).alloc _) (by simp) (by simp)) _ _ (HS.out.mod (HMr.out.alloc _) (by simp)) (by simp; omega)).mono ?_
            rintro e w4 ⟨rfl, rfl⟩
            have HB4 : Hid (Buf ((wr.alloc (.cells #[.slice av bs.length cv, .int .i64 z] 28)).drew) p d (s1 + 1) q) := HBr.out.mod ((Mod.refl [] wr).alloc _).drew (by simp) (by simp)
            have HM4 := Lib.hid ((HMr.out.alloc (.cells #[.slice av bs.length cv, .int .i64 z] 28)).drew)
            go_wp2_with fail
            refine (len_any HB4.out).mono ?_
            rintro e w5 ⟨rfl, rfl⟩
            go_wp2_with fail
            refine (room_at HB4.out).mono ?_
            rintro e w5 ⟨rfl, rfl⟩
            go_wp2_with fail
            go_roundw
            case rel => exact ⟨k + 1, q, by omega, by go_num, rfl, HB4.out.mod (Mod.refl [] _).drew (by simp) (by simp), HM4.out.drew⟩
            case measure => simp [intOf]; omega
      · have hlen' : decide ((200 : Int) < bs.length) = true := by simp; omega
        go_wp2_with fail
        go_ret
        exact ⟨rfl, HMr.out.alloc _⟩
    · obtain rfl : k = n := by omega
      clear hB hM
      go_wp2_with fail
      refine (take_any HBr.out _ q.length (by omega)).mono ?_
      rintro e w4 ⟨v4, rfl, ho4, hB4, hM4⟩
      rw [List.take_length] at ho4
      rw [List.drop_length] at hB4
      obtain ⟨a4, k4, rfl⟩ := own_slice ho4
      have hcv4 := own_str (P := Try.prog) ho4 Try.underlying26 Try.underlying5 Try.underlying9
      have hself : ((ByteArray.mk q.toArray).toList == (ByteArray.mk q.toArray).toList) = true := by simp
      have HB4 := Lib.hid hB4
      have HM4 := Lib.hid (HMr.out.trans' hM4 (by simp; omega))
      clear hB4 hM4 ho4
      go_wp2_with fail
      refine (len_any HB4.out).mono ?_
      rintro e w5 ⟨rfl, rfl⟩
      go_wp2_with fail
      go_ret
      exact ⟨rfl, HM4.out⟩

theorem runs_walk (w : World) (size : Int) (hs : (Lit.int .i64 size).wf = true) (a : Option Addr) (n c : Nat) (hn : n ≤ maxLen) (hP : ∀ i, i < n → ∃ b off u bs z, Pair w a i b off u bs z) :
    Calls Try.prog 3 #[.int .i64 size, .slice a n c] w fun e w' => e = .returned (.bool true) ∧ Mod [] w w' := by
  unfold maxLen at hn
  by_cases h2 : n ≤ 200
  · exact runs_main w size a n c hP h2
  · obtain ⟨s1, hs1, hs2⟩ : ∃ n : Nat, bits .and .i64 size 31 = (n : Int) ∧ n < 32 := ⟨(size % 32).toNat, by rw [show (31 : Int) = 2 ^ 5 - 1 from rfl, and_mask _ _ (by omega)]; omega, by omega⟩
    have h4 : decide ((200 : Int) < n) = true := by simp; omega
    clear hP h2 hs
    go_enter Try.func3, Try.ntmps3
    go_wp2_with fail
    refine (fit_any w).mono ?_
    rintro e w1 ⟨rfl, hM1⟩
    have HM1 := Lib.hid hM1
    clear hM1
    go_wp2
    go_ret
    exact ⟨rfl, HM1.out⟩
end Go.Proofs.Ytlhkdikmhhhloaa.Out
