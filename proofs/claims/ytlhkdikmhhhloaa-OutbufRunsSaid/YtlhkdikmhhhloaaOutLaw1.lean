/- outbuf's laws: the example, and OutbufOnes. -/
import Derived.Test.YtlhkdikmhhhloaaOut
namespace Go.Proofs.Ytlhkdikmhhhloaa.Out
open Go Go.RowKit Go.YtlhkdikmhhhloaaMem Go.YtlhkdikmhhhloaaLex
set_option linter.unusedVariables false
set_option linter.unusedSimpArgs false

theorem Sl.new (w : World) (xs : List Value) (T : TypeId) (hl : xs.length ≤ maxLen) : Sl (w.alloc (.cells xs.toArray T)) (.slice (some ⟨w.heap.size, 0, none⟩) xs.length xs.length) xs :=
  .inr ⟨w.heap.size, 0, xs.length, rfl, Nat.le_refl _, hl, by simp, fun i u hu => by rw [Nat.zero_add]; exact (Blk.new w xs T).cell hu⟩

set_option maxHeartbeats 400000 in
theorem fit_any (w : World) : Calls Try.prog 8 #[] w fun e w' => e = .returned (.bool true) ∧ Mod [] w w' := by
  go_enter Try.func8, Try.ntmps8
  go_wp2_with fail
  refine (new_some 2 _ (by omega) (by omega)).mono ?_
  rintro e w1 ⟨p, d, rfl, hB, hp, hd, hM⟩
  have HB := Lib.hid hB
  have HM := Lib.hid hM
  have hlt := hB.lt
  clear hB hM
  go_wp2_with fail
  refine (put_no (HB.out.mod ((Mod.refl [] w1).alloc _) (by simp) (by simp)) _ [.int .u8 1, .int .u8 2, .int .u8 3] (Sl.new w1 _ 5 (by simp [maxLen])) (by simp)).mono ?_
  rintro e w2 ⟨rfl, rfl⟩
  go_wp2_with fail
  have hB2 := HB.out.mod (((Mod.refl [] w1).alloc (.cells #[.int .u8 1, .int .u8 2, .int .u8 3] 5)).alloc (.cells #[.int .u8 1] 5)).drew (by simp) (by simp)
  have hS2 : Sl ((w1.alloc (.cells #[.int .u8 1, .int .u8 2, .int .u8 3] 5)).alloc (.cells #[.int .u8 1] 5)).drew (.slice (some ⟨w1.heap.size + 1, 0, none⟩) 1 1) (vb [1]) := by
    have := Sl.new (w1.alloc (.cells #[.int .u8 1, .int .u8 2, .int .u8 3] 5)) (vb [1]) 5 (by simp [maxLen, vb])
    have e : (w1.alloc (.cells #[.int .u8 1, .int .u8 2, .int .u8 3] 5)).heap.size = w1.heap.size + 1 := by simp
    rw [e] at this
    exact this.heap rfl
  refine (put_yes hB2 _ [1] hS2 (fun b hb => by simp [Value.ownBlock] at hb; omega) (by simp)).mono ?_
  rintro e w3 ⟨rfl, hB3, hM3⟩
  have HB3 := Lib.hid hB3
  have HM3 := Lib.hid hM3
  clear hB2 hS2 hB3 hM3
  go_wp2_with fail
  refine (len_any HB3.out).mono ?_
  rintro e w4 ⟨rfl, rfl⟩
  go_wp2_with fail
  refine (room_any HB3.out).mono ?_
  rintro e w4 ⟨rfl, rfl⟩
  go_wp2
  go_ret
  refine ⟨rfl, ?_⟩
  have hs := HM.out.size
  exact ((((HM.out.alloc _).drew.alloc _).trans' HM3.out (by simp; omega))).drew

theorem take_min_succ {bs : List UInt8} {k N : Nat} (hk : k < bs.length) (hN : k < N) : bs.take (min k N) ++ [bs[k]] = bs.take (min (k + 1) N) := by
  rw [Nat.min_eq_left (by omega), Nat.min_eq_left (by omega), List.take_succ_eq_append_getElem hk]

set_option maxHeartbeats 1600000 in
theorem ones_main (w : World) (size : Int) (b off cap : Nat) (bs : List UInt8) (hc1 : bs.length ≤ cap) (hc2 : cap ≤ maxLen) (hc3 : b < w.heap.size) (hcell : ∀ i u, (vb bs)[i]? = some u → w.cell? ⟨b, off + i, none⟩ = some u) (h2 : bs.length ≤ 200) :
    Calls Try.prog 6 #[.int .i64 size, .slice (some ⟨b, off, none⟩) bs.length cap] w fun e w' => e = .returned (.bool true) ∧ Mod [] w w' := by
  obtain ⟨n, hn, hn1⟩ : ∃ n : Nat, bits .and .i64 size 63 = (n : Int) ∧ n < 64 := ⟨(size % 64).toNat, by rw [show (63 : Int) = 2 ^ 6 - 1 from rfl, and_mask _ _ (by omega)]; omega, by omega⟩
  have HC := Lib.hid hcell
  unfold maxLen at hc2
  clear hcell
  go_enter Try.func6, Try.ntmps6
  go_wp2_with fail
  refine (fit_any w).mono ?_
  rintro e w1 ⟨rfl, hM1⟩
  have HM1 := Lib.hid hM1
  clear hM1
  go_wp2_with fail
  refine (new_some _ _ (by omega) (by omega)).mono ?_
  rintro e w2 ⟨p, d, rfl, hB, hp, hd, hM2⟩
  have hs1 := HM1.out.size
  have hp0 : w.heap.size ≤ p := by omega
  have hd0 : w.heap.size ≤ d := by omega
  have HB : Hid (Buf w2 p d (n + 1) []) := by
    have : ((n : Int) + 1).toNat = n + 1 := by omega
    rw [this] at hB; exact hB
  have HM := Lib.hid (HM1.out.trans hM2)
  clear hB hM2 hn
  go_wp2_with fail
  go_loopw [23] (fun i wr => ∃ k : Nat, k ≤ bs.length ∧ i = .int .i64 k ∧ Buf wr p d (n + 1) (bs.take (min k (n + 1))) ∧ Mod [] w wr) (fun i _ => bs.length - (intOf i).toNat)
  case atStart => exact ⟨0, Nat.zero_le _, rfl, by simpa using HB.out, HM.out⟩
  case round =>
    obtain ⟨k, hk, rfl, hB, hM⟩ := hrel
    by_cases hlt : k < bs.length
    · have hby : wr.cell? ⟨b, off + k, none⟩ = some (.int .u8 bs[k].toNat) := by
        rw [hM.cell hc3 (by simp)]; exact HC.out k _ (vb_at (List.getElem?_eq_getElem hlt))
      have hw := hM.size
      have HB := Lib.hid hB
      have HM := Lib.hid hM
      have hpd := hB.lt
      clear hB hM
      by_cases hkn : k < n + 1
      · have hdc : decide ((k : Int) < (n : Int) + 1) = true := by simp; omega
        go_wp2_with fail
        refine (put_yes (q := bs.take (min k (n + 1))) (HB.out.mod ((Mod.refl [] wr).alloc _) (by simp) (by simp)) _ [bs[k]] (Sl.new wr (vb [bs[k]]) 5 (by simp [maxLen, vb])) (fun b hb => by simp [Value.ownBlock] at hb; omega) (by simp; omega)).mono ?_
        rintro e w3 ⟨rfl, hB3, hM3⟩
        have HB3 := Lib.hid hB3
        have HM3 := Lib.hid hM3
        clear hB3 hM3
        go_wp2_with fail
        go_roundw
        case rel =>
          refine ⟨k + 1, by omega, by go_num, ?_, ?_⟩
          · have := HB3.out; rw [take_min_succ hlt hkn] at this; exact this
          · exact (HM.out.alloc _).trans' HM3.out (by simp; omega)
        case measure => simp [intOf]; omega
      · have hdc : decide ((k : Int) < (n : Int) + 1) = false := by simp; omega
        go_wp2_with fail
        refine (put_no (q := bs.take (min k (n + 1))) (HB.out.mod ((Mod.refl [] wr).alloc _) (by simp) (by simp)) _ (vb [bs[k]]) (Sl.new wr (vb [bs[k]]) 5 (by simp [maxLen, vb])) (by simp; omega)).mono ?_
        rintro e w3 ⟨rfl, rfl⟩
        go_wp2_with fail
        go_roundw
        case rel =>
          refine ⟨k + 1, by omega, by go_num, ?_, (HM.out.alloc _).drew⟩
          rw [show min (k + 1) (n + 1) = min k (n + 1) by omega]
          exact HB.out.mod ((Mod.refl [] wr).alloc _).drew (by simp) (by simp)
        case measure => simp [intOf]; omega
    · obtain rfl : k = bs.length := by omega
      obtain ⟨m, hm⟩ : ∃ m, m = min bs.length (n + 1) := ⟨_, rfl⟩
      rw [← hm] at hB
      have hql : (bs.take m).length = m := by simp; omega
      have hmn : ∀ w : World, (Builtin.min_ #[3, 3] 3 #[.int .i64 ((n : Int) + 1), .int .i64 bs.length]).run Try.prog w = .ok (.int .i64 m) w := fun w => by
        show Result.ok (Value.int .i64 (if (bs.length : Int) < (n : Int) + 1 then (bs.length : Int) else (n : Int) + 1)) w = _
        congr 2; rw [hm]; omega
      have hm1 : m ≤ bs.length := by omega
      have hm2 : m ≤ n + 1 := by omega
      have HB := Lib.hid hB
      have HM := Lib.hid hM
      have HL := Lib.hid hql
      have hw := hM.size
      clear hB hM hql hm
      go_wp2_with fail
      refine (len_any HB.out).mono ?_
      rintro e w3 ⟨rfl, rfl⟩
      rw [HL.out]
      clear hmn
      have b1 : ((m : Int) != (m : Int)) = false := by simp
      go_wp2_with fail
      refine (room_any HB.out).mono ?_
      rintro e w3 ⟨rfl, rfl⟩
      rw [HL.out]
      have b2 : (((n + 1 : Nat) : Int) - (m : Int) != (n : Int) + 1 - (m : Int)) = false := by simp
      go_wp2_with fail
      clear b1 b2
      go_loopw [54] (fun i wq => ∃ k : Nat, k ≤ m ∧ i = .int .i64 k ∧ Buf wq p d (n + 1) ((bs.take m).drop k) ∧ Mod [] w wq) (fun i _ => m - (intOf i).toNat)
      case atStart => exact ⟨0, Nat.zero_le _, rfl, by simpa using HB.out.mod (Mod.refl [] wr).drew (by simp) (by simp), HM.out.drew⟩
      case round =>
        clear HB HM
        obtain ⟨k, hk, rfl, hB, hM⟩ := hrel
        have hdl : ((bs.take m).drop k).length = m - k := by simp; omega
        by_cases hlt : k < m
        · have hby : wr.cell? ⟨b, off + k, none⟩ = some (.int .u8 bs[k].toNat) := by
            rw [hM.cell hc3 (by simp)]; exact HC.out k _ (vb_at (List.getElem?_eq_getElem (by omega)))
          have hd1 : (bs.take m).drop k = bs[k] :: (bs.take m).drop (k + 1) := by
            rw [List.drop_eq_getElem_cons (by simp; omega)]; simp
          have HB := Lib.hid hB
          have HM := Lib.hid hM
          have HD := Lib.hid hd1
          have HL := Lib.hid hdl
          have hs3 := hM.size
          have hbl := hB.lt
          clear hB hM hd1 hdl
          go_wp2_with fail
          refine (take_any HB.out 1 1 (by rw [HL.out]; omega)).mono ?_
          rintro e w4 ⟨v, rfl, ho4, hB4, hM4⟩
          obtain ⟨g, cp, rfl, hg1, hg2, hg3⟩ := own_one ho4 (by omega)
          have hx : w4.cell? ⟨g, 0, none⟩ = some (.int .u8 bs[k].toNat) := hg3 0 _ (by rw [HD.out]; simp [vb])
          have hM4' := HM.out.trans' hM4 (by simp; omega)
          have hy : w4.cell? ⟨b, off + k, none⟩ = some (.int .u8 bs[k].toNat) := by
            rw [hM4'.cell hc3 (by simp)]; exact HC.out k _ (vb_at (List.getElem?_eq_getElem (by omega)))
          have HB4 := Lib.hid hB4
          have HM4 := Lib.hid hM4'
          clear hB4 hM4 hM4' ho4 hg3 hby
          go_wp2
          refine wp_region_lex (by kernel_rfl) (by kernel_rfl) ?_
          go_wp2
          refine ⟨by kernel_rfl, ?_⟩
          go_wp2
          go_roundw
          case rel =>
            refine ⟨k + 1, by omega, by go_num, ?_, HM4.out.drew⟩
            have := HB4.out
            rw [List.drop_drop] at this
            exact this.mod (Mod.refl [] _).drew (by simp) (by simp)
          case measure => simp [intOf]; omega
        · obtain rfl : k = m := by omega
          have HB := Lib.hid hB
          have HM := Lib.hid hM
          have HL := Lib.hid hdl
          have hs3 := hM.size
          clear hB hM hdl
          go_wp2_with fail
          refine (take_any HB.out 1 0 (by rw [HL.out]; omega)).mono ?_
          rintro e w4 ⟨v, rfl, ho4, hB4, hM4⟩
          have HM4 := Lib.hid (HM.out.trans' hM4 (by simp; omega))
          have ho5 := own_zero ho4
          clear hB4 hM4 ho4
          rcases ho5 with rfl | ⟨g, cp, rfl⟩
          · go_wp2
            go_ret
            exact ⟨rfl, HM4.out⟩
          · go_wp2
            go_ret
            exact ⟨rfl, HM4.out⟩

theorem ones_walk (w : World) (size : Int) (hs : (Lit.int .i64 size).wf = true) (v : Value) (bs : List UInt8) (hv : Sl w v (vb bs)) :
    Calls Try.prog 6 #[.int .i64 size, v] w fun e w' => e = .returned (.bool true) ∧ Mod [] w w' := by
  have hl := hv.len
  rw [vb_length] at hl
  unfold maxLen at hl
  rcases hv with ⟨hn, av, capv, rfl⟩ | ⟨b, off, cap, rfl, hc1, hc2, hc3, hcell⟩
  · clear hs
    obtain ⟨n, hn, hn1⟩ : ∃ n : Nat, bits .and .i64 size 63 = (n : Int) ∧ n < 64 := ⟨(size % 64).toNat, by rw [show (63 : Int) = 2 ^ 6 - 1 from rfl, and_mask _ _ (by omega)]; omega, by omega⟩
    have hmn : ∀ w : World, (Builtin.min_ #[3, 3] 3 #[.int .i64 ((n : Int) + 1), .int .i64 0]).run Try.prog w = .ok (.int .i64 0) w := fun w => by
      show Result.ok (Value.int .i64 (if (0 : Int) < (n : Int) + 1 then 0 else (n : Int) + 1)) w = _
      rw [if_pos (by omega)]
    go_enter Try.func6, Try.ntmps6
    go_wp2_with fail
    refine (fit_any w).mono ?_
    rintro e w1 ⟨rfl, hM1⟩
    have HM1 := Lib.hid hM1
    clear hM1
    go_wp2_with fail
    refine (new_some _ _ (by omega) (by omega)).mono ?_
    rintro e w2 ⟨p, d, rfl, hB, hp, hd, hM2⟩
    have hs1 := HM1.out.size
    have HB : Hid (Buf w2 p d (n + 1) []) := by
      have : ((n : Int) + 1).toNat = n + 1 := by omega
      rw [this] at hB; exact hB
    have HM := Lib.hid (HM1.out.trans hM2)
    clear hB hM2 hn
    go_wp2_with fail
    refine wp_loop_once ?_
    go_wp2_with fail
    refine (len_any HB.out).mono ?_
    rintro e w3 ⟨rfl, rfl⟩
    go_wp2_with fail
    refine (room_any HB.out).mono ?_
    rintro e w3 ⟨rfl, rfl⟩
    go_wp2_with fail
    refine wp_loop_once ?_
    go_wp2_with fail
    refine (take_any (HB.out.mod (Mod.refl [] _).drew (by simp) (by simp)) 1 0 (by simp; omega)).mono ?_
    rintro e w4 ⟨v, rfl, ho4, hB4, hM4⟩
    have HM4 := Lib.hid (HM.out.drew.trans' hM4 (by simp; omega))
    have ho5 := own_zero ho4
    clear hB4 hM4 ho4
    rcases ho5 with rfl | ⟨g, cp, rfl⟩
    · go_wp2
      go_ret
      exact ⟨rfl, HM4.out⟩
    · go_wp2
      go_ret
      exact ⟨rfl, HM4.out⟩
  · rw [vb_length] at *
    by_cases h2 : bs.length ≤ 200
    · exact ones_main w size b off cap bs hc1 hc2 hc3 hcell h2
    · have h3 : (200 : Int) < bs.length := by omega
      clear hcell hs
      go_enter Try.func6, Try.ntmps6
      go_wp2_with fail
      refine (fit_any w).mono ?_
      rintro e w1 ⟨rfl, hM1⟩
      have HM1 := Lib.hid hM1
      clear hM1
      go_wp2
      go_ret
      exact ⟨rfl, HM1.out⟩
end Go.Proofs.Ytlhkdikmhhhloaa.Out
