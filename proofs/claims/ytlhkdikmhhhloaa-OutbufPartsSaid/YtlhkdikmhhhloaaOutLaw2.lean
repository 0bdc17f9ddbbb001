/- outbuf's laws: OutbufParts. -/
import Derived.Test.YtlhkdikmhhhloaaOutLaw1
import Derived.Test.YtlhkdikmhhhloaaHeld
namespace Go.Proofs.Ytlhkdikmhhhloaa.Out
open Go Go.RowKit Go.YtlhkdikmhhhloaaMem Go.YtlhkdikmhhhloaaLex
set_option linter.unusedVariables false
set_option linter.unusedSimpArgs false

/-- The first loop: byte by byte into the second place. The second: parts of the first. What is common to all shapes of the arguments. -/
def PartsPost (w : World) (e : Ending) (w' : World) : Prop := e = .returned (.bool true) ∧ Mod [] w w'

set_option maxHeartbeats 3200000 in
theorem parts_main (w : World) (a1 : Option Addr) (c1 : Nat) (bs : List UInt8) (hS : Sl w (.slice a1 bs.length c1) (vb bs)) (hA : ∀ k, k < (vb bs).length → At w a1 (vb bs) k) (h2 : bs.length ≤ 200)
    (a2 : Option Addr) (c2 : Nat) (zs : List Int) (hA2 : ∀ k, k < (zs.map (Value.int .i64)).length → At w a2 (zs.map (Value.int .i64)) k) (h3 : zs.length ≤ 100) :
    Calls Try.prog 5 #[.slice a1 bs.length c1, .slice a2 zs.length c2] w (PartsPost w) := by
  have HS := Lib.hid hS
  have HC := Lib.hid hA
  have HC' := Lib.hid hA2
  have hown : ∀ c, (Value.slice a1 bs.length c1).ownBlock = some c → c < w.heap.size ∨ bs.length = 0 := by
    intro c hc
    by_cases h0 : bs.length = 0
    · exact .inr h0
    · obtain ⟨b, off, rfl, hb, _⟩ := hA 0 (by simp; omega)
      simp [Value.ownBlock] at hc; left; omega
  have HO := Lib.hid hown
  clear hA hA2 hS hown
  go_enter Try.func5, Try.ntmps5
  go_wp2_with fail
  refine (fit_any w).mono ?_
  rintro e w1 ⟨rfl, hM1⟩
  have HM1 := Lib.hid hM1
  clear hM1
  go_wp2_with fail
  refine (new_some 200 _ (by omega) (by omega)).mono ?_
  rintro e w2 ⟨p, d, rfl, hB, hp, hd, hM2⟩
  have hs1 := HM1.out.size
  have hp0 : w.heap.size ≤ p := by omega
  have hd0 : w.heap.size ≤ d := by omega
  have HB : Hid (Buf w2 p d 200 []) := hB
  have HM := Lib.hid (HM1.out.trans hM2)
  have hpl := hB.lt
  clear hB hM2
  go_wp2_with fail
  refine (new_some 200 _ (by omega) (by omega)).mono ?_
  rintro e w3 ⟨p', d', rfl, hB', hp', hd', hM3⟩
  have hs2 := HM.out.size
  have hpl' := hB'.lt
  have hs3 := hM3.size
  have HB2 : Hid (Buf w3 p d 200 []) := HB.out.mod hM3 (by simp) (by simp)
  have HB' : Hid (Buf w3 p' d' 200 []) := hB'
  have HM3 := Lib.hid (HM.out.trans hM3)
  clear hB' hM3
  go_wp2_with fail
  refine (put_yes HB2.out _ bs (HS.out.mod HM3.out (by simp)) (fun c hc => by have := HO.out c hc; omega) (by simp; omega)).mono ?_
  rintro e w4 ⟨rfl, hB4, hM4⟩
  have HB4 : Hid (Buf w4 p d 200 bs) := hB4
  have HB4' : Hid (Buf w4 p' d' 200 []) := HB'.out.mod hM4 (by simp; omega) (by simp; omega)
  have HM4 := Lib.hid (HM3.out.trans' hM4 (by simp; omega))
  clear hB4 hM4
  go_wp2_with fail
  go_loopw [29] (fun i wr => ∃ k : Nat, k ≤ bs.length ∧ i = .int .i64 k ∧ Buf wr p d 200 bs ∧ Buf wr p' d' 200 (bs.take k) ∧ Mod [] w wr) (fun i _ => bs.length - (intOf i).toNat)
  case atStart => exact ⟨0, Nat.zero_le _, rfl, HB4.out, by simpa using HB4'.out, HM4.out⟩
  case round =>
    obtain ⟨k, hk, rfl, hB, hB', hM⟩ := hrel
    by_cases hlt : k < bs.length
    · obtain ⟨b, off, rfl, hc3, hcell⟩ := HC.out k (by rw [vb_length]; exact hlt)
      have hby : wr.cell? ⟨b, off + k, none⟩ = some (.int .u8 bs[k].toNat) := by
        rw [hM.cell hc3 (by simp)]; exact hcell k _ (vb_at (List.getElem?_eq_getElem hlt))
      clear hcell
      have hw := hM.size
      have hl' := hB'.lt
      have hl := hB.lt
      have HBa := Lib.hid hB
      have HBb := Lib.hid hB'
      have HMr := Lib.hid hM
      clear hB hB' hM
      go_wp2_with fail
      refine (put_yes (HBb.out.mod ((Mod.refl [] wr).alloc _) (by simp) (by simp)) _ [bs[k]] (Sl.new wr (vb [bs[k]]) 5 (by simp [maxLen, vb])) (fun b hb => by simp [Value.ownBlock] at hb; omega) (by simp; omega)).mono ?_
      rintro e w5 ⟨rfl, hB5, hM5⟩
      have HB5 := Lib.hid hB5
      have HB5' : Hid (Buf w5 p d 200 bs) := (HBa.out.mod ((Mod.refl [] wr).alloc (.cells #[.int .u8 bs[k].toNat] 5)) (by simp) (by simp)).mod hM5 (by simp; omega) (by simp; omega)
      have HM5 := Lib.hid ((HMr.out.alloc (.cells #[.int .u8 bs[k].toNat] 5)).trans' hM5 (by simp; omega))
      clear hB5 hM5
      go_wp2_with fail
      go_roundw
      case rel =>
        refine ⟨k + 1, by omega, by go_num, HB5'.out, ?_, HM5.out⟩
        have := HB5.out
        rw [← List.take_succ_eq_append_getElem hlt] at this; exact this
      case measure => simp [intOf]; omega
    · obtain rfl : k = bs.length := by omega
      rw [List.take_length] at hB'
      have HBa := Lib.hid hB
      have HBb := Lib.hid hB'
      have HMr := Lib.hid hM
      clear hB hB' hM
      go_wp2_with fail
      go_loopw [9, 40] (fun g i wq => ∃ k j : Nat, k ≤ zs.length ∧ j ≤ bs.length ∧ i = .int .i64 k ∧ g = .string ⟨(bs.take j).toArray⟩ ∧ Buf wq p d 200 (bs.drop j) ∧ Buf wq p' d' 200 bs ∧ Mod [] w wq) (fun _ i _ => zs.length - (intOf i).toNat)
      case atStart => exact ⟨0, 0, Nat.zero_le _, Nat.zero_le _, rfl, by simp, by simpa using HBa.out, HBb.out, HMr.out⟩
      case round =>
        clear HBa HBb HMr
        obtain ⟨k, j, hk, hj, rfl, rfl, hB, hB', hM⟩ := hrel
        have HBa := Lib.hid hB
        have HBb := Lib.hid hB'
        have HMr := Lib.hid hM
        have hw := hM.size
        have hdl : (bs.drop j).length = bs.length - j := by simp
        have HL := Lib.hid hdl
        clear hdl
        by_cases hlt : k < zs.length
        · obtain ⟨b', off', rfl, hd3, hcell⟩ := HC'.out k (by simp; exact hlt)
          have hby : wr.cell? ⟨b', off' + k, none⟩ = some (.int .i64 zs[k]) := by
            rw [hM.cell hd3 (by simp)]; exact hcell k _ (by simp [hlt])
          clear hcell
          obtain ⟨n1, hn1, hn2⟩ : ∃ n1 : Nat, bits .and .i64 zs[k] 31 = (n1 : Int) ∧ n1 < 32 := ⟨(zs[k] % 32).toNat, by rw [show (31 : Int) = 2 ^ 5 - 1 from rfl, and_mask _ _ (by omega)]; omega, by omega⟩
          clear hB hB' hM
          go_wp2_with fail
          refine (take_any HBa.out n1 (min n1 (bs.length - j)) (by rw [HL.out]; omega)).mono ?_
          rintro e w5 ⟨v, rfl, ho, hB5, hM5⟩
          have hcv := own_str (P := Try.prog) ho Try.underlying26 Try.underlying5 Try.underlying9
          have hsz : (ByteArray.mk (bs.take j).toArray).size + (ByteArray.mk ((bs.drop j).take (min n1 (bs.length - j))).toArray).size ≤ 9223372036854775807 := by
            simp [ByteArray.size]; omega
          have hadd := fun w => run_string_add_sum (P := Try.prog) w (ByteArray.mk (bs.take j).toArray) (ByteArray.mk ((bs.drop j).take (min n1 (bs.length - j))).toArray) hsz
          have HB5 := Lib.hid hB5
          have HB5' : Hid (Buf w5 p' d' 200 bs) := HBb.out.mod hM5 (by simp; omega) (by simp; omega)
          have HM5 := Lib.hid (HMr.out.trans' hM5 (by simp; omega))
          clear hB5 hM5 ho hn1 hby
          go_wp2_with fail
          go_roundw
          case rel =>
            refine ⟨k + 1, j + min n1 (bs.length - j), by omega, by omega, by go_num, ?_, ?_, HB5'.out, HM5.out⟩
            · rw [ByteArray.mk_append_mk, List.take_add]
            · have := HB5.out; rw [List.drop_drop] at this; exact this
          case measure => simp [intOf]; omega
        · obtain rfl : k = zs.length := by omega
          clear hB hB' hM
          go_wp2_with fail
          refine (take_any HBa.out 1048576 (bs.length - j) (by rw [HL.out]; omega)).mono ?_
          rintro e w5 ⟨v, rfl, ho, hB5, hM5⟩
          have hcv := own_str (P := Try.prog) ho Try.underlying26 Try.underlying5 Try.underlying9
          have hsz : (ByteArray.mk (bs.take j).toArray).size + (ByteArray.mk ((bs.drop j).take (bs.length - j)).toArray).size ≤ 9223372036854775807 := by
            simp [ByteArray.size]; omega
          have hadd : ∀ w, (Op.stringOp .add (ByteArray.mk (bs.take j).toArray) (ByteArray.mk ((bs.drop j).take (bs.length - j)).toArray)).run Try.prog w = .ok (.string ⟨bs.toArray⟩) w := fun w => by
            rw [run_string_add_sum (P := Try.prog) w (ByteArray.mk (bs.take j).toArray) (ByteArray.mk ((bs.drop j).take (bs.length - j)).toArray) hsz, ByteArray.mk_append_mk, ← List.take_add, Nat.add_sub_cancel' hj, List.take_length]
          have HB5 : Hid (Buf w5 p d 200 []) := by
            have := hB5; rw [List.drop_of_length_le (by simp)] at this; exact this
          have HB5' : Hid (Buf w5 p' d' 200 bs) := HBb.out.mod hM5 (by simp; omega) (by simp; omega)
          have HM5 := Lib.hid (HMr.out.trans' hM5 (by simp; omega))
          have hM50 := HMr.out.trans' hM5 (by simp; omega)
          have hcb := run_str (P := Try.prog) ((HS.out.mod hM50 (by simp)).heap (w' := w5.drew) rfl) Try.underlying26 Try.underlying5 Try.underlying9
          have hbs : ((ByteArray.mk bs.toArray).toList == (ByteArray.mk bs.toArray).toList) = true := by simp
          clear hB5 hM5 ho hM50
          go_wp2_with fail
          refine wp_region_held [7] [9] [p', d'] (by kernel_rfl) (by kernel_rfl) ?_
          simp only [wpCut, List.take_succ_cons, List.take_zero, List.drop_succ_cons, List.drop_zero]
          go_wp2_with fail
          refine (take_any (HB5'.out.mod (Mod.refl [] _).drew (by simp) (by simp)) 200 bs.length (by omega)).mono ?_
          rintro e w6 ⟨v6, rfl, ho6, hB6, hM6⟩
          rw [List.take_length] at ho6
          obtain ⟨a6, k6, rfl⟩ := own_slice ho6
          have hcv6 := own_str (P := Try.prog) ho6 Try.underlying26 Try.underlying5 Try.underlying9
          have hcb6 := run_str (P := Try.prog) ((HS.out.mod HM5.out (by simp)).mod ((Mod.refl [p', d'] w5).drew.trans hM6) (fun c hc => by rw [vb_length]; have := HO.out c hc; simp only [List.mem_cons, List.not_mem_nil, or_false, not_or]; omega)) Try.underlying26 Try.underlying5 Try.underlying9
          have HM6 := Lib.hid hM6
          have HB6 : Hid (Buf w6 p d 200 []) := (HB5.out.mod (Mod.refl [] _).drew (by simp) (by simp)).mod hM6 (by simp; omega) (by simp; omega)
          clear hM6 hB6 ho6 hcv hcb
          go_wp2_with fail
          refine ⟨HM6.out, ?_⟩
          have hheld : heldV [p', d'] w5.drew (.slice a1 bs.length c1) := by
            by_cases h0 : bs.length = 0
            · rw [h0]; cases a1 <;> first | trivial | exact .inl rfl
            · obtain ⟨b, off, rfl, hb, hcell⟩ := HC.out 0 (by simp; omega)
              refine .inr ⟨by simp; omega, ?_⟩
              have := hcell 0 _ (vb_at (List.getElem?_eq_getElem (show 0 < bs.length by omega)))
              exact ((isC_of_cell this).mod HM5.out (by simp)).drew
          go_wp2_with fail
          refine (take_any HB6.out (-1) 0 (by simp; omega)).mono ?_
          rintro e w7 ⟨v7, rfl, ho7, hB7, hM7⟩
          have HM7 := Lib.hid ((HM5.out.drew.trans' HM6.out (by simp; omega)).trans' hM7 (by simp; omega))
          obtain ⟨a7, k7, rfl⟩ := own_slice ho7
          have hln := run_len (P := Try.prog) (Sl.own ho7) (ty := 3) Try.underlying26
          clear hB7 hM7 ho7
          go_wp2_with fail
          refine ⟨by kernel_rfl, ⟨hheld, trivial⟩, ?_⟩
          go_wp2_with fail
          go_ret
          exact ⟨rfl, HM7.out⟩

theorem parts_walk (w : World) (v1 : Value) (bs : List UInt8) (h1 : Sl w v1 (vb bs)) (v2 : Value) (zs : List Int) (h2 : Sl w v2 (zs.map (Value.int .i64))) (hw : ∀ n ∈ zs, (Lit.int .i64 n).wf = true) :
    Calls Try.prog 5 #[v1, v2] w fun e w' => e = .returned (.bool true) ∧ Mod [] w w' := by
  obtain ⟨a1, c1, rfl, hl1, hA1⟩ := h1.open
  obtain ⟨a2, c2, rfl, hl2, hA2⟩ := h2.open
  rw [vb_length] at h1 hl1 ⊢
  rw [List.length_map] at h2 hl2 ⊢
  unfold maxLen at hl1 hl2
  by_cases h3 : bs.length ≤ 200 ∧ zs.length ≤ 100
  · exact parts_main w a1 c1 bs h1 hA1 h3.1 a2 c2 zs hA2 h3.2
  · clear h1 h2 hA1 hA2
    by_cases h4 : bs.length ≤ 200
    · have h5 : (100 : Int) < zs.length := by omega
      have h6 : decide ((200 : Int) < bs.length) = false := by simp; omega
      clear h3
      go_enter Try.func5, Try.ntmps5
      go_wp2_with fail
      refine (fit_any w).mono ?_
      rintro e w1 ⟨rfl, hM1⟩
      have HM1 := Lib.hid hM1
      clear hM1
      go_wp2
      go_ret
      exact ⟨rfl, HM1.out⟩
    · have h6 : decide ((200 : Int) < bs.length) = true := by simp; omega
      clear h3
      go_enter Try.func5, Try.ntmps5
      go_wp2_with fail
      refine (fit_any w).mono ?_
      rintro e w1 ⟨rfl, hM1⟩
      have HM1 := Lib.hid hM1
      clear hM1
      go_wp2
      go_ret
      exact ⟨rfl, HM1.out⟩
end Go.Proofs.Ytlhkdikmhhhloaa.Out
