/- outbuf's laws: OutbufRound. -/
import Derived.Test.YtlhkdikmhhhloaaOutLaw1
import Derived.Test.YtlhkdikmhhhloaaHeld
namespace Go.Proofs.Ytlhkdikmhhhloaa.Out
open Go Go.RowKit Go.YtlhkdikmhhhloaaMem Go.YtlhkdikmhhhloaaLex
set_option linter.unusedVariables false
set_option linter.unusedSimpArgs false

theorem mk_bytes (n : Nat) (hn : n ≤ 1000000) (w : World) : (Instr.makeSlice 26 (.int .i64 (n : Int)) (.int .i64 (n : Int))).run Try.prog w = .ok (.slice (some ⟨w.heap.size, 0, none⟩) n n) (w.alloc (.cells (vb (List.replicate n 0)).toArray 5)) := by
  obtain ⟨i, hi, hz⟩ : ∃ i, Try.prog.info? 5 = some i ∧ i.zero = some (.int .u8 0) ∧ i.size = 1 ∧ i.bytes = 1 := ⟨_, rfl, rfl, rfl, rfl⟩
  rw [run_make (P := Try.prog) (w := w) 26 5 i _ Try.underlying26 hi hz.1 .i64 .i64 n n (by omega) (by omega) (by rw [hz.2.2]; omega) (by omega)]
  have : madeCells (Value.int IntKind.u8 0).cells ((n : Int).toNat * i.size) = (vb (List.replicate n 0)).toArray := by
    rw [hz.2.1, Nat.mul_one, Int.toNat_natCast]
    apply Array.ext'
    rw [show (Value.int IntKind.u8 0).cells = #[Value.int .u8 0] from rfl, toList_madeCells_one]
    simp [vb]
  rw [this, Int.toNat_natCast]

def TruePost (w : World) (e : Ending) (w' : World) : Prop := e = .returned (.bool true) ∧ Mod [] w w'

set_option maxHeartbeats 3200000 in
theorem round_main (w : World) (size n : Int) (b off cap : Nat) (bs : List UInt8) (hS : Sl w (.slice (some ⟨b, off, none⟩) bs.length cap) (vb bs)) (hc1 : bs.length ≤ cap) (hc3 : b < w.heap.size)
    (hcell : ∀ i u, (vb bs)[i]? = some u → w.cell? ⟨b, off + i, none⟩ = some u) (h0 : 1 ≤ bs.length) (h2 : bs.length ≤ 100) (hcm : cap ≤ 9223372036854775807) :
    Calls Try.prog 4 #[.int .i64 size, .int .i64 n, .slice (some ⟨b, off, none⟩) bs.length cap] w (TruePost w) := by
  obtain ⟨s1, hs1, hs2⟩ : ∃ n : Nat, bits .and .i64 size 7 = (n : Int) ∧ n < 8 := ⟨(size % 8).toNat, by rw [show (7 : Int) = 2 ^ 3 - 1 from rfl, and_mask _ _ (by omega)]; omega, by omega⟩
  obtain ⟨n1, hn1, hn2⟩ : ∃ m : Nat, bits .and .i64 n 127 = (m : Int) ∧ m < 128 := ⟨(n % 128).toNat, by rw [show (127 : Int) = 2 ^ 7 - 1 from rfl, and_mask _ _ (by omega)]; omega, by omega⟩
  have hb0 : ((bs.length : Int) == 0) = false := by simp; intro h; simp [h] at h0
  have HS := Lib.hid hS
  have HC := Lib.hid hcell
  clear hS hcell
  go_enter Try.func4, Try.ntmps4
  go_wp2_with fail
  refine (fit_any w).mono ?_
  rintro e w1 ⟨rfl, hM1⟩
  have HM1 := Lib.hid hM1
  clear hM1
  go_wp2_with fail
  refine (new_some _ _ (by omega) (by omega)).mono ?_
  rintro e w2 ⟨p, d, rfl, hB, hp, hd, hM2⟩
  have hz1 := HM1.out.size
  have hp0 : w.heap.size ≤ p := by omega
  have hd0 : w.heap.size ≤ d := by omega
  have HB : Hid (Buf w2 p d (bs.length + s1) []) := by
    have : ((bs.length : Int) + s1).toNat = bs.length + s1 := by omega
    rw [this] at hB; exact hB
  have HM := Lib.hid (HM1.out.trans hM2)
  clear hB hM2 hs1 hn1 hb0
  go_wp2_with fail
  go_loopw [28] (fun i wr => ∃ k : Nat, k ≤ n1 ∧ i = .int .i64 k ∧ Buf wr p d (bs.length + s1) [] ∧ Mod [] w wr) (fun i _ => n1 - (intOf i).toNat)
  case atStart => exact ⟨0, Nat.zero_le _, rfl, HB.out, HM.out⟩
  case round =>
    clear HB HM
    obtain ⟨k, hk, rfl, hB, hM⟩ := hrel
    have hw := hM.size
    have hl := hB.lt
    have HBr := Lib.hid hB
    have HMr := Lib.hid hM
    clear hB hM
    by_cases hlt : k < n1
    · go_wp2_with fail
      refine wp_region_held [3, 6, 7, 12, 5] [22, 39] [p, d] (by kernel_rfl) (by kernel_rfl) ?_
      simp only [wpCut, List.take_succ_cons, List.take_zero, List.drop_succ_cons, List.drop_zero]
      go_wp2_with fail
      refine (put_yes (HBr.out.mod (Mod.refl [] _).drew (by simp) (by simp)) _ bs (HS.out.mod HMr.out.drew (by simp)) (fun c hc => by simp [Value.ownBlock] at hc; omega) (by simp)).mono ?_
      rintro e w3 ⟨rfl, hB3, hM3⟩
      have HB3 : Hid (Buf w3 p d (bs.length + s1) bs) := hB3
      have HM3 := Lib.hid hM3
      have hmk := mk_bytes (bs.length + s1) (by omega) w3
      have ecast : (((bs.length + s1 : Nat)) : Int) = (bs.length : Int) + s1 := by omega
      rw [ecast] at hmk
      clear hB3 hM3 ecast
      go_wp2_with fail
      refine ⟨HM3.out, ?_⟩
      go_wp2_with fail
      have hl3 := HB3.out.lt
      refine (put_no (HB3.out.mod ((Mod.refl [] _).alloc _) (by simp) (by simp)) _ (vb (List.replicate (bs.length + s1) 0)) ?_ (by simp; omega)).mono ?_
      · have := Sl.new w3 (vb (List.replicate (bs.length + s1) 0)) 5 (by simp [maxLen]; omega)
        rw [vb_length, List.length_replicate] at this; exact this
      rintro e w4 ⟨rfl, rfl⟩
      have HB4 : Hid (Buf ((w3.alloc (.cells (vb (List.replicate (bs.length + s1) 0)).toArray 5)).drew) p d (bs.length + s1) bs) := HB3.out.mod ((Mod.refl [] _).alloc _).drew (by simp) (by simp)
      have HM4 := Lib.hid ((HM3.out.alloc (.cells (vb (List.replicate (bs.length + s1) 0)).toArray 5)).drew)
      clear hmk
      go_wp2_with fail
      refine ⟨HM4.out, ?_⟩
      go_wp2_with fail
      refine (take_any HB4.out _ (bs.length - 1) (by omega)).mono ?_
      rintro e w5 ⟨v5, rfl, ho5, hB5, hM5⟩
      obtain ⟨a5, k5, rfl⟩ := own_slice ho5
      have hcv5 := own_str (P := Try.prog) ho5 Try.underlying26 Try.underlying5 Try.underlying9
      have HM5 := Lib.hid (HM4.out.trans hM5)
      have HB5 := Lib.hid hB5
      clear hB5 hM5 ho5
      go_wp2_with fail
      refine ⟨HM5.out, ?_⟩
      have hmw : Mod [p, d] w w5 := (HMr.out.mono (by simp)).trans ((Mod.refl [p, d] wr).drew.trans HM5.out)
      have hcell5 : ∀ i u, (vb bs)[i]? = some u → w5.cell? ⟨b, off + i, none⟩ = some u := fun i u hu => by
        rw [hmw.cell hc3 (by simp; omega)]; exact HC.out i u hu
      have hb5 : b < w5.heap.size := hmw.lt hc3
      have hcs := run_str (P := Try.prog) (Sl.part (i := 0) (m := bs.length - 1) hb5 hcell5 (by omega) (show bs.length - 1 ≤ cap by omega) (by unfold maxLen; omega)) Try.underlying26 Try.underlying5 Try.underlying9
      rw [Nat.add_zero, List.drop_zero] at hcs
      have hbb : ((ByteArray.mk (bs.take (bs.length - 1)).toArray).toList == (ByteArray.mk (bs.take (bs.length - 1)).toArray).toList) = true := by simp
      have HMW := Lib.hid hmw
      have HC5 := Lib.hid hcell5
      clear hmw hcell5
      go_wp2_with fail
      refine (len_any HB5.out).mono ?_
      rintro e w6 ⟨rfl, rfl⟩
      have hl1 : (bs.drop (bs.length - 1)).length = 1 := by simp; omega
      rw [hl1]
      have HL1 := Lib.hid hl1
      clear hl1 hcs hcv5 hbb
      go_wp2_with fail
      refine ⟨HM5.out, ?_⟩
      go_wp2_with fail
      refine (take_any HB5.out 9 1 (by rw [HL1.out]; omega)).mono ?_
      rintro e w7 ⟨v7, rfl, ho7, hB7, hM7⟩
      obtain ⟨a7, k7, rfl⟩ := own_slice ho7
      rw [List.take_of_length_le (by rw [HL1.out]; omega)] at ho7
      rw [List.drop_of_length_le (by rw [HL1.out]; omega)] at hB7
      have hcv7 := own_str (P := Try.prog) ho7 Try.underlying26 Try.underlying5 Try.underlying9
      have HM7 := Lib.hid (HM5.out.trans hM7)
      have HB7 := Lib.hid hB7
      have hmw : Mod [p, d] w w7 := HMW.out.trans hM7
      have hcell7 : ∀ i u, (vb bs)[i]? = some u → w7.cell? ⟨b, off + i, none⟩ = some u := fun i u hu => by
        rw [hmw.cell hc3 (by simp; omega)]; exact HC.out i u hu
      have hb7 : b < w7.heap.size := hmw.lt hc3
      have hcs := run_str (P := Try.prog) (Sl.part (i := bs.length - 1) (m := bs.length - (bs.length - 1)) hb7 hcell7 (by omega) (show bs.length - (bs.length - 1) ≤ cap - (bs.length - 1) by omega) (by unfold maxLen; omega)) Try.underlying26 Try.underlying5 Try.underlying9
      rw [List.take_of_length_le (by rw [HL1.out]; omega)] at hcs
      have hbb : ((ByteArray.mk (bs.drop (bs.length - 1)).toArray).toList == (ByteArray.mk (bs.drop (bs.length - 1)).toArray).toList) = true := by simp
      have hne : ¬ cap = bs.length - 1 := by omega
      clear hB7 hM7 ho7 hmw hcell7
      go_wp2_with fail
      refine ⟨HM7.out, ?_⟩
      have hisc : IsC wr.drew b := ((isC_of_cell (HC.out 0 _ (vb_at (List.getElem?_eq_getElem (show 0 < bs.length by omega))))).mod HMr.out (by simp)).drew
      have hbn : b ∉ [p, d] := by simp; omega
      go_wp2_with fail
      refine ⟨by kernel_rfl, ⟨.inr ⟨hbn, hisc⟩, .inr ⟨hbn, hisc⟩, trivial⟩, ?_⟩
      go_wp2_with fail
      go_roundw
      case rel => exact ⟨k + 1, by omega, by go_num, HB7.out, HMr.out.drew.trans' HM7.out (by simp; omega)⟩
      case measure => simp [intOf]; omega
    · obtain rfl : k = n1 := by omega
      go_wp2_with fail
      refine (len_any HBr.out).mono ?_
      rintro e w3 ⟨rfl, rfl⟩
      go_wp2_with fail
      refine (room_any HBr.out).mono ?_
      rintro e w3 ⟨rfl, rfl⟩
      have he : ((((bs.length + s1 : Nat) : Int) - (([] : List UInt8).length : Int)) == (bs.length : Int) + s1) = true := by simp
      go_wp2
      go_ret
      exact ⟨rfl, HMr.out.drew⟩

theorem round_walk (w : World) (size : Int) (hs : (Lit.int .i64 size).wf = true) (n : Int) (hn : (Lit.int .i64 n).wf = true) (v : Value) (bs : List UInt8) (hv : Sl w v (vb bs)) :
    Calls Try.prog 4 #[.int .i64 size, .int .i64 n, v] w fun e w' => e = .returned (.bool true) ∧ Mod [] w w' := by
  have hl := hv.len
  rw [vb_length] at hl
  unfold maxLen at hl
  by_cases h1 : 1 ≤ bs.length ∧ bs.length ≤ 100
  · have hv' := hv
    rcases hv with ⟨hn, av, capv, rfl⟩ | ⟨b, off, cap, rfl, hc1, hc2, hc3, hcell⟩
    · have : (vb bs).length = 0 := by rw [hn]; rfl
      rw [vb_length] at this; omega
    · rw [vb_length] at *
      exact round_main w size n b off cap bs hv' hc1 hc3 hcell h1.1 h1.2 (by unfold maxLen at hc2; omega)
  · obtain ⟨a, c, rfl, _, _⟩ := hv.open
    rw [vb_length]
    clear hv hs hn
    by_cases h0 : bs.length = 0
    · rw [h0]
      go_enter Try.func4, Try.ntmps4
      go_wp2_with fail
      refine (fit_any w).mono ?_
      rintro e w1 ⟨rfl, hM1⟩
      have HM1 := Lib.hid hM1
      clear hM1
      go_wp2
      go_ret
      exact ⟨rfl, HM1.out⟩
    · have h3 : ((bs.length : Int) == 0) = false := by simp; intro h; simp [h] at h0
      have h4 : decide ((100 : Int) < bs.length) = true := by simp; omega
      clear h0 h1
      go_enter Try.func4, Try.ntmps4
      go_wp2_with fail
      refine (fit_any w).mono ?_
      rintro e w1 ⟨rfl, hM1⟩
      have HM1 := Lib.hid hM1
      clear hM1
      go_wp2
      go_ret
      exact ⟨rfl, HM1.out⟩
end Go.Proofs.Ytlhkdikmhhhloaa.Out
