/- outbuf's laws: OutbufNone. -/
import Derived.Test.YtlhkdikmhhhloaaOutLaw1
import Derived.Test.YtlhkdikmhhhloaaHeld
namespace Go.Proofs.Ytlhkdikmhhhloaa.Out
open Go Go.RowKit Go.YtlhkdikmhhhloaaMem Go.YtlhkdikmhhhloaaLex
set_option linter.unusedVariables false
set_option linter.unusedSimpArgs false

theorem put_nil_yes (w : World) (a : Option Addr) (c : Nat) :
    Calls Try.prog 11 #[.pointer none, .slice a 0 c] w fun e w' => e = .returned (.bool true) ∧ w = w' := by
  go_enter Try.func11, Try.ntmps11
  go_wp2_with fail
  refine (room_nil _).mono ?_
  rintro e w' ⟨rfl, rfl⟩
  go_wp2
  refine wp_loop_once ?_
  go_wp2
  go_ret
  exact ⟨rfl, rfl⟩
theorem put_nil_no (w : World) (a : Option Addr) (n c : Nat) (h : n ≠ 0) :
    Calls Try.prog 11 #[.pointer none, .slice a n c] w fun e w' => e = .returned (.bool false) ∧ w = w' := by
  have h1 : (0 : Int) < n := by omega
  clear h
  go_enter Try.func11, Try.ntmps11
  go_wp2_with fail
  refine (room_nil _).mono ?_
  rintro e w' ⟨rfl, rfl⟩
  go_wp2
  go_ret
  exact ⟨rfl, rfl⟩
theorem put_nil (w : World) (a : Option Addr) (n c : Nat) :
    Calls Try.prog 11 #[.pointer none, .slice a n c] w fun e w' => e = .returned (.bool ((n : Int) == 0)) ∧ w = w' := by
  by_cases h : n = 0
  · subst h; exact put_nil_yes w a c
  · rw [show ((n : Int) == 0) = false by simp; omega]; exact put_nil_no w a n c h
theorem take_nil (w : World) (n : Int) (h : 0 ≤ n) :
    Calls Try.prog 10 #[.pointer none, .int .i64 n] w fun e w' => e = .returned (.slice none 0 0) ∧ w = w' := by
  have hmx : ∀ w : World, (Builtin.max_ #[3, 3] 3 #[.int .i64 n, .int .i64 0]).run Try.prog w = .ok (.int .i64 n) w := fun w => by
    show Result.ok (Value.int .i64 (if 0 > n then 0 else n)) w = _
    congr 2; omega
  have hmn : ∀ w : World, (Builtin.min_ #[3, 3] 3 #[.int .i64 n, .int .i64 0]).run Try.prog w = .ok (.int .i64 0) w := fun w => by
    show Result.ok (Value.int .i64 (if (0 : Int) < n then (0 : Int) else n)) w = _
    congr 2; omega
  go_enter Try.func10, Try.ntmps10
  go_wp2_with fail
  refine (len_nil _).mono ?_
  rintro e w' ⟨rfl, rfl⟩
  go_wp2
  refine wp_loop_once ?_
  go_wp2
  go_ret
  exact ⟨rfl, rfl⟩

def NonePost (w : World) (e : Ending) (w' : World) : Prop := e = .returned (.bool true) ∧ Mod [] w w'

set_option maxHeartbeats 3200000 in
theorem none_main (w : World) (size : Int) (a : Option Addr) (c : Nat) (bs : List UInt8) (hS : Sl w (.slice a bs.length c) (vb bs)) (hA : ∀ k, k < (vb bs).length → At w a (vb bs) k) (h2 : bs.length ≤ 100) :
    Calls Try.prog 7 #[.int .i64 size, .slice a bs.length c] w (NonePost w) := by
  have HS := Lib.hid hS
  have HC := Lib.hid hA
  have hown : ∀ e, (Value.slice a bs.length c).ownBlock = some e → e < w.heap.size ∨ bs.length = 0 := by
    intro e he
    by_cases h0 : bs.length = 0
    · exact .inr h0
    · obtain ⟨b, off, rfl, hb, _⟩ := hA 0 (by simp; omega)
      simp [Value.ownBlock] at he; left; omega
  have HO := Lib.hid hown
  obtain ⟨zs, hzs⟩ : ∃ zs : List Int, zs = [size, size.tmod 10, 65536, 65537] := ⟨_, rfl⟩
  have hzl : zs.length = 4 := by rw [hzs]; rfl
  clear hA hS hown
  go_enter Try.func7, Try.ntmps7
  go_wp2_with fail
  refine (fit_any w).mono ?_
  rintro e w1 ⟨rfl, hM1⟩
  have HM1 := Lib.hid hM1
  clear hM1
  go_wp2_with fail
  have HL : Hid (Blk (w1.alloc (.cells #[.int .i64 size, .int .i64 (size.tmod 10), .int .i64 65536, .int .i64 65537] 3)) w1.heap.size 3 (zs.map (Value.int .i64))) := by
    have := Blk.new w1 (zs.map (Value.int .i64)) 3
    rw [hzs] at this ⊢; exact this
  have hw1 := HM1.out.size
  go_loopw [19] (fun i wr => ∃ k : Nat, k ≤ 4 ∧ i = .int .i64 k ∧ Blk wr w1.heap.size 3 (zs.map (Value.int .i64)) ∧ Mod [] w wr) (fun i _ => 4 - (intOf i).toNat)
  case atStart => exact ⟨0, Nat.zero_le _, rfl, HL.out, HM1.out.alloc _⟩
  case round =>
    clear HL
    obtain ⟨k, hk, rfl, hL, hM⟩ := hrel
    by_cases hlt : k < 4
    · have hcell : wr.cell? ⟨w1.heap.size, k, none⟩ = some (.int .i64 (zs[k]'(by omega))) := by
        exact hL.cell (by simp [show k < zs.length by omega])
      generalize zs[k]'(by omega) = z at hcell
      have HLr := Lib.hid hL
      have HMr := Lib.hid hM
      clear hL hM hzs
      by_cases hz : 1 ≤ z ∧ z ≤ 65536
      · obtain ⟨hz1, hz2⟩ := hz
        go_wp2_with fail
        refine (new_some z _ (by omega) (by omega)).mono ?_
        rintro e w2 ⟨p, d, rfl, hB, hp, hd, hM2⟩
        have HM2 := Lib.hid hM2
        clear hB hM2
        go_wp2_with fail
        go_roundw
        case rel => exact ⟨k + 1, by omega, by go_num, HM2.out.blk HLr.out (by simp), HMr.out.trans HM2.out⟩
        case measure => simp [intOf]; omega
      · by_cases hz1 : 1 ≤ z
        · have hz2 : ¬ z ≤ 65536 := by omega
          go_wp2_with fail
          refine (new_none z _ (by omega)).mono ?_
          rintro e w2 ⟨rfl, rfl⟩
          clear hz
          go_wp2_with fail
          go_roundw
          case rel => exact ⟨k + 1, by omega, by go_num, HLr.out, HMr.out⟩
          case measure => simp [intOf]; omega
        · go_wp2_with fail
          refine (new_none z _ (by omega)).mono ?_
          rintro e w2 ⟨rfl, rfl⟩
          clear hz
          go_wp2_with fail
          go_roundw
          case rel => exact ⟨k + 1, by omega, by go_num, HLr.out, HMr.out⟩
          case measure => simp [intOf]; omega
    · obtain rfl : k = 4 := by omega
      have HMr := Lib.hid hM
      have hwr := hM.size
      clear hL hM hzs hzl
      go_wp2_with fail
      refine (new_some 100 _ (by omega) (by omega)).mono ?_
      rintro e w3 ⟨p, d, rfl, hB, hp, hd, hM3⟩
      have hp0 : w.heap.size ≤ p := by omega
      have hd0 : w.heap.size ≤ d := by omega
      have HB3 : Hid (Buf w3 p d 100 []) := hB
      have HM3 := Lib.hid (HMr.out.trans hM3)
      clear hB hM3
      go_wp2_with fail
      refine (put_yes HB3.out _ bs (HS.out.mod HM3.out (by simp)) (fun c hc => by have := HO.out c hc; omega) (by simp; omega)).mono ?_
      rintro e w4 ⟨rfl, hB4, hM4⟩
      have HB4 : Hid (Buf w4 p d 100 bs) := hB4
      have HM4 := Lib.hid (HM3.out.trans' hM4 (by simp; omega))
      clear hB4 hM4
      go_wp2_with fail
      refine (clear_any HB4.out).mono ?_
      rintro e w5 ⟨rfl, hB5, hM5⟩
      have HB5 := Lib.hid hB5
      have HM5 := Lib.hid (HM4.out.trans' hM5 (by simp; omega))
      clear hB5 hM5
      go_wp2_with fail
      refine (clear_nil _).mono ?_
      rintro e w5' ⟨rfl, rfl⟩
      go_wp2_with fail
      refine wp_region_held [2, 5, 4] [13] [p, d] (by kernel_rfl) (by kernel_rfl) ?_
      simp only [wpCut, List.take_succ_cons, List.take_zero, List.drop_succ_cons, List.drop_zero]
      go_wp2_with fail
      refine (len_any (HB5.out.mod (Mod.refl [] _).drew (by simp) (by simp))).mono ?_
      rintro e w6 ⟨rfl, rfl⟩
      go_wp2_with fail
      refine ⟨Mod.refl _ _, ?_⟩
      go_wp2_with fail
      refine (put_yes (HB5.out.mod (Mod.refl [] _).drew (by simp) (by simp)) _ bs (HS.out.mod HM5.out.drew (by simp)) (fun c hc => by have := HO.out c hc; omega) (by simp; omega)).mono ?_
      rintro e w6 ⟨rfl, hB6, hM6⟩
      have HB6 : Hid (Buf w6 p d 100 bs) := hB6
      have HM6 := Lib.hid hM6
      clear hB6 hM6
      go_wp2_with fail
      refine ⟨HM6.out, ?_⟩
      go_wp2_with fail
      refine (take_any HB6.out 100 bs.length (by omega)).mono ?_
      rintro e w7 ⟨v7, rfl, ho7, hB7, hM7⟩
      rw [List.take_length] at ho7
      obtain ⟨a7, k7, rfl⟩ := own_slice ho7
      have hcv7 := own_str (P := Try.prog) ho7 Try.underlying26 Try.underlying5 Try.underlying9
      have hM67 := HM6.out.trans hM7
      have hcb7 := run_str (P := Try.prog) ((HS.out.mod HM5.out.drew (by simp)).mod hM67 (fun c hc => by rw [vb_length]; have := HO.out c hc; simp only [List.mem_cons, List.not_mem_nil, or_false, not_or]; omega)) Try.underlying26 Try.underlying5 Try.underlying9
      have hbs : ((ByteArray.mk bs.toArray).toList == (ByteArray.mk bs.toArray).toList) = true := by simp
      have HM67 := Lib.hid hM67
      have HM7 := Lib.hid (HM5.out.drew.trans' hM67 (by simp; omega))
      have hheld : heldV [p, d] w5.drew (.slice a bs.length c) := by
        by_cases h0 : bs.length = 0
        · rw [h0]; cases a <;> first | trivial | exact .inl rfl
        · obtain ⟨b, off, rfl, hb, hcell⟩ := HC.out 0 (by simp; omega)
          refine .inr ⟨by simp; omega, ?_⟩
          have := hcell 0 _ (vb_at (List.getElem?_eq_getElem (show 0 < bs.length by omega)))
          exact ((isC_of_cell this).mod HM5.out (by simp)).drew
      clear ho7 hB7 hM7 hM67
      go_wp2_with fail
      refine ⟨HM67.out, ?_⟩
      go_wp2_with fail
      refine (len_nil _).mono ?_
      rintro e w8 ⟨rfl, rfl⟩
      go_wp2_with fail
      refine (room_nil _).mono ?_
      rintro e w8 ⟨rfl, rfl⟩
      go_wp2_with fail
      refine (put_nil _ _ _ _).mono ?_
      rintro e w8 ⟨rfl, rfl⟩
      go_wp2_with fail
      refine (take_nil _ 5 (by omega)).mono ?_
      rintro e w8 ⟨rfl, rfl⟩
      go_wp2_with fail
      refine ⟨by kernel_rfl, ⟨hheld, trivial⟩, ?_⟩
      go_wp2_with fail
      go_ret
      exact ⟨rfl, HM7.out⟩

theorem none_walk (w : World) (size : Int) (hs : (Lit.int .i64 size).wf = true) (v : Value) (bs : List UInt8) (hv : Sl w v (vb bs)) :
    Calls Try.prog 7 #[.int .i64 size, v] w fun e w' => e = .returned (.bool true) ∧ Mod [] w w' := by
  obtain ⟨a, c, rfl, hl, hA⟩ := hv.open
  rw [vb_length] at hv hl ⊢
  unfold maxLen at hl
  by_cases h2 : bs.length ≤ 100
  · exact none_main w size a c bs hv hA h2
  · have h4 : decide ((100 : Int) < bs.length) = true := by simp; omega
    clear hv hA h2
    go_enter Try.func7, Try.ntmps7
    go_wp2_with fail
    refine (fit_any w).mono ?_
    rintro e w1 ⟨rfl, hM1⟩
    have HM1 := Lib.hid hM1
    clear hM1
    go_wp2
    go_ret
    exact ⟨rfl, HM1.out⟩
end Go.Proofs.Ytlhkdikmhhhloaa.Out
