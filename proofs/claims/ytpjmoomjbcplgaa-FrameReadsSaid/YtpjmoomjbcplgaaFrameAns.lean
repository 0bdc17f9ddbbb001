/- frame: the bytes of faults and of answers. -/
import Derived.Test.YtpjmoomjbcplgaaFrame
namespace Go.Proofs.Ytpjmoomjbcplgaa.Frame
open Go Go.RowKit Go.YtpjmoomjbcplgaaMem Go.YtpjmoomjbcplgaaLex
set_option linter.unusedVariables false
set_option linter.unusedSimpArgs false

/-- A number as its 64 bits. -/
def u64 (x : Int) : Nat := (x % 18446744073709551616).toNat
theorem u64_lt (x : Int) : u64 x < 18446744073709551616 := by unfold u64; omega
theorem u64_wrap (x : Int) : IntKind.u64.wrap x = (u64 x : Int) := by
  have h1 : (2 : Int) ^ IntKind.u64.bits = 18446744073709551616 := by decide
  have h2 : IntKind.u64.signed = false := rfl
  unfold IntKind.wrap u64
  simp only [h1, h2, Bool.false_and, Bool.false_eq_true, if_false]
  omega

theorem faulted_any (w : World) (e : Int) : Calls Try.prog 17 #[.int .i64 e] w (Fresh w (frame 0xA8 [255, b8 e])) := by
  have hlit : OwnB (w.alloc (.cells #[.int .u8 255, .int .u8 (e % 256)] 5)) w.heap.size (.slice (some ⟨w.heap.size, 0, none⟩) 2 2) [255, b8 e] :=
    own_new [255, b8 e] _ (by simp [vb, ← b8_val]) (by simp) rfl (by simp)
  have HL := Lib.hid hlit
  clear hlit
  go_enter Try.func17, Try.ntmps17
  go_wp2_with fail
  refine (whole_any 0xA8 (Sl.own HL.out) (by simp) (by simp)).mono ?_
  rintro e1 w1 ⟨v1, rfl, ho1, hM1⟩
  have O1 := Lib.hid ho1
  have M1 := Lib.hid (((Mod.refl [] w).alloc _).trans hM1)
  clear ho1 hM1
  go_wp2_with fail
  go_ret
  exact ⟨_, rfl, own_base O1.out (by simp), M1.out⟩

set_option maxRecDepth 4000 in
set_option maxHeartbeats 1600000 in
theorem answered_any (w : World) (op v r t : Int) :
    Calls Try.prog 19 #[.int .i64 op, .agg #[.int .i64 v, .int .i64 r, .int .i64 t]] w (Fresh w (frame 0xA8 ([b8 (bits .or .i64 op 128), b8 v] ++ be 8 (u64 r) ++ be 8 (u64 t)))) := by
  obtain ⟨o, ho⟩ : ∃ o, o = bits .or .i64 op 128 := ⟨_, rfl⟩
  have ho' : bits .or .i64 op 128 = o := ho.symm
  rw [ho']
  have hlit : OwnB ((w.alloc (.cells #[.int .i64 v, .int .i64 r, .int .i64 t] 43)).alloc (.cells #[.int .u8 (o % 256), .int .u8 (v % 256)] 5)) (w.heap.size + 1) (.slice (some ⟨w.heap.size + 1, 0, none⟩) 2 2) [b8 o, b8 v] :=
    own_new [b8 o, b8 v] _ (by rw [lit2]) (by simp) (by simp) (by simp)
  have HL := Lib.hid hlit
  have hbox : Blk (w.alloc (.cells #[.int .i64 v, .int .i64 r, .int .i64 t] 43)) w.heap.size 43 [.int .i64 v, .int .i64 r, .int .i64 t] := Blk.new w _ _
  have HB := Lib.hid hbox
  have hr := u64_wrap r
  have ht := u64_wrap t
  have hrl := u64_lt r
  have htl := u64_lt t
  generalize hru : u64 r = ru at *
  generalize htu : u64 t = tu at *
  have isc : IsC ((w.alloc (.cells #[.int .i64 v, .int .i64 r, .int .i64 t] 43)).alloc (.cells #[.int .u8 (o % 256), .int .u8 (v % 256)] 5)).drew w.heap.size := isC_of_cell ((hbox.alloc (.cells #[.int .u8 (o % 256), .int .u8 (v % 256)] 5)).cell (i := 0) rfl)
  clear hlit hbox ho
  go_enter Try.func19, Try.ntmps19
  go_wp2_with fail
  refine wp_region_held [5] [6] [w.heap.size + 1] (by kernel_rfl) (by kernel_rfl) ?_
  simp only [wpCut, List.take_succ_cons, List.take_zero, List.drop_succ_cons, List.drop_zero]
  go_wp2_with fail
  refine (put_any (B := w.heap.size + 1) HL.out.drew (by simp) 8 (by omega) ru (by omega) (by simp)).mono ?_
  rintro e2 w2 ⟨v2, rfl, ho2, hM2, hat2⟩
  have hbx2 := hM2.blk ((HB.out.alloc (.cells #[.int .u8 (o % 256), .int .u8 (v % 256)] 5)).drew) (by simp [Value.ownBlock])
  have c2 := hbx2.cell (i := 2) rfl
  have hs2 : w.heap.size + 2 ≤ w2.heap.size := by have := hM2.size; change ((w.alloc _).alloc _).heap.size ≤ _ at this; simpa using this
  have O2 := Lib.hid ho2
  have M2' := Lib.hid hM2
  have M2 := Lib.hid ((((Mod.refl [] w).alloc (.cells #[.int .i64 v, .int .i64 r, .int .i64 t] 43)).alloc (.cells #[.int .u8 (o % 256), .int .u8 (v % 256)] 5)).drew.trans' hM2 (by simp [Value.ownBlock]))
  clear ho2 hM2 hat2 hbx2
  go_wp2_with fail
  refine ⟨by simpa [Value.ownBlock] using M2'.out, ?_⟩
  go_wp2_with fail
  refine (put_any O2.out (by omega) 8 (by omega) tu (by omega) (by simp [be_length])).mono ?_
  rintro e3 w3 ⟨v3, rfl, ho3, hM3, hat3⟩
  have hb2 := own_block O2.out
  have O3 := Lib.hid ho3
  have hs3 := hM3.size
  have M3 := Lib.hid (M2.out.trans' hM3 (fun x hx => by have := hb2 x (by simpa using hx); omega))
  clear ho3 hM3 hat3
  go_wp2_with fail
  refine (whole_any 0xA8 (Sl.own O3.out) (by simp) (by simp [be_length])).mono ?_
  rintro e4 w4 ⟨v4, rfl, ho4, hM4⟩
  have O4 := Lib.hid ho4
  have M4 := Lib.hid (M3.out.trans hM4)
  clear ho4 hM4
  have hs2' := M3.out.size
  go_wp2_with fail
  refine ⟨by kernel_rfl, ⟨⟨by simp, isc⟩, trivial⟩, ?_⟩
  go_wp2_with fail
  go_ret
  refine ⟨_, rfl, own_base O4.out hs2', ?_⟩
  exact M4.out
end Go.Proofs.Ytpjmoomjbcplgaa.Frame
