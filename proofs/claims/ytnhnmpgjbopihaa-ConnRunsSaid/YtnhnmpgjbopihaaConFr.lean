/- frame: the bytes of faults; the document's. -/
import Derived.Test.YtnhnmpgjbopihaaConReq
namespace Go.Proofs.Ytnhnmpgjbopihaa.Frame
open Go Go.RowKit Go.YtnhnmpgjbopihaaMem Go.YtnhnmpgjbopihaaLex
set_option linter.unusedVariables false
set_option linter.unusedSimpArgs false

theorem whole_any {w : World} {v : Value} {bs : List UInt8} (sign : UInt8) (h : Sl w v (vb bs)) (h0 : 1 ≤ bs.length) (hl : bs.length ≤ 1000000) :
    Calls Try.prog 36 #[.int .u8 sign.toNat, v] w (Fresh w (frame sign bs)) := by
  obtain ⟨i0, hi, hz0, hz1, hz2⟩ := u8_info
  rcases h with ⟨hn, av, capv, rfl⟩ | ⟨b, off, cap, rfl, hc1, hc2, hc3, hcell⟩
  · have : (vb bs).length = 0 := by rw [hn]; rfl
    rw [vb_length] at this; omega
  · rw [vb_length] at *
    have HC := Lib.hid hcell
    clear hcell
    go_enter Try.func36, Try.ntmps36
    have hlit := World.ownsRow_lit (base := w.heap.size) (e := 5) (size := 1) w #[.int .u8 sign.toNat, .int .u8 1, .int .u8 (bs.length / 256 % 256), .int .u8 (bs.length % 256)] 4 (Nat.le_refl _) (by decide) rfl
    have HLt := Lib.hid hlit
    clear hlit
    go_wp2_with (at_builtin; go_must (refine wpList_append_own_at _ rfl _ _ 22 rfl w.heap.size 5 i0 (.int .u8 0) 1 1 Try.underlying22 hi hz0 hz1 hz2 rfl (by decide) _ 4 _ rfl HLt.out ⟨b, off, none⟩ bs.length cap (vb bs) rfl (by simp) (fun j u hu => by rw [add_eq]; exact (((Mod.refl [] w).alloc _).cell hc3 (by simp)).trans (HC.out j u hu)) (fun x hx => by simp only [vb, List.mem_map] at hx; obtain ⟨y, _, rfl⟩ := hx; rfl) (by unfold maxLen; omega) (by omega) (by simp) ?_; intro v3 w3 hown3 hgrow hnil3 hat3))
    have HG := Lib.hid hgrow
    have HO3 := Lib.hid hown3
    clear hgrow hown3 hnil3 hat3
    go_wp2
    go_ret
    refine ⟨_, rfl, ?_, ((Mod.refl _ _).alloc _).grown HG.out (fun b hb => .inr (by have e : some w.heap.size = some b := hb; injection e; omega))⟩
    have := HO3.out
    unfold OwnB frame
    rw [vb_append, List.length_append, show ([sign, 1, UInt8.ofNat (bs.length / 256), UInt8.ofNat bs.length] : List UInt8).length = 4 from rfl]
    have e : ([.int .u8 sign.toNat, .int .u8 1, .int .u8 (bs.length / 256 % 256), .int .u8 (bs.length % 256)] : List Value) = vb [sign, 1, UInt8.ofNat (bs.length / 256), UInt8.ofNat bs.length] := by
      simp only [vb, List.map_cons, List.map_nil]
      rw [← low_byte, ← low_byte]; simp
    rw [← e]
    exact this

theorem faulted_any (w : World) (e : Int) : Calls Try.prog 30 #[.int .i64 e] w (Fresh w (frame 0xA8 [255, b8 e])) := by
  have hlit : OwnB (w.alloc (.cells #[.int .u8 255, .int .u8 (e % 256)] 5)) w.heap.size (.slice (some ⟨w.heap.size, 0, none⟩) 2 2) [255, b8 e] :=
    own_new [255, b8 e] _ (by simp [vb, ← b8_val]) (by simp) rfl (by simp)
  have HL := Lib.hid hlit
  clear hlit
  go_enter Try.func30, Try.ntmps30
  go_wp2_with fail
  refine (whole_any 0xA8 (Sl.own HL.out) (by simp) (by simp)).mono ?_
  rintro e1 w1 ⟨v1, rfl, ho1, hM1⟩
  have O1 := Lib.hid ho1
  have M1 := Lib.hid (((Mod.refl [] w).alloc _).trans hM1)
  clear ho1 hM1
  go_wp2_with fail
  go_ret
  exact ⟨_, rfl, own_base O1.out (by simp), M1.out⟩

theorem refFaulted (w : World) (e : Int) : Calls Try.prog 17 #[.int .i64 e] w (Fresh w (frame 0xA8 [255, b8 e])) := by
  have hlit : OwnB (w.alloc (.cells #[.int .u8 168, .int .u8 1, .int .u8 0, .int .u8 2, .int .u8 255, .int .u8 (e % 256)] 5)) w.heap.size (.slice (some ⟨w.heap.size, 0, none⟩) 6 6) (frame 0xA8 [255, b8 e]) :=
    own_new (frame 0xA8 [255, b8 e]) _ (by simp [frame, vb, ← b8_val]) (by simp) rfl (by simp [frame])
  have HL := Lib.hid hlit
  clear hlit
  go_enter Try.func17, Try.ntmps17
  go_wp2_with fail
  go_ret
  exact ⟨_, rfl, HL.out, (Mod.refl [] w).alloc _⟩

end Go.Proofs.Ytnhnmpgjbopihaa.Frame
