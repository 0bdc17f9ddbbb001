/- frame: what its small functions do: numbers in bytes, whole frames. -/
import Derived.Test.YtpjmoomjbcplgaaFrameA
namespace Go.Proofs.Ytpjmoomjbcplgaa.Frame
open Go Go.RowKit Go.YtpjmoomjbcplgaaMem Go.YtpjmoomjbcplgaaLex
set_option linter.unusedVariables false
set_option linter.unusedSimpArgs false

set_option maxHeartbeats 800000 in
theorem put_any {w : World} {B : Nat} {v : Value} {bs : List UInt8} (h : OwnB w B v bs) (hB : B ≤ w.heap.size) (k : Nat) (hk : k ≤ 8) (x : Nat) (hx : x < 18446744073709551616) (hl : bs.length ≤ 1000000) :
    Calls Try.prog 30 #[v, .int .i64 k, .int .u64 x] w (Gave w B v (bs ++ be k x)) := by
  obtain ⟨i0, hi, hz0, hz1, hz2⟩ := u8_info
  have H := Lib.hid h
  clear h
  go_enter Try.func30, Try.ntmps30
  go_wp2_with fail
  go_loopw [0, 7] (fun u i wr => ∃ j : Nat, j ≤ k ∧ i = .int .i64 ((k : Int) - 1 - j) ∧ OwnB wr B u (bs ++ (be k x).take j) ∧ Mod v.ownBlock.toList w wr ∧ ∀ b, u.ownBlock = some b → v.ownBlock = some b ∨ w.heap.size ≤ b) (fun _ i _ => (intOf i + 1).toNat)
  case atStart => exact ⟨0, Nat.zero_le _, by simp, by simpa using H.out, Mod.refl _ _, fun b hb => .inl hb⟩
  case round =>
    obtain ⟨j, hj, rfl, hown, hM, hb⟩ := hrel
    have HM := Lib.hid hM
    have HO := Lib.hid hown
    have HB := Lib.hid hb
    have hs := hM.size
    clear hM hown hb
    by_cases hlt : j < k
    · have hlen : (bs ++ (be k x).take j).length = bs.length + j := by simp [be_length]; omega
      have hown : wr.ownsRow B 5 1 u0 (bs.length + j) (vb (bs ++ (be k x).take j)) := by
        have := HO.out; unfold OwnB at this; rw [hlen] at this; exact this
      have HL := Lib.hid hlen
      clear hlen
      go_wp2_with (at_builtin; go_must (refine wpList_append_own_at _ rfl _ _ 28 rfl B 5 i0 (.int .u8 0) 1 1 Try.underlying28 hi hz0 hz1 hz2 rfl (by decide) _ _ _ rfl (hown.alloc _) ⟨wr.heap.size, 0, none⟩ 1 1 [_] rfl rfl (cells_one (World.cell?_alloc_at _ _ _ _ rfl)) (fun x hx => by simp at hx; subst hx; rfl) (by unfold maxLen; omega) (by omega) (by simp; omega) ?_; intro v3 w3 hown3 hgrow hnil3 hat3))
      have HG := Lib.hid hgrow
      have HO3 := Lib.hid hown3
      have HAT := Lib.hid hat3
      clear hgrow hown3 hnil3 hat3 hown
      go_wp2
      go_roundw
      case rel =>
        refine ⟨j + 1, by omega, by go_num, ?_, (HM.out.alloc _).grown HG.out (fun b hb => by rcases HB.out b hb with q | q <;> simp [q]), fun b hb => ?_⟩
        · have := HO3.out
          unfold OwnB
          rw [be_take hlt, ← List.append_assoc, vb_append, show ((bs ++ (be k x).take j) ++ [UInt8.ofNat (x / 256 ^ (k - 1 - j))]).length = bs.length + j + 1 by rw [List.length_append, HL.out]; rfl]
          rw [be_byte] at this
          exact this
        · rcases HAT.out with q | q
          · exact HB.out b (q.symm.trans hb)
          · rw [q] at hb; right; simp at hb; omega
      case measure => simp [intOf]; omega
    · obtain rfl : j = k := by omega
      have hend : ¬ (0 : Int) ≤ (j : Int) - 1 - j := by omega
      go_wp2
      go_ret
      refine ⟨_, rfl, ?_, HM.out, HB.out⟩
      have := HO.out
      rw [List.take_of_length_le (by rw [be_length]; omega)] at this
      exact this

set_option maxHeartbeats 800000 in
theorem whole_any {w : World} {v : Value} {bs : List UInt8} (sign : UInt8) (h : Sl w v (vb bs)) (h0 : 1 ≤ bs.length) (hl : bs.length ≤ 1000000) :
    Calls Try.prog 31 #[.int .u8 sign.toNat, v] w (Fresh w (frame sign bs)) := by
  obtain ⟨i0, hi, hz0, hz1, hz2⟩ := u8_info
  rcases h with ⟨hn, av, capv, rfl⟩ | ⟨b, off, cap, rfl, hc1, hc2, hc3, hcell⟩
  · have : (vb bs).length = 0 := by rw [hn]; rfl
    rw [vb_length] at this; omega
  · rw [vb_length] at *
    have HC := Lib.hid hcell
    clear hcell
    go_enter Try.func31, Try.ntmps31
    have hlit := World.ownsRow_lit (base := w.heap.size) (e := 5) (size := 1) w #[.int .u8 sign.toNat, .int .u8 1, .int .u8 (bs.length / 256 % 256), .int .u8 (bs.length % 256)] 4 (Nat.le_refl _) (by decide) rfl
    have HLt := Lib.hid hlit
    clear hlit
    go_wp2_with (at_builtin; go_must (refine wpList_append_own_at _ rfl _ _ 28 rfl w.heap.size 5 i0 (.int .u8 0) 1 1 Try.underlying28 hi hz0 hz1 hz2 rfl (by decide) _ 4 _ rfl HLt.out ⟨b, off, none⟩ bs.length cap (vb bs) rfl (by simp) (fun j u hu => by rw [add_eq]; exact (((Mod.refl [] w).alloc _).cell hc3 (by simp)).trans (HC.out j u hu)) (fun x hx => by simp only [vb, List.mem_map] at hx; obtain ⟨y, _, rfl⟩ := hx; rfl) (by unfold maxLen; omega) (by omega) (by simp) ?_; intro v3 w3 hown3 hgrow hnil3 hat3))
    have HG := Lib.hid hgrow
    have HO3 := Lib.hid hown3
    clear hgrow hown3 hnil3 hat3
    go_wp2
    go_ret
    refine ⟨_, rfl, ?_, ((Mod.refl _ _).alloc _).grown HG.out (fun b hb => .inr (by have e : some w.heap.size = some b := hb; injection e; omega))⟩
    have := HO3.out
    unfold OwnB frame
    rw [vb_append, List.length_append, show ([sign, 1, UInt8.ofNat (bs.length / 256), UInt8.ofNat bs.length] : List UInt8).length = 4 from rfl]
    have e : ([.int .u8 sign.toNat, .int .u8 1, .int .u8 (bs.length / 256 % 256), .int .u8 (bs.length % 256)] : List Value) = vb [sign, 1, UInt8.ofNat (bs.length / 256), UInt8.ofNat bs.length] := by
      simp only [vb, List.map_cons, List.map_nil]
      rw [← low_byte, ← low_byte]; simp
    rw [← e]
    exact this

set_option maxHeartbeats 1600000 in
theorem encode_any (w : World) (q : Req) (hc : q.cost < 4294967296) (hk : q.key.length ≤ 300) :
    Calls Try.prog 15 #[q.val] w (Fresh w q.bytes) := by
  obtain ⟨i0, hi, hz0, hz1, hz2⟩ := u8_info
  obtain ⟨op, rule, cost, key, k⟩ := q
  simp only [Req.val] at *
  by_cases h1 : op = 1
  · subst h1
    go_enter Try.func15, Try.ntmps15
    have hbox := Blk.new w [.int .i64 1, .int .i64 rule, .int .u32 cost, .string ⟨key.toArray⟩, .int .i64 k] 24
    have hlit : OwnB ((w.alloc (.cells #[.int .i64 1, .int .i64 rule, .int .u32 cost, .string ⟨key.toArray⟩, .int .i64 k] 24)).alloc (.cells #[.int .u8 1, .int .u8 (rule % 256)] 5)) (w.heap.size + 1) (.slice (some ⟨w.heap.size + 1, 0, none⟩) 2 2) [b8 1, b8 rule] := by
      exact own_new [b8 1, b8 rule] _ (by rw [lit2]; rfl) (by simp) (by simp) (by simp)
    have HBx := Lib.hid hbox
    have HLt := Lib.hid hlit
    clear hbox hlit
    go_wp2_with fail
    refine wp_region_chains 2 4 6 9 [0, 1, 2, 3, 4, 5, 6, 7, 8, 9, 10, 11] [0, 1, 2, 3, 5, 6, 7, 8, 4, 9, 10, 11] [0, 1, 2, 3, 5, 6, 7, 8, 9, 4, 10, 11] [0, 1, 5, 6, 7, 8, 9, 2, 3, 4, 10, 11] (by kernel_rfl) (by kernel_rfl) (by kernel_rfl) (by kernel_rfl) (by kernel_rfl) (by kernel_rfl) (by kernel_rfl) (by kernel_rfl) ?_ ?_ ?_ ?_
    all_goals simp only [edges, edge, pick, List.drop_succ_cons, List.drop_zero, List.take_succ_cons, List.take_zero, List.cons_append, List.nil_append]
    · go_wp2_with fail
      refine (put_any (B := w.heap.size + 1) HLt.out.drew (by simp) 4 (by omega) cost (by omega) (by simp)).mono ?_
      rintro e w2 ⟨v2, rfl, ho2, hM2, hat2⟩
      have hM2' : Mod [] w w2 := (((Mod.refl [] w).alloc _).alloc _).drew.trans' hM2 (by simp [Value.ownBlock])
      have hbx2 := hM2.blk ((HBx.out.alloc _).drew) (by simp [Value.ownBlock])
      have c3 : w2.cell? ⟨w.heap.size, 3, none⟩ = some (.string ⟨key.toArray⟩) := hbx2.cell rfl
      have hs2 : w.heap.size + 2 ≤ w2.heap.size := by have := hM2.size; change ((w.alloc _).alloc _).heap.size ≤ _ at this; simpa using this
      have HO2 := Lib.hid ho2
      have HM2 := Lib.hid hM2'
      have HB2 := Lib.hid hbx2
      clear ho2 hM2 hM2' hbx2 hat2
      go_wp2_with (at_builtin; go_must (refine app_one (b8 key.length) _ _ (HO2.out.alloc _) rfl _ _ rfl rfl rfl (World.cell?_alloc_at _ _ _ _ rfl) (b8_val _) (by simp; omega) (by simp [be_length]) ?_; intro v3 w3 ho3 hM3 hat3))
      refine ⟨by kernel_rfl, ?_⟩
      have hb2 := own_block HO2.out
      have hM3' := (HM2.out.alloc (.cells #[.int .u8 (key.length % 256)] 5)).trans' hM3 (fun x hx => by have := hb2 x (by simpa using hx); omega)
      have hbx3 := hM3.blk (HB2.out.alloc _) (fun hx => by have := hb2 _ (by simpa using hx); omega)
      have c3' : w3.cell? ⟨w.heap.size, 3, none⟩ = some (.string ⟨key.toArray⟩) := hbx3.cell rfl
      have hs3 : w2.heap.size + 1 ≤ w3.heap.size := by simpa using hM3.size
      have HO3 := Lib.hid ho3
      have HM3 := Lib.hid hM3'
      clear ho3 hM3 hM3' hat3 hbx3 c3
      go_wp2_with (at_builtin; go_must (refine app_str key HO3.out rfl _ _ rfl rfl rfl (by omega) (by simp [be_length]; omega) ?_; intro v4 w4 ho4 hM4))
      have hb3 := own_block HO3.out
      have hM4' := HM3.out.trans' hM4 (fun x hx => by have := hb3 x (by simpa using hx); omega)
      have HO4 := Lib.hid ho4
      have HM4 := Lib.hid hM4'
      clear ho4 hM4 hM4' c3'
      go_wp2_with fail
      refine (whole_any 0xA7 (Sl.own HO4.out) (by simp) (by simp [be_length]; omega)).mono ?_
      rintro e w5 ⟨v5, rfl, ho5, hM5⟩
      have HO5 := Lib.hid ho5
      have HM5 := Lib.hid (HM4.out.trans hM5)
      have hs5 := HM4.out.size
      clear ho5 hM5
      go_wp2_with fail
      go_ret
      exact ⟨_, rfl, own_base HO5.out hs5, HM5.out⟩
    · go_wp2_with fail
      refine (put_any (B := w.heap.size + 1) HLt.out.drew (by simp) 4 (by omega) cost (by omega) (by simp)).mono ?_
      rintro e w2 ⟨v2, rfl, ho2, hM2, hat2⟩
      have hM2' : Mod [] w w2 := (((Mod.refl [] w).alloc _).alloc _).drew.trans' hM2 (by simp [Value.ownBlock])
      have hbx2 := hM2.blk ((HBx.out.alloc _).drew) (by simp [Value.ownBlock])
      have c3 : w2.cell? ⟨w.heap.size, 3, none⟩ = some (.string ⟨key.toArray⟩) := hbx2.cell rfl
      have hs2 : w.heap.size + 2 ≤ w2.heap.size := by have := hM2.size; change ((w.alloc _).alloc _).heap.size ≤ _ at this; simpa using this
      have HO2 := Lib.hid ho2
      have HM2 := Lib.hid hM2'
      have HB2 := Lib.hid hbx2
      clear ho2 hM2 hM2' hbx2 hat2
      go_wp2_with (at_builtin; go_must (refine app_one (b8 key.length) _ _ (HO2.out.alloc _) rfl _ _ rfl rfl rfl (World.cell?_alloc_at _ _ _ _ rfl) (b8_val _) (by simp; omega) (by simp [be_length]) ?_; intro v3 w3 ho3 hM3 hat3))
      refine ⟨by kernel_rfl, ?_⟩
      have hb2 := own_block HO2.out
      have hM3' := (HM2.out.alloc (.cells #[.int .u8 (key.length % 256)] 5)).trans' hM3 (fun x hx => by have := hb2 x (by simpa using hx); omega)
      have hbx3 := hM3.blk (HB2.out.alloc _) (fun hx => by have := hb2 _ (by simpa using hx); omega)
      have c3' : w3.cell? ⟨w.heap.size, 3, none⟩ = some (.string ⟨key.toArray⟩) := hbx3.cell rfl
      have hs3 : w2.heap.size + 1 ≤ w3.heap.size := by simpa using hM3.size
      have HO3 := Lib.hid ho3
      have HM3 := Lib.hid hM3'
      clear ho3 hM3 hM3' hat3 hbx3 c3
      go_wp2_with (at_builtin; go_must (refine app_str key HO3.out rfl _ _ rfl rfl rfl (by omega) (by simp [be_length]; omega) ?_; intro v4 w4 ho4 hM4))
      have hb3 := own_block HO3.out
      have hM4' := HM3.out.trans' hM4 (fun x hx => by have := hb3 x (by simpa using hx); omega)
      have HO4 := Lib.hid ho4
      have HM4 := Lib.hid hM4'
      clear ho4 hM4 hM4' c3'
      go_wp2_with fail
      refine (whole_any 0xA7 (Sl.own HO4.out) (by simp) (by simp [be_length]; omega)).mono ?_
      rintro e w5 ⟨v5, rfl, ho5, hM5⟩
      have HO5 := Lib.hid ho5
      have HM5 := Lib.hid (HM4.out.trans hM5)
      have hs5 := HM4.out.size
      clear ho5 hM5
      go_wp2_with fail
      go_ret
      exact ⟨_, rfl, own_base HO5.out hs5, HM5.out⟩
    · go_wp2_with fail
      refine (put_any (B := w.heap.size + 1) (HLt.out.alloc _).drew (by simp) 4 (by omega) cost (by omega) (by simp)).mono ?_
      rintro e w2 ⟨v2, rfl, ho2, hM2, hat2⟩
      have hM2' : Mod [] w w2 := ((((Mod.refl [] w).alloc _).alloc _).alloc _).drew.trans' hM2 (by simp [Value.ownBlock])
      have hbx2 := hM2.blk (((HBx.out.alloc _).alloc _).drew) (by simp [Value.ownBlock])
      have c3 : w2.cell? ⟨w.heap.size, 3, none⟩ = some (.string ⟨key.toArray⟩) := hbx2.cell rfl
      have hs2 : w.heap.size + 3 ≤ w2.heap.size := by have := hM2.size; change (((w.alloc _).alloc _).alloc _).heap.size ≤ _ at this; simpa using this
      have c4 : w2.cell? ⟨w.heap.size + 2, 0, none⟩ = some (.int .u8 (key.length % 256)) := by
        rw [hM2.cell (by change _ < (((w.alloc _).alloc _).alloc _).heap.size; simp) (by simp [Value.ownBlock])]
        exact World.cell?_alloc_at _ _ _ _ (by simp)
      have HO2 := Lib.hid ho2
      have HM2 := Lib.hid hM2'
      have HB2 := Lib.hid hbx2
      clear ho2 hM2 hM2' hbx2 hat2
      go_wp2_with (at_builtin; go_must (refine app_one (b8 key.length) _ _ HO2.out rfl _ _ rfl rfl rfl c4 (b8_val _) (by omega) (by simp [be_length]) ?_; intro v3 w3 ho3 hM3 hat3))
      refine ⟨by kernel_rfl, ?_⟩
      have hb2 := own_block HO2.out
      have hM3' := HM2.out.trans' hM3 (fun x hx => by have := hb2 x (by simpa using hx); omega)
      have hbx3 := hM3.blk HB2.out (fun hx => by have := hb2 _ (by simpa using hx); omega)
      have hs3 : w2.heap.size ≤ w3.heap.size := hM3.size
      have c3' : w3.cell? ⟨w.heap.size, 3, none⟩ = some (.string ⟨key.toArray⟩) := hbx3.cell rfl
      have HO3 := Lib.hid ho3
      have HM3 := Lib.hid hM3'
      clear ho3 hM3 hM3' hat3 hbx3 c3 c4
      go_wp2_with (at_builtin; go_must (refine app_str key HO3.out rfl _ _ rfl rfl rfl (by omega) (by simp [be_length]; omega) ?_; intro v4 w4 ho4 hM4))
      have hb3 := own_block HO3.out
      have hM4' := HM3.out.trans' hM4 (fun x hx => by have := hb3 x (by simpa using hx); omega)
      have HO4 := Lib.hid ho4
      have HM4 := Lib.hid hM4'
      clear ho4 hM4 hM4' c3'
      go_wp2_with fail
      refine (whole_any 0xA7 (Sl.own HO4.out) (by simp) (by simp [be_length]; omega)).mono ?_
      rintro e w5 ⟨v5, rfl, ho5, hM5⟩
      have HO5 := Lib.hid ho5
      have HM5 := Lib.hid (HM4.out.trans hM5)
      have hs5 := HM4.out.size
      clear ho5 hM5
      go_wp2_with fail
      go_ret
      exact ⟨_, rfl, own_base HO5.out hs5, HM5.out⟩
    · go_wp2_with fail
      refine (put_any (B := w.heap.size + 1) (HLt.out.alloc _).drew (by simp) 4 (by omega) cost (by omega) (by simp)).mono ?_
      rintro e w2 ⟨v2, rfl, ho2, hM2, hat2⟩
      have hM2' : Mod [] w w2 := ((((Mod.refl [] w).alloc _).alloc _).alloc _).drew.trans' hM2 (by simp [Value.ownBlock])
      have hbx2 := hM2.blk (((HBx.out.alloc _).alloc _).drew) (by simp [Value.ownBlock])
      have c3 : w2.cell? ⟨w.heap.size, 3, none⟩ = some (.string ⟨key.toArray⟩) := hbx2.cell rfl
      have hs2 : w.heap.size + 3 ≤ w2.heap.size := by have := hM2.size; change (((w.alloc _).alloc _).alloc _).heap.size ≤ _ at this; simpa using this
      have c4 : w2.cell? ⟨w.heap.size + 2, 0, none⟩ = some (.int .u8 (key.length % 256)) := by
        rw [hM2.cell (by change _ < (((w.alloc _).alloc _).alloc _).heap.size; simp) (by simp [Value.ownBlock])]
        exact World.cell?_alloc_at _ _ _ _ (by simp)
      have HO2 := Lib.hid ho2
      have HM2 := Lib.hid hM2'
      have HB2 := Lib.hid hbx2
      clear ho2 hM2 hM2' hbx2 hat2
      go_wp2_with (at_builtin; go_must (refine app_one (b8 key.length) _ _ HO2.out rfl _ _ rfl rfl rfl c4 (b8_val _) (by omega) (by simp [be_length]) ?_; intro v3 w3 ho3 hM3 hat3))
      refine ⟨by kernel_rfl, ?_⟩
      have hb2 := own_block HO2.out
      have hM3' := HM2.out.trans' hM3 (fun x hx => by have := hb2 x (by simpa using hx); omega)
      have hbx3 := hM3.blk HB2.out (fun hx => by have := hb2 _ (by simpa using hx); omega)
      have hs3 : w2.heap.size ≤ w3.heap.size := hM3.size
      have c3' : w3.cell? ⟨w.heap.size, 3, none⟩ = some (.string ⟨key.toArray⟩) := hbx3.cell rfl
      have HO3 := Lib.hid ho3
      have HM3 := Lib.hid hM3'
      clear ho3 hM3 hM3' hat3 hbx3 c3 c4
      go_wp2_with (at_builtin; go_must (refine app_str key HO3.out rfl _ _ rfl rfl rfl (by omega) (by simp [be_length]; omega) ?_; intro v4 w4 ho4 hM4))
      have hb3 := own_block HO3.out
      have hM4' := HM3.out.trans' hM4 (fun x hx => by have := hb3 x (by simpa using hx); omega)
      have HO4 := Lib.hid ho4
      have HM4 := Lib.hid hM4'
      clear ho4 hM4 hM4' c3'
      go_wp2_with fail
      refine (whole_any 0xA7 (Sl.own HO4.out) (by simp) (by simp [be_length]; omega)).mono ?_
      rintro e w5 ⟨v5, rfl, ho5, hM5⟩
      have HO5 := Lib.hid ho5
      have HM5 := Lib.hid (HM4.out.trans hM5)
      have hs5 := HM4.out.size
      clear ho5 hM5
      go_wp2_with fail
      go_ret
      exact ⟨_, rfl, own_base HO5.out hs5, HM5.out⟩
  · by_cases h2 : op = 2
    · subst h2
      clear h1
      go_enter Try.func15, Try.ntmps15
      have hbox := Blk.new w [.int .i64 2, .int .i64 rule, .int .u32 cost, .string ⟨key.toArray⟩, .int .i64 k] 24
      have hlit : OwnB ((w.alloc (.cells #[.int .i64 2, .int .i64 rule, .int .u32 cost, .string ⟨key.toArray⟩, .int .i64 k] 24)).alloc (.cells #[.int .u8 2, .int .u8 (rule % 256)] 5)) (w.heap.size + 1) (.slice (some ⟨w.heap.size + 1, 0, none⟩) 2 2) [b8 2, b8 rule] := by
        exact own_new [b8 2, b8 rule] _ (by rw [lit2]; rfl) (by simp) (by simp) (by simp)
      have HBx := Lib.hid hbox
      have HLt := Lib.hid hlit
      clear hbox hlit
      go_wp2_with fail
      refine wp_region_chains 2 4 6 9 [0, 1, 2, 3, 4, 5, 6, 7, 8, 9, 10, 11] [0, 1, 2, 3, 5, 6, 7, 8, 4, 9, 10, 11] [0, 1, 2, 3, 5, 6, 7, 8, 9, 4, 10, 11] [0, 1, 5, 6, 7, 8, 9, 2, 3, 4, 10, 11] (by kernel_rfl) (by kernel_rfl) (by kernel_rfl) (by kernel_rfl) (by kernel_rfl) (by kernel_rfl) (by kernel_rfl) (by kernel_rfl) ?_ ?_ ?_ ?_
      all_goals simp only [edges, edge, pick, List.drop_succ_cons, List.drop_zero, List.take_succ_cons, List.take_zero, List.cons_append, List.nil_append]
      · go_wp2_with fail
        refine (put_any (B := w.heap.size + 1) HLt.out.drew (by simp) 4 (by omega) cost (by omega) (by simp)).mono ?_
        rintro e w2 ⟨v2, rfl, ho2, hM2, hat2⟩
        have hM2' : Mod [] w w2 := (((Mod.refl [] w).alloc _).alloc _).drew.trans' hM2 (by simp [Value.ownBlock])
        have hbx2 := hM2.blk ((HBx.out.alloc _).drew) (by simp [Value.ownBlock])
        have c3 : w2.cell? ⟨w.heap.size, 3, none⟩ = some (.string ⟨key.toArray⟩) := hbx2.cell rfl
        have hs2 : w.heap.size + 2 ≤ w2.heap.size := by have := hM2.size; change ((w.alloc _).alloc _).heap.size ≤ _ at this; simpa using this
        have HO2 := Lib.hid ho2
        have HM2 := Lib.hid hM2'
        have HB2 := Lib.hid hbx2
        clear ho2 hM2 hM2' hbx2 hat2
        go_wp2_with (at_builtin; go_must (refine app_one (b8 key.length) _ _ (HO2.out.alloc _) rfl _ _ rfl rfl rfl (World.cell?_alloc_at _ _ _ _ rfl) (b8_val _) (by simp; omega) (by simp [be_length]) ?_; intro v3 w3 ho3 hM3 hat3))
        refine ⟨by kernel_rfl, ?_⟩
        have hb2 := own_block HO2.out
        have hM3' := (HM2.out.alloc (.cells #[.int .u8 (key.length % 256)] 5)).trans' hM3 (fun x hx => by have := hb2 x (by simpa using hx); omega)
        have hbx3 := hM3.blk (HB2.out.alloc _) (fun hx => by have := hb2 _ (by simpa using hx); omega)
        have c3' : w3.cell? ⟨w.heap.size, 3, none⟩ = some (.string ⟨key.toArray⟩) := hbx3.cell rfl
        have hs3 : w2.heap.size + 1 ≤ w3.heap.size := by simpa using hM3.size
        have HO3 := Lib.hid ho3
        have HM3 := Lib.hid hM3'
        clear ho3 hM3 hM3' hat3 hbx3 c3
        go_wp2_with (at_builtin; go_must (refine app_str key HO3.out rfl _ _ rfl rfl rfl (by omega) (by simp [be_length]; omega) ?_; intro v4 w4 ho4 hM4))
        have hb3 := own_block HO3.out
        have hM4' := HM3.out.trans' hM4 (fun x hx => by have := hb3 x (by simpa using hx); omega)
        have HO4 := Lib.hid ho4
        have HM4 := Lib.hid hM4'
        clear ho4 hM4 hM4' c3'
        go_wp2_with fail
        refine (whole_any 0xA7 (Sl.own HO4.out) (by simp) (by simp [be_length]; omega)).mono ?_
        rintro e w5 ⟨v5, rfl, ho5, hM5⟩
        have HO5 := Lib.hid ho5
        have HM5 := Lib.hid (HM4.out.trans hM5)
        have hs5 := HM4.out.size
        clear ho5 hM5
        go_wp2_with fail
        go_ret
        exact ⟨_, rfl, own_base HO5.out hs5, HM5.out⟩
      · go_wp2_with fail
        refine (put_any (B := w.heap.size + 1) HLt.out.drew (by simp) 4 (by omega) cost (by omega) (by simp)).mono ?_
        rintro e w2 ⟨v2, rfl, ho2, hM2, hat2⟩
        have hM2' : Mod [] w w2 := (((Mod.refl [] w).alloc _).alloc _).drew.trans' hM2 (by simp [Value.ownBlock])
        have hbx2 := hM2.blk ((HBx.out.alloc _).drew) (by simp [Value.ownBlock])
        have c3 : w2.cell? ⟨w.heap.size, 3, none⟩ = some (.string ⟨key.toArray⟩) := hbx2.cell rfl
        have hs2 : w.heap.size + 2 ≤ w2.heap.size := by have := hM2.size; change ((w.alloc _).alloc _).heap.size ≤ _ at this; simpa using this
        have HO2 := Lib.hid ho2
        have HM2 := Lib.hid hM2'
        have HB2 := Lib.hid hbx2
        clear ho2 hM2 hM2' hbx2 hat2
        go_wp2_with (at_builtin; go_must (refine app_one (b8 key.length) _ _ (HO2.out.alloc _) rfl _ _ rfl rfl rfl (World.cell?_alloc_at _ _ _ _ rfl) (b8_val _) (by simp; omega) (by simp [be_length]) ?_; intro v3 w3 ho3 hM3 hat3))
        refine ⟨by kernel_rfl, ?_⟩
        have hb2 := own_block HO2.out
        have hM3' := (HM2.out.alloc (.cells #[.int .u8 (key.length % 256)] 5)).trans' hM3 (fun x hx => by have := hb2 x (by simpa using hx); omega)
        have hbx3 := hM3.blk (HB2.out.alloc _) (fun hx => by have := hb2 _ (by simpa using hx); omega)
        have c3' : w3.cell? ⟨w.heap.size, 3, none⟩ = some (.string ⟨key.toArray⟩) := hbx3.cell rfl
        have hs3 : w2.heap.size + 1 ≤ w3.heap.size := by simpa using hM3.size
        have HO3 := Lib.hid ho3
        have HM3 := Lib.hid hM3'
        clear ho3 hM3 hM3' hat3 hbx3 c3
        go_wp2_with (at_builtin; go_must (refine app_str key HO3.out rfl _ _ rfl rfl rfl (by omega) (by simp [be_length]; omega) ?_; intro v4 w4 ho4 hM4))
        have hb3 := own_block HO3.out
        have hM4' := HM3.out.trans' hM4 (fun x hx => by have := hb3 x (by simpa using hx); omega)
        have HO4 := Lib.hid ho4
        have HM4 := Lib.hid hM4'
        clear ho4 hM4 hM4' c3'
        go_wp2_with fail
        refine (whole_any 0xA7 (Sl.own HO4.out) (by simp) (by simp [be_length]; omega)).mono ?_
        rintro e w5 ⟨v5, rfl, ho5, hM5⟩
        have HO5 := Lib.hid ho5
        have HM5 := Lib.hid (HM4.out.trans hM5)
        have hs5 := HM4.out.size
        clear ho5 hM5
        go_wp2_with fail
        go_ret
        exact ⟨_, rfl, own_base HO5.out hs5, HM5.out⟩
      · go_wp2_with fail
        refine (put_any (B := w.heap.size + 1) (HLt.out.alloc _).drew (by simp) 4 (by omega) cost (by omega) (by simp)).mono ?_
        rintro e w2 ⟨v2, rfl, ho2, hM2, hat2⟩
        have hM2' : Mod [] w w2 := ((((Mod.refl [] w).alloc _).alloc _).alloc _).drew.trans' hM2 (by simp [Value.ownBlock])
        have hbx2 := hM2.blk (((HBx.out.alloc _).alloc _).drew) (by simp [Value.ownBlock])
        have c3 : w2.cell? ⟨w.heap.size, 3, none⟩ = some (.string ⟨key.toArray⟩) := hbx2.cell rfl
        have hs2 : w.heap.size + 3 ≤ w2.heap.size := by have := hM2.size; change (((w.alloc _).alloc _).alloc _).heap.size ≤ _ at this; simpa using this
        have c4 : w2.cell? ⟨w.heap.size + 2, 0, none⟩ = some (.int .u8 (key.length % 256)) := by
          rw [hM2.cell (by change _ < (((w.alloc _).alloc _).alloc _).heap.size; simp) (by simp [Value.ownBlock])]
          exact World.cell?_alloc_at _ _ _ _ (by simp)
        have HO2 := Lib.hid ho2
        have HM2 := Lib.hid hM2'
        have HB2 := Lib.hid hbx2
        clear ho2 hM2 hM2' hbx2 hat2
        go_wp2_with (at_builtin; go_must (refine app_one (b8 key.length) _ _ HO2.out rfl _ _ rfl rfl rfl c4 (b8_val _) (by omega) (by simp [be_length]) ?_; intro v3 w3 ho3 hM3 hat3))
        refine ⟨by kernel_rfl, ?_⟩
        have hb2 := own_block HO2.out
        have hM3' := HM2.out.trans' hM3 (fun x hx => by have := hb2 x (by simpa using hx); omega)
        have hbx3 := hM3.blk HB2.out (fun hx => by have := hb2 _ (by simpa using hx); omega)
        have hs3 : w2.heap.size ≤ w3.heap.size := hM3.size
        have c3' : w3.cell? ⟨w.heap.size, 3, none⟩ = some (.string ⟨key.toArray⟩) := hbx3.cell rfl
        have HO3 := Lib.hid ho3
        have HM3 := Lib.hid hM3'
        clear ho3 hM3 hM3' hat3 hbx3 c3 c4
        go_wp2_with (at_builtin; go_must (refine app_str key HO3.out rfl _ _ rfl rfl rfl (by omega) (by simp [be_length]; omega) ?_; intro v4 w4 ho4 hM4))
        have hb3 := own_block HO3.out
        have hM4' := HM3.out.trans' hM4 (fun x hx => by have := hb3 x (by simpa using hx); omega)
        have HO4 := Lib.hid ho4
        have HM4 := Lib.hid hM4'
        clear ho4 hM4 hM4' c3'
        go_wp2_with fail
        refine (whole_any 0xA7 (Sl.own HO4.out) (by simp) (by simp [be_length]; omega)).mono ?_
        rintro e w5 ⟨v5, rfl, ho5, hM5⟩
        have HO5 := Lib.hid ho5
        have HM5 := Lib.hid (HM4.out.trans hM5)
        have hs5 := HM4.out.size
        clear ho5 hM5
        go_wp2_with fail
        go_ret
        exact ⟨_, rfl, own_base HO5.out hs5, HM5.out⟩
      · go_wp2_with fail
        refine (put_any (B := w.heap.size + 1) (HLt.out.alloc _).drew (by simp) 4 (by omega) cost (by omega) (by simp)).mono ?_
        rintro e w2 ⟨v2, rfl, ho2, hM2, hat2⟩
        have hM2' : Mod [] w w2 := ((((Mod.refl [] w).alloc _).alloc _).alloc _).drew.trans' hM2 (by simp [Value.ownBlock])
        have hbx2 := hM2.blk (((HBx.out.alloc _).alloc _).drew) (by simp [Value.ownBlock])
        have c3 : w2.cell? ⟨w.heap.size, 3, none⟩ = some (.string ⟨key.toArray⟩) := hbx2.cell rfl
        have hs2 : w.heap.size + 3 ≤ w2.heap.size := by have := hM2.size; change (((w.alloc _).alloc _).alloc _).heap.size ≤ _ at this; simpa using this
        have c4 : w2.cell? ⟨w.heap.size + 2, 0, none⟩ = some (.int .u8 (key.length % 256)) := by
          rw [hM2.cell (by change _ < (((w.alloc _).alloc _).alloc _).heap.size; simp) (by simp [Value.ownBlock])]
          exact World.cell?_alloc_at _ _ _ _ (by simp)
        have HO2 := Lib.hid ho2
        have HM2 := Lib.hid hM2'
        have HB2 := Lib.hid hbx2
        clear ho2 hM2 hM2' hbx2 hat2
        go_wp2_with (at_builtin; go_must (refine app_one (b8 key.length) _ _ HO2.out rfl _ _ rfl rfl rfl c4 (b8_val _) (by omega) (by simp [be_length]) ?_; intro v3 w3 ho3 hM3 hat3))
        refine ⟨by kernel_rfl, ?_⟩
        have hb2 := own_block HO2.out
        have hM3' := HM2.out.trans' hM3 (fun x hx => by have := hb2 x (by simpa using hx); omega)
        have hbx3 := hM3.blk HB2.out (fun hx => by have := hb2 _ (by simpa using hx); omega)
        have hs3 : w2.heap.size ≤ w3.heap.size := hM3.size
        have c3' : w3.cell? ⟨w.heap.size, 3, none⟩ = some (.string ⟨key.toArray⟩) := hbx3.cell rfl
        have HO3 := Lib.hid ho3
        have HM3 := Lib.hid hM3'
        clear ho3 hM3 hM3' hat3 hbx3 c3 c4
        go_wp2_with (at_builtin; go_must (refine app_str key HO3.out rfl _ _ rfl rfl rfl (by omega) (by simp [be_length]; omega) ?_; intro v4 w4 ho4 hM4))
        have hb3 := own_block HO3.out
        have hM4' := HM3.out.trans' hM4 (fun x hx => by have := hb3 x (by simpa using hx); omega)
        have HO4 := Lib.hid ho4
        have HM4 := Lib.hid hM4'
        clear ho4 hM4 hM4' c3'
        go_wp2_with fail
        refine (whole_any 0xA7 (Sl.own HO4.out) (by simp) (by simp [be_length]; omega)).mono ?_
        rintro e w5 ⟨v5, rfl, ho5, hM5⟩
        have HO5 := Lib.hid ho5
        have HM5 := Lib.hid (HM4.out.trans hM5)
        have hs5 := HM4.out.size
        clear ho5 hM5
        go_wp2_with fail
        go_ret
        exact ⟨_, rfl, own_base HO5.out hs5, HM5.out⟩
    · have hb1 : (op == 1) = false := by simpa using h1
      have hb2 : (op == 2) = false := by simpa using h2
      have hbox := Blk.new w [.int .i64 op, .int .i64 rule, .int .u32 cost, .string ⟨key.toArray⟩, .int .i64 k] 24
      have HBx := Lib.hid hbox
      clear hbox
      by_cases h4 : op = 4
      · subst h4
        have hlit : OwnB ((w.alloc (.cells #[.int .i64 4, .int .i64 rule, .int .u32 cost, .string ⟨key.toArray⟩, .int .i64 k] 24)).alloc (.cells #[.int .u8 4, .int .u8 (rule % 256)] 5)) (w.heap.size + 1) (.slice (some ⟨w.heap.size + 1, 0, none⟩) 2 2) [b8 4, b8 rule] := by
          exact own_new [b8 4, b8 rule] _ (by rw [lit2]; rfl) (by simp) (by simp) (by simp)
        have HLt := Lib.hid hlit
        clear hlit
        go_enter Try.func15, Try.ntmps15
        go_wp2_with (at_builtin; go_must (refine app_one (b8 k) _ _ (HLt.out.alloc _) rfl _ _ rfl rfl rfl (World.cell?_alloc_at _ _ _ _ (by simp)) (b8_val _) (by simp) (by simp) ?_; intro v3 w3 ho3 hM3 hat3))
        have hM3' : Mod [] w w3 := ((((Mod.refl [] w).alloc _).alloc _).alloc _).trans' hM3 (by simp [Value.ownBlock])
        have HO3 := Lib.hid ho3
        have HM3 := Lib.hid hM3'
        clear ho3 hM3 hM3' hat3
        go_wp2_with fail
        refine (whole_any 0xA7 (Sl.own HO3.out) (by simp) (by simp)).mono ?_
        rintro e w5 ⟨v5, rfl, ho5, hM5⟩
        have HO5 := Lib.hid ho5
        have HM5 := Lib.hid (HM3.out.trans hM5)
        have hs5 := HM3.out.size
        clear ho5 hM5
        go_wp2_with fail
        go_ret
        exact ⟨_, rfl, own_base HO5.out hs5, HM5.out⟩
      · have hb4 : (op == 4) = false := by simpa using h4
        have hlit : OwnB ((w.alloc (.cells #[.int .i64 op, .int .i64 rule, .int .u32 cost, .string ⟨key.toArray⟩, .int .i64 k] 24)).alloc (.cells #[.int .u8 (op % 256), .int .u8 (rule % 256)] 5)) (w.heap.size + 1) (.slice (some ⟨w.heap.size + 1, 0, none⟩) 2 2) [b8 op, b8 rule] := by
          exact own_new [b8 op, b8 rule] _ (by rw [lit2]) (by simp) (by simp) (by simp)
        have HLt := Lib.hid hlit
        clear hlit
        go_enter Try.func15, Try.ntmps15
        go_wp2_with fail
        refine (whole_any 0xA7 (Sl.own HLt.out) (by simp) (by simp)).mono ?_
        rintro e w5 ⟨v5, rfl, ho5, hM5⟩
        have HO5 := Lib.hid ho5
        have HM5 := Lib.hid ((((Mod.refl [] w).alloc _).alloc _).trans hM5)
        have hs5 := ((Mod.refl [] w).alloc (.cells #[.int .i64 op, .int .i64 rule, .int .u32 cost, .string ⟨key.toArray⟩, .int .i64 k] 24)).alloc (.cells #[.int .u8 (op % 256), .int .u8 (rule % 256)] 5) |>.size
        clear ho5 hM5
        go_wp2_with fail
        go_ret
        refine ⟨_, rfl, ?_, HM5.out⟩
        have := own_base HO5.out hs5
        simp only [Req.bytes, Req.body, h1, h2, h4, or_self, if_false, List.append_nil]
        exact this
end Go.Proofs.Ytpjmoomjbcplgaa.Frame
