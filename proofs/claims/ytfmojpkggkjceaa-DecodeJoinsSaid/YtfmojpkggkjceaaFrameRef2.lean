/- The document's frame: Encode. -/
import Derived.Test.YtfmojpkggkjceaaFrameRef
import Derived.Test.YtfmojpkggkjceaaFrameReq
namespace Go.Proofs.Ytfmojpkggkjceaa.Frame
open Go Go.RowKit Go.YtfmojpkggkjceaaMem Go.YtfmojpkggkjceaaLex
set_option linter.unusedVariables false
set_option linter.unusedSimpArgs false

theorem bytes_hd {q : Req} {n : Int} (h : q.may n) : q.bytes = [167, 1, 0, b8 q.body.length, b8 q.op, b8 q.rule] ++ (if q.op = 1 ∨ q.op = 2 then be 4 q.cost ++ [b8 q.key.length] ++ q.key else if q.op = 4 then [b8 q.k] else []) := by
  obtain ⟨l1, l2, l3⟩ := Req.may_len h
  have e : q.bytes = [167, 1, UInt8.ofNat (q.body.length / 256), UInt8.ofNat q.body.length, b8 q.op, b8 q.rule] ++ (if q.op = 1 ∨ q.op = 2 then be 4 q.cost ++ [b8 q.key.length] ++ q.key else if q.op = 4 then [b8 q.k] else []) := rfl
  rw [e, show q.body.length / 256 = 0 by omega]
  have : UInt8.ofNat q.body.length = b8 q.body.length := by
    unfold b8; congr 1; omega
  rw [this]; rfl
theorem lit6 (a b c : UInt8) : vb [167, 1, 0, a, b, c] = [.int .u8 167, .int .u8 1, .int .u8 0, .int .u8 a.toNat, .int .u8 b.toNat, .int .u8 c.toNat] := rfl

set_option maxRecDepth 4000 in
set_option maxHeartbeats 1600000 in
theorem refEncode (w : World) (q : Req) {n : Int} (hc : q.cost < 4294967296) (h : q.may n) :
    Calls Try.prog 17 #[q.val] w (Fresh w q.bytes) := by
  have hb := bytes_hd h
  obtain ⟨l1, l2, l3⟩ := Req.may_len h
  obtain ⟨h0, h1, h2, hh⟩ := h
  have HB := Lib.hid hb
  clear hb
  have B1 := Lib.hid (Box.new w q rfl)
  obtain ⟨op, rule, cost, key, k⟩ := q
  simp only [Req.val] at *
  by_cases h12 : op = 1 ∨ op = 2
  · rw [if_pos h12] at l3
    have hlt : decide (op < 3) = true := by simp; omega
    have hkl : key.length ≤ 64 := by omega
    have hop : 0 ≤ op ∧ op < 256 := by omega
    have hL : (7 : Int) + key.length = ((Req.body ⟨op, rule, cost, key, k⟩).length : Int) := by rw [l3]; omega
    have hlit : OwnB ((w.alloc (.cells #[.int .i64 op, .int .i64 rule, .int .u32 cost, .string ⟨key.toArray⟩, .int .i64 k] 32)).alloc (.cells #[.int .u8 167, .int .u8 1, .int .u8 0, .int .u8 (7 + key.length), .int .u8 op, .int .u8 rule] 5)) (w.heap.size + 1) (.slice (some ⟨w.heap.size + 1, 0, none⟩) 6 6) [167, 1, 0, b8 (Req.body ⟨op, rule, cost, key, k⟩).length, b8 op, b8 rule] := by
      exact own_new [167, 1, 0, b8 (Req.body ⟨op, rule, cost, key, k⟩).length, b8 op, b8 rule] _ (by rw [lit6, ← b8_val, ← b8_val, ← b8_val, ← hL, Int.emod_eq_of_lt (by omega) (by omega), Int.emod_eq_of_lt (a := op) (by omega) (by omega), Int.emod_eq_of_lt (a := rule) (by omega) (by omega)]) (by simp) (by simp) (by simp)
    have HLt := Lib.hid hlit
    clear hlit hL l1 l2 l3 hh
    go_enter Try.func17, Try.ntmps17
    go_wp2_with fail
    refine (refPut (B := w.heap.size + 1) HLt.out (by simp) 4 (by omega) (by omega) cost (by omega) (by simp)).mono ?_
    rintro e w2 ⟨v2, rfl, ho2, hM2, hat2⟩
    have hM2' : Mod [] w w2 := (((Mod.refl [] w).alloc _).alloc _).trans' hM2 (by simp [Value.ownBlock])
    have hbx2 := hM2.blk (B1.out.alloc _) (by simp [Value.ownBlock])
    have c3 : w2.cell? ⟨w.heap.size, 3, none⟩ = some (.string ⟨key.toArray⟩) := hbx2.cell rfl
    have hs2 : w.heap.size + 2 ≤ w2.heap.size := by have := hM2.size; simpa using this
    have HO2 := Lib.hid ho2
    have HM2 := Lib.hid hM2'
    have HB2 := Lib.hid hbx2
    clear ho2 hM2 hM2' hbx2 hat2
    go_wp2_with (at_builtin; go_must (first | (refine app_str key ho3 rfl _ _ rfl rfl rfl (by omega) (by simp [be_length]; omega) ?_; intro v4 w4 ho4 hM4) | (refine app_one (b8 key.length) _ _ (HO2.out.alloc _) rfl _ _ rfl rfl rfl (World.cell?_alloc_at _ _ _ _ rfl) (by rw [← b8_val]; omega) (by simp; omega) (by simp [be_length]) ?_; intro v3 w3 ho3 hM3 hat3; have hb2 := own_block HO2.out; have hs3 : w2.heap.size + 1 ≤ w3.heap.size := (by simpa using hM3.size); have hbx3 := hM3.blk (HB2.out.alloc _) (fun hx => by have := hb2 _ (by simpa using hx); omega); have c3' : w3.cell? ⟨w.heap.size, 3, none⟩ = some (.string ⟨key.toArray⟩) := hbx3.cell rfl)))
    have hM3' := (HM2.out.alloc (.cells #[.int .u8 key.length] 5)).trans' hM3 (fun x hx => by have := hb2 x (by simpa using hx); omega)
    have hb3 := own_block ho3
    have hM4' := hM3'.trans' hM4 (fun x hx => by have := hb3 x (by simpa using hx); omega)
    have HO4 := Lib.hid ho4
    have HM4 := Lib.hid hM4'
    clear ho4 hM4 hM4' c3' ho3 hM3 hM3' hat3 hbx3 c3
    go_wp2_with fail
    go_ret
    refine ⟨_, rfl, ?_, HM4.out⟩
    rw [HB.out, if_pos h12]
    have := own_base HO4.out (show w.heap.size ≤ w.heap.size + 1 by omega)
    simp only [List.append_assoc] at this ⊢
    unfold OwnB
    exact this
  · have hlt : decide (op < 3) = false := by simp; omega
    rw [if_neg h12] at l3
    by_cases h4 : op = 4
    · subst h4
      rw [if_pos rfl] at l3
      have hkk : 0 ≤ k ∧ k < 256 := by omega
      have hlit : OwnB ((w.alloc (.cells #[.int .i64 4, .int .i64 rule, .int .u32 cost, .string ⟨key.toArray⟩, .int .i64 k] 32)).alloc (.cells #[.int .u8 167, .int .u8 1, .int .u8 0, .int .u8 3, .int .u8 4, .int .u8 rule] 5)) (w.heap.size + 1) (.slice (some ⟨w.heap.size + 1, 0, none⟩) 6 6) [167, 1, 0, b8 (Req.body ⟨4, rule, cost, key, k⟩).length, b8 4, b8 rule] := by
        rw [l3]
        exact own_new [167, 1, 0, b8 ((3 : Nat) : Int), b8 4, b8 rule] _ (by rw [lit6, ← b8_val, ← b8_val, ← b8_val, Int.emod_eq_of_lt (a := rule) (by omega) (by omega)]; rfl) (by simp) (by simp) (by simp)
      have HLt := Lib.hid hlit
      clear hlit l1 l2 l3 hh hlt
      go_enter Try.func17, Try.ntmps17
      go_wp2_with (at_builtin; go_must (refine app_one (b8 k) _ _ (HLt.out.alloc _) rfl _ _ rfl rfl rfl (World.cell?_alloc_at _ _ _ _ (by simp)) (by rw [← b8_val]; omega) (by simp) (by simp) ?_; intro v3 w3 ho3 hM3 hat3))
      have hM3' : Mod [] w w3 := ((((Mod.refl [] w).alloc _).alloc _).alloc _).trans' hM3 (by simp [Value.ownBlock])
      have HO3 := Lib.hid ho3
      have HM3 := Lib.hid hM3'
      clear ho3 hM3 hM3' hat3
      go_wp2_with fail
      go_ret
      refine ⟨_, rfl, ?_, HM3.out⟩
      show OwnB w3 w.heap.size v3 (Req.bytes ⟨4, rule, cost, key, k⟩)
      rw [HB.out, if_neg h12]
      simp only [if_true]
      exact own_base HO3.out (show w.heap.size ≤ w.heap.size + 1 by omega)
    · rw [if_neg h4] at l3
      have ho3 : op = 3 := by omega
      subst ho3
      have hlit : OwnB ((w.alloc (.cells #[.int .i64 3, .int .i64 rule, .int .u32 cost, .string ⟨key.toArray⟩, .int .i64 k] 32)).alloc (.cells #[.int .u8 167, .int .u8 1, .int .u8 0, .int .u8 2, .int .u8 3, .int .u8 rule] 5)) (w.heap.size + 1) (.slice (some ⟨w.heap.size + 1, 0, none⟩) 6 6) [167, 1, 0, b8 (Req.body ⟨3, rule, cost, key, k⟩).length, b8 3, b8 rule] := by
        rw [l3]
        exact own_new [167, 1, 0, b8 ((2 : Nat) : Int), b8 3, b8 rule] _ (by rw [lit6, ← b8_val, ← b8_val, ← b8_val, Int.emod_eq_of_lt (a := rule) (by omega) (by omega)]; rfl) (by simp) (by simp) (by simp)
      have HLt := Lib.hid hlit
      clear hlit l1 l2 l3 hh hlt
      go_enter Try.func17, Try.ntmps17
      go_wp2_with fail
      go_ret
      refine ⟨_, rfl, ?_, ((Mod.refl [] w).alloc _).alloc _⟩
      rw [HB.out, if_neg h12, if_neg h4, List.append_nil]
      exact own_base HLt.out (show w.heap.size ≤ w.heap.size + 1 by omega)
end Go.Proofs.Ytfmojpkggkjceaa.Frame
