/- frame: the bytes of totals. -/
import Derived.Test.YtpjmoomjbcplgaaFrameAns
namespace Go.Proofs.Ytpjmoomjbcplgaa.Frame
open Go Go.RowKit Go.YtpjmoomjbcplgaaMem Go.YtpjmoomjbcplgaaLex
set_option linter.unusedVariables false
set_option linter.unusedSimpArgs false

def nums (l : List Int) : List UInt8 := l.flatMap fun x => be 8 (u64 x)
theorem nums_length (l : List Int) : (nums l).length = 8 * l.length := by
  induction l with
  | nil => rfl
  | cons x l ih => show (be 8 (u64 x) ++ nums l).length = _; rw [List.length_append, be_length, ih, List.length_cons]; omega

set_option maxRecDepth 4000 in
set_option maxHeartbeats 1600000 in
theorem totalled_any (w : World) (rule a b c d e : Int) :
    Calls Try.prog 18 #[.int .i64 rule, .agg #[.int .i64 a, .int .i64 b, .int .i64 c, .int .i64 d, .int .i64 e]] w (Fresh w (frame 0xA8 ([131, b8 rule] ++ nums [a, b, c, d, e]))) := by
  have hlit : OwnB ((w.alloc (.cells #[.int .i64 a, .int .i64 b, .int .i64 c, .int .i64 d, .int .i64 e] 40)).alloc (.cells #[.int .u8 131, .int .u8 (rule % 256)] 5)) (w.heap.size + 1) (.slice (some ⟨w.heap.size + 1, 0, none⟩) 2 2) [131, b8 rule] :=
    own_new [131, b8 rule] _ (by simp [vb, ← b8_val]) (by simp) (by simp) (by simp)
  have HL := Lib.hid hlit
  clear hlit
  go_enter Try.func18, Try.ntmps18
  go_wp2_with fail
  go_loopw [5, 22] (fun x i wr => ∃ (j : Nat), j ≤ 5 ∧ i = .int .i64 j ∧ OwnB wr (w.heap.size + 1) x ([131, b8 rule] ++ nums ([a, b, c, d, e].take j)) ∧ Mod [] w wr ∧ w.heap.size + 2 ≤ wr.heap.size) (fun _ i _ => 5 - (intOf i).toNat)
  case atStart => exact ⟨0, Nat.zero_le _, rfl, HL.out, ((Mod.refl [] w).alloc _).alloc _, by simp⟩
  case round =>
    obtain ⟨j, hj, rfl, hO, hM, hs⟩ := hrel
    have HO := Lib.hid hO
    have MR := Lib.hid hM
    clear hO hM
    by_cases hlt : j < 5
    · obtain ⟨x, hx⟩ : ∃ x, [a, b, c, d, e][j]? = some x := ⟨_, List.getElem?_eq_getElem hlt⟩
      have htk : nums ([a, b, c, d, e].take (j + 1)) = nums ([a, b, c, d, e].take j) ++ be 8 (u64 x) := by rw [List.take_add_one, hx]; simp [nums]
      have hlen := nums_length ([a, b, c, d, e].take j)
      rw [List.length_take] at hlen
      have hw := u64_wrap x
      have hwl := u64_lt x
      have HTK := Lib.hid htk
      have HLN := Lib.hid hlen
      clear htk hlen
      generalize hu : u64 x = u at *
      have fin : ∀ (wx : World) (hh : wx = wr), Calls Try.prog 30 #[u5, .int .i64 8, .int .u64 u] wr (Gave wr (w.heap.size + 1) u5 ([131, b8 rule] ++ nums ([a, b, c, d, e].take j) ++ be 8 u)) := fun _ _ =>
        put_any HO.out (by omega) 8 (by omega) u (by omega) (by have := HLN.out; simp; omega)
      have FIN := Lib.hid fin
      have hb0 := own_block HO.out
      clear fin hu
      have ix0 : ∀ W : World, (Instr.index 65 (.agg #[.int .i64 a, .int .i64 b, .int .i64 c, .int .i64 d, .int .i64 e]) (.int .i64 0)).run Try.prog W = .ok (.int .i64 a) W := fun W => rfl
      have ix1 : ∀ W : World, (Instr.index 65 (.agg #[.int .i64 a, .int .i64 b, .int .i64 c, .int .i64 d, .int .i64 e]) (.int .i64 1)).run Try.prog W = .ok (.int .i64 b) W := fun W => rfl
      have ix2 : ∀ W : World, (Instr.index 65 (.agg #[.int .i64 a, .int .i64 b, .int .i64 c, .int .i64 d, .int .i64 e]) (.int .i64 2)).run Try.prog W = .ok (.int .i64 c) W := fun W => rfl
      have ix3 : ∀ W : World, (Instr.index 65 (.agg #[.int .i64 a, .int .i64 b, .int .i64 c, .int .i64 d, .int .i64 e]) (.int .i64 3)).run Try.prog W = .ok (.int .i64 d) W := fun W => rfl
      have ix4 : ∀ W : World, (Instr.index 65 (.agg #[.int .i64 a, .int .i64 b, .int .i64 c, .int .i64 d, .int .i64 e]) (.int .i64 4)).run Try.prog W = .ok (.int .i64 e) W := fun W => rfl
      rcases (show j = 0 ∨ j = 1 ∨ j = 2 ∨ j = 3 ∨ j = 4 by omega) with rfl | rfl | rfl | rfl | rfl
      all_goals (simp at hx; subst hx)
      all_goals go_wp2_with fail
      all_goals refine (FIN.out wr rfl).mono ?_
      all_goals rintro e2 w2 ⟨v2, rfl, ho2, hM2, hat2⟩
      all_goals have M2 := Lib.hid (MR.out.trans' hM2 (fun x hx => by have := hb0 x (by simpa using hx); omega))
      all_goals have hs2 := hM2.size
      all_goals have O2 := Lib.hid ho2
      all_goals clear ho2 hM2 hat2
      all_goals go_wp2_with fail
      all_goals refine ⟨⟨_, ?_, ?_, by rw [HTK.out, ← List.append_assoc]; exact O2.out, M2.out, by omega⟩, by simp [intOf]⟩
      all_goals first | omega | rfl | go_num
    · obtain rfl : j = 5 := by omega
      go_wp2_with fail
      refine (whole_any 0xA8 (Sl.own HO.out) (by simp) (by have := nums_length ([a, b, c, d, e].take 5); simp at this ⊢; omega)).mono ?_
      rintro e4 w4 ⟨v4, rfl, ho4, hM4⟩
      have O4 := Lib.hid ho4
      have M4 := Lib.hid (MR.out.trans hM4)
      clear ho4 hM4
      go_wp2_with fail
      go_ret
      exact ⟨_, rfl, own_base O4.out (by omega), M4.out⟩
end Go.Proofs.Ytpjmoomjbcplgaa.Frame
