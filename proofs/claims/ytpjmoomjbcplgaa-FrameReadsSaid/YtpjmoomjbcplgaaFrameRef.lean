/- The document's frame: put, Encode. -/
import Derived.Test.YtpjmoomjbcplgaaParse2
namespace Go.Proofs.Ytpjmoomjbcplgaa.Frame
open Go Go.RowKit Go.YtpjmoomjbcplgaaMem Go.YtpjmoomjbcplgaaLex
set_option linter.unusedVariables false
set_option linter.unusedSimpArgs false

theorem make_bytes (n : Nat) (hn : n ≤ 1000000) (w : World) : (Instr.makeSlice 28 (.int .i64 (n : Int)) (.int .i64 (n : Int))).run Try.prog w = .ok (.slice (some ⟨w.heap.size, 0, none⟩) n n) (w.alloc (.cells (vb (List.replicate n 0)).toArray 5)) := by
  obtain ⟨i, hi, hz⟩ : ∃ i, Try.prog.info? 5 = some i ∧ i.zero = some (.int .u8 0) ∧ i.size = 1 ∧ i.bytes = 1 := ⟨_, rfl, rfl, rfl, rfl⟩
  rw [run_make (P := Try.prog) (w := w) 28 5 i _ Try.underlying28 hi hz.1 .i64 .i64 n n (by omega) (by omega) (by rw [hz.2.2]; omega) (by omega)]
  have : madeCells (Value.int IntKind.u8 0).cells ((n : Int).toNat * i.size) = (vb (List.replicate n 0)).toArray := by
    rw [hz.2.1, Nat.mul_one, Int.toNat_natCast]
    apply Array.ext'
    rw [show (Value.int IntKind.u8 0).cells = #[Value.int .u8 0] from rfl, toList_madeCells_one]
    simp [vb]
  rw [this, Int.toNat_natCast]

theorem be_get {k x i : Nat} (h : i < k) : (be k x)[i]'(by rw [be_length]; exact h) = UInt8.ofNat (x / 256 ^ (k - 1 - i)) := by simp [be]
/-- What the row holds when the last j bytes are laid. -/
def part (k x m : Nat) : List UInt8 := List.replicate m 0 ++ (be k x).drop m
theorem part_length {k x m : Nat} (h : m ≤ k) : (part k x m).length = k := by simp [part, be_length]; omega
theorem part_set {k x m : Nat} (h : m < k) : (part k x (m + 1)).set m (UInt8.ofNat (x / 256 ^ (k - 1 - m))) = part k x m := by
  unfold part
  rw [List.replicate_succ', List.append_assoc, List.set_append_right _ _ (by simp)]
  rw [List.drop_eq_getElem_cons (i := m) (by rw [be_length]; exact h), be_get h]
  simp
theorem vb_set {bs : List UInt8} (i : Nat) (c : UInt8) : (vb bs).set i (.int .u8 c.toNat) = vb (bs.set i c) := by simp [vb, List.map_set]
theorem div_byte (x j : Nat) : ((x / 256 ^ j : Nat) : Int) % 256 = ((UInt8.ofNat (x / 256 ^ j)).toNat : Int) := by
  rw [UInt8.toNat_ofNat']; omega

set_option maxHeartbeats 1600000 in
theorem refPut {w : World} {B : Nat} {v : Value} {bs : List UInt8} (h : OwnB w B v bs) (hB : B ≤ w.heap.size) (k : Nat) (hk : k ≤ 8) (hk1 : 1 ≤ k) (x : Nat) (hx : x < 18446744073709551616) (hl : bs.length ≤ 900000) :
    Calls Try.prog 32 #[v, .int .i64 k, .int .u64 x] w (Gave w B v (bs ++ be k x)) := by
  have H := Lib.hid h
  have hown := h.lt
  have hv1 : ∀ b, v.ownBlock = some b → b < w.heap.size := fun b hb => (hown b hb).2
  clear h hown
  have HV := Lib.hid hv1
  clear hv1
  have hmk := make_bytes k (by omega) w
  have hb0 := Blk.new w (vb (part k x k)) 5
  have e0 : vb (part k x k) = vb (List.replicate k 0) := by unfold part; rw [List.drop_of_length_le (by rw [be_length]; omega), List.append_nil]
  rw [e0] at hb0
  have HB0 := Lib.hid hb0
  have HE0 := Lib.hid e0
  clear hb0 e0
  go_enter Try.func32, Try.ntmps32
  go_wp2_with fail
  clear hmk
  go_loopw [2, 8] (fun y i wr => ∃ j : Nat, j ≤ k ∧ i = .int .i64 ((k : Int) - 1 - j) ∧ (∃ z : Nat, z = x / 256 ^ j ∧ y = .int .u64 z) ∧ Blk wr w.heap.size 5 (vb (part k x (k - j))) ∧ Mod [] w wr) (fun _ i _ => (intOf i + 1).toNat)
  case atStart => exact ⟨0, Nat.zero_le _, by simp, ⟨x, by simp, rfl⟩, by rw [Nat.sub_zero, HE0.out]; exact HB0.out, (Mod.refl _ _).alloc _⟩
  case round =>
    obtain ⟨j, hj, rfl, ⟨z, hz, rfl⟩, hb, hM⟩ := hrel
    have hzx : z < 18446744073709551616 := Nat.lt_of_le_of_lt (by rw [hz]; exact Nat.div_le_self _ _) hx
    have HZ := Lib.hid hz
    have hs := hM.size
    have hbl := hb.lt
    have HB := Lib.hid hb
    have HM := Lib.hid hM
    by_cases hlt : j < k
    · have hf := hb.free (k - 1 - j)
      obtain ⟨old, cd⟩ : ∃ old, wr.cell? ⟨w.heap.size, k - 1 - j, none⟩ = some old := ⟨_, hb.cell (List.getElem?_eq_getElem (by rw [vb_length, part_length (by omega)]; omega))⟩
      clear hb hM hz
      go_wp2_with fail
      have hz := HZ.out
      refine ⟨⟨j + 1, by omega, by go_num, ⟨z / 256, by rw [hz, Nat.div_div_eq_div_mul, Nat.pow_succ], by simp⟩, ?_, HM.out.setCell (by simp) _⟩, by simp [intOf]; omega⟩
      have := HB.out.set (k - 1 - j) (.int .u8 ((z : Int) % 256))
      have ez : ((z : Int) % 256) = ((UInt8.ofNat (x / 256 ^ (k - 1 - (k - 1 - j)))).toNat : Int) := by
        rw [show k - 1 - (k - 1 - j) = j by omega, ← hz, UInt8.toNat_ofNat']; omega
      rw [ez, vb_set, show k - j = (k - 1 - j) + 1 by omega, part_set (by omega)] at this
      rw [ez, show k - (j + 1) = k - 1 - j by omega]
      exact this
    · obtain rfl : j = k := by omega
      have hend : ¬ (0 : Int) ≤ (j : Int) - 1 - j := by omega
      have hown : wr.ownsRow B 5 1 v bs.length (vb bs) := HM.out.own H.out (fun b hb => by simp)
      clear hb hM hz
      go_wp2_with (at_builtin; go_must (refine app_row (be j x) ⟨w.heap.size, 0, none⟩ j hown rfl _ _ rfl rfl (by rw [be_length]; rfl) (fun i u hu => by rw [add_eq, Nat.zero_add]; have hb := HB.out; rw [Nat.sub_self] at hb; exact hb.cell hu) (by omega) (by rw [be_length]; omega) ?_; intro v3 w3 ho3 hM3 hat3))
      have HO3 := Lib.hid ho3
      have HM3 := Lib.hid hM3
      have HAT := Lib.hid hat3
      clear ho3 hM3 hat3
      go_wp2_with fail
      go_ret
      refine ⟨_, rfl, HO3.out, ?_, fun b hb => ?_⟩
      · exact (HM.out.mono (by simp)).trans' HM3.out (fun y hy => .inl hy)
      · rcases HAT.out b hb with q | q
        · exact .inl q
        · right; omega
end Go.Proofs.Ytpjmoomjbcplgaa.Frame
