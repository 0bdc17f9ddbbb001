/- index.Index: Size, New. -/
import Derived.Test.YtajadfoannmaiaaIndex3
import Derived.Deep.OwnRows
import Derived.Laws.OwnMore
namespace Go.Proofs.Ytajadfoannmaiaa.Index
open Go Go.RowKit Go.YtajadfoannmaiaaMem Go.YtajadfoannmaiaaLex Go.Proofs.Ytajadfoannmaiaa.Hash Go.Proofs.Ytajadfoannmaiaa.Keys Go.Proofs.Ytajadfoannmaiaa.Probe
set_option linter.unusedVariables false
set_option linter.unusedSimpArgs false

theorem size_any (n : Nat) (hn : n ≤ 1000000) (w : World) : Calls Try.prog 34 #[.int .i64 n] w fun e w' => e = .returned (.int .i64 ((2 * n + 1 : Nat) : Int)) ∧ w = w' := by
  have e1 : ((2 * n + 1 : Nat) : Int) = 2 * (n : Int) + 1 := by omega
  rw [e1]
  go_enter Try.func34, Try.ntmps34
  go_wp2_with fail
  go_ret
  exact ⟨rfl, rfl⟩
theorem ix_empty (hm : List UInt8 → Nat) {S : List (Option (List UInt8))} (hS : ∀ (p : Nat) (k : List UInt8), S[p]? ≠ some (some k)) : Ix hm S (List.replicate (2 * S.length + 1) 0) := by
  have hz : ∀ (i p : Nat), (List.replicate (2 * S.length + 1) 0)[i]? ≠ some (p + 1) := fun i p h => by
    rw [List.getElem?_replicate] at h
    split at h <;> simp at h
  exact ⟨List.length_replicate, fun i p h => absurd h (hz i p), fun p k h => absurd h (hS p k), fun i j p h => absurd h (hz i p), fun p q k h => absurd h (hS p k)⟩
def MadePost (g : Nat) (B : List Nat) (r : Row) (S : List (Option (List UInt8))) (fl : List Nat) (w : World) (e : Ending) (w' : World) : Prop :=
  ∃ x L, e = .returned (.pointer (some ⟨x, 0, none⟩)) ∧ IdxAt w' x g L r S fl ∧ (∀ b, b ∈ L → b ∈ B ∨ w.heap.size ≤ b) ∧ w.heap.size ≤ x ∧ Mod [] w w'
theorem sto_lt {w : World} {g b1 b2 b3 : Nat} {S : List (Option (List UInt8))} {fl : List Nat} {bs : List UInt8} {nx : List Int} (h : Sto w g b1 b2 b3 S fl bs nx) : ∀ b, b ∈ [g, b1, b2, b3] → b < w.heap.size := by
  intro b hb
  simp at hb
  rcases hb with rfl | rfl | rfl | rfl
  · exact h.blk.lt
  · exact h.bytes.lt
  · exact h.sizes.lt
  · exact h.nexts.lt
set_option maxRecDepth 4000 in
set_option maxHeartbeats 1600000 in
theorem new_any {w : World} {g b1 b2 b3 : Nat} {S : List (Option (List UInt8))} {fl : List Nat} {bs : List UInt8} {nx : List Int} (h : Sto w g b1 b2 b3 S fl bs nx) (hS : ∀ (p : Nat) (k : List UInt8), S[p]? ≠ some (some k)) (r : Row) (hr : r.ok) :
    Calls Try.prog 21 #[.pointer (some ⟨g, 0, none⟩), .agg #[.int .u64 (r.x : Int), .int .u64 (r.a : Int), .int .u64 (r.b : Int)]] w (MadePost g [g, b1, b2, b3] r S fl w) := by
  have hlt := sto_lt h
  have hfew := h.few
  have HL := Lib.hid (fun (W : World) (hM : Mod [] w W) => len_any (h.mod hM (by simp)))
  have HS := Lib.hid h
  have HE := Lib.hid (ix_empty (homeOf r (2 * S.length + 1)) hS)
  obtain ⟨n, hn⟩ : ∃ n, S.length = n := ⟨_, rfl⟩
  rw [hn] at hfew HL HE
  have HZ := Lib.hid (fun (W : World) => size_any n (by omega) W)
  obtain ⟨N, hN⟩ : ∃ N, 2 * n + 1 = N := ⟨_, rfl⟩
  rw [hN] at HE HZ
  have HNN := Lib.hid hN
  have HLN := Lib.hid hn
  have hN2 : N ≤ 4001 := by omega
  have m1 := run_make_row' (P := Try.prog) 80 21 (.int .i32 0) 4 Try.underlying80 i32_info rfl .i64 .i64 N (by omega) (by omega)
  obtain ⟨L1, h1⟩ : ∃ L1, tbl (List.replicate N 0) = L1 := ⟨_, rfl⟩
  have q1 : madeCells #[.int .i32 0] N = L1.toArray := by
    rw [← Array.toArray_toList (xs := madeCells _ _), toList_madeCells_one, ← h1]; unfold tbl; rw [List.map_replicate]; rfl
  rw [q1] at m1
  have H1 := Lib.hid h1
  have HLT := Lib.hid hlt
  clear h hS hn hN h1 q1 hlt
  obtain ⟨rx, ra, rb⟩ := r
  have HR := Lib.hid hr
  have HB := Lib.hid (Blk.new w [.int .u64 (rx : Int), .int .u64 (ra : Int), .int .u64 (rb : Int)] 27)
  have k0 := HB.out.cell (i := 0) rfl
  have k1 := HB.out.cell (i := 1) rfl
  have k2 := HB.out.cell (i := 2) rfl
  have M0 := Lib.hid ((Mod.refl [] w).alloc (.cells [.int .u64 (rx : Int), .int .u64 (ra : Int), .int .u64 (rb : Int)].toArray 27))
  clear hr
  simp only at *
  go_enter Try.func21, Try.ntmps21
  go_wp2_with fail
  refine wp_region_held [4, 1] [1] [] (by kernel_rfl) (by kernel_rfl) ?_
  simp only [wpCut, List.take_succ_cons, List.take_zero, List.drop_succ_cons, List.drop_zero, List.cons_append, List.nil_append]
  go_wp2_with fail
  refine (HL.out _ M0.out.drew).mono ?_
  rintro e1 w1 ⟨rfl, rfl⟩
  go_wp2_with fail
  refine ⟨Mod.refl _ _, ?_⟩
  go_wp2_with fail
  refine (HZ.out _).mono ?_
  rintro e1 w1 ⟨rfl, rfl⟩
  go_wp2_with fail
  refine ⟨Mod.refl _ _, ?_⟩
  have isc : IsC (w.alloc (.cells #[.int .u64 (rx : Int), .int .u64 (ra : Int), .int .u64 (rb : Int)] 27)).drew w.heap.size := isC_of_cell (w := w.alloc _) k0
  have IS := Lib.hid isc
  clear isc
  go_wp2_with fail
  refine ⟨by kernel_rfl, ⟨⟨by simp, IS.out⟩, trivial⟩, ?_⟩
  go_wp2_with fail
  go_ret
  have hl := HLT.out
  obtain ⟨W1, hW1⟩ : ∃ W1, w.alloc (.cells #[.int .u64 (rx : Int), .int .u64 (ra : Int), .int .u64 (rb : Int)] 27) = W1 := ⟨_, rfl⟩
  have hs1 : W1.heap.size = w.heap.size + 1 := by rw [← hW1]; simp
  have M1 : Mod [] w W1 := by rw [← hW1]; exact (Mod.refl [] w).alloc _
  rw [hW1]
  have B1 := (Blk.new W1 L1 21)
  rw [hs1] at B1
  obtain ⟨W2, hW2⟩ : ∃ W2, W1.alloc (.cells L1.toArray 21) = W2 := ⟨_, rfl⟩
  have hs2 : W2.heap.size = w.heap.size + 1 + 1 := by rw [← hW2]; simp [hs1]
  have M2 : Mod [] w W2 := by rw [← hW2]; exact M1.alloc _
  rw [hW2] at B1 ⊢
  have B2 := (Blk.new W2 [.pointer (some ⟨g, 0, none⟩), .int .u64 (rx : Int), .int .u64 (ra : Int), .int .u64 (rb : Int), .slice (some ⟨w.heap.size + 1, 0, none⟩) N N] 86)
  rw [hs2] at B2
  have M3 := (M2.alloc (.cells #[.pointer (some ⟨g, 0, none⟩), .int .u64 (rx : Int), .int .u64 (ra : Int), .int .u64 (rb : Int), .slice (some ⟨w.heap.size + 1, 0, none⟩) N N] 86)).drew
  refine ⟨w.heap.size + 1 + 1, [w.heap.size + 1 + 1, g, b1, b2, b3, w.heap.size + 1], rfl, ⟨b1, b2, b3, w.heap.size + 1, bs, nx, List.replicate N 0, rfl, HS.out.mod M3 (by simp), ?_, ?_, HR.out, ?_, ?_⟩, ?_, by omega, M3⟩
  · rw [List.length_replicate]; exact B2.drew
  · rw [H1.out]; exact (B1.alloc _).drew
  · rw [List.length_replicate]
    exact HE.out
  · refine ⟨by omega, fun hm => ?_, fun hm => ?_⟩
    · have := hl _ hm; omega
    · have := hl _ hm; omega
  · intro b hb
    simp at hb
    rcases hb with rfl | rfl | rfl | rfl | rfl | rfl
    · exact .inr (by omega)
    · exact .inl (by simp)
    · exact .inl (by simp)
    · exact .inl (by simp)
    · exact .inl (by simp)
    · exact .inr (by omega)
end Go.Proofs.Ytajadfoannmaiaa.Index
