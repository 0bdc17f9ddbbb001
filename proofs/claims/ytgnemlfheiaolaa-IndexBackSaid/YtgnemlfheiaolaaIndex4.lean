/- index.Index: Size, Bytes, New; a law's row; fit. -/
import Derived.Test.YtgnemlfheiaolaaIndex3
import Derived.Deep.OwnRows
import Derived.Laws.OwnMore
namespace Go.Proofs.Ytgnemlfheiaolaa.Index
open Go Go.RowKit Go.YtgnemlfheiaolaaMem Go.YtgnemlfheiaolaaLex Go.Proofs.Ytgnemlfheiaolaa.Hash Go.Proofs.Ytgnemlfheiaolaa.Keys Go.Proofs.Ytgnemlfheiaolaa.Probe
set_option linter.unusedVariables false
set_option linter.unusedSimpArgs false

theorem size_any (n : Nat) (hn : n ≤ 1000000) (w : World) : Calls Try.prog 18 #[.int .i64 n] w fun e w' => e = .returned (.int .i64 ((2 * n + 1 : Nat) : Int)) ∧ w = w' := by
  have e1 : ((2 * n + 1 : Nat) : Int) = 2 * (n : Int) + 1 := by omega
  rw [e1]
  go_enter Try.func18, Try.ntmps18
  go_wp2_with fail
  go_ret
  exact ⟨rfl, rfl⟩
theorem ix_empty (hm : List UInt8 → Nat) {S : List (Option (List UInt8))} (hS : ∀ (p : Nat) (k : List UInt8), S[p]? ≠ some (some k)) : Ix hm S (List.replicate (2 * S.length + 1) 0) := by
  have hz : ∀ (i p : Nat), (List.replicate (2 * S.length + 1) 0)[i]? ≠ some (p + 1) := fun i p h => by
    rw [List.getElem?_replicate] at h
    split at h <;> simp at h
  exact ⟨List.length_replicate, fun i p h => absurd h (hz i p), fun p k h => absurd h (hS p k), fun i j p h => absurd h (hz i p), fun p q k h => absurd h (hS p k)⟩
def MadePost (g : Nat) (B : List Nat) (r : Row) (S : List (Option (List UInt8))) (fl : List Nat) (w : World) (e : Ending) (w' : World) : Prop :=
  ∃ x L, e = .returned (.pointer (some ⟨x, 0, none⟩)) ∧ IdxAt w' x g L r S fl ∧ (∀ b, b ∈ L → b ∈ B ∨ w.heap.size ≤ b) ∧ w.heap.size ≤ x ∧ Mod [] w w'
theorem sto_lt {w : World} {g b1 b2 b3 : Nat} {S : List (Option (List UInt8))} {fl : List Nat} {bs : List UInt8} {nx : List Int} (h : Sto w g b1 b2 b3 S fl bs nx) : ∀ b, b ∈ [g, b1, b2, b3] → b < w.heap.size := by
  intro b hb
  simp at hb
  rcases hb with rfl | rfl | rfl | rfl
  · exact h.blk.lt
  · exact h.bytes.lt
  · exact h.sizes.lt
  · exact h.nexts.lt
set_option maxRecDepth 4000 in
set_option maxHeartbeats 1600000 in
theorem new_any {w : World} {g b1 b2 b3 : Nat} {S : List (Option (List UInt8))} {fl : List Nat} {bs : List UInt8} {nx : List Int} (h : Sto w g b1 b2 b3 S fl bs nx) (hS : ∀ (p : Nat) (k : List UInt8), S[p]? ≠ some (some k)) (r : Row) (hr : r.ok) :
    Calls Try.prog 8 #[.pointer (some ⟨g, 0, none⟩), .agg #[.int .u64 (r.x : Int), .int .u64 (r.a : Int), .int .u64 (r.b : Int)]] w (MadePost g [g, b1, b2, b3] r S fl w) := by
  have hlt := sto_lt h
  have hfew := h.few
  have HL := Lib.hid (fun (W : World) (hM : Mod [] w W) => len_any (h.mod hM (by simp)))
  have HS := Lib.hid h
  have HE := Lib.hid (ix_empty (homeOf r (2 * S.length + 1)) hS)
  obtain ⟨n, hn⟩ : ∃ n, S.length = n := ⟨_, rfl⟩
  rw [hn] at hfew HL HE
  have HZ := Lib.hid (fun (W : World) => size_any n (by omega) W)
  obtain ⟨N, hN⟩ : ∃ N, 2 * n + 1 = N := ⟨_, rfl⟩
  rw [hN] at HE HZ
  have HNN := Lib.hid hN
  have HLN := Lib.hid hn
  have hN2 : N ≤ 4001 := by omega
  have m1 := run_make_row' (P := Try.prog) 52 21 (.int .i32 0) 4 Try.underlying52 i32_info rfl .i64 .i64 N (by omega) (by omega)
  obtain ⟨L1, h1⟩ : ∃ L1, tbl (List.replicate N 0) = L1 := ⟨_, rfl⟩
  have q1 : madeCells #[.int .i32 0] N = L1.toArray := by
    rw [← Array.toArray_toList (xs := madeCells _ _), toList_madeCells_one, ← h1]; unfold tbl; rw [List.map_replicate]; rfl
  rw [q1] at m1
  have H1 := Lib.hid h1
  have HLT := Lib.hid hlt
  clear h hS hn hN h1 q1 hlt
  obtain ⟨rx, ra, rb⟩ := r
  have HR := Lib.hid hr
  have HB := Lib.hid (Blk.new w [.int .u64 (rx : Int), .int .u64 (ra : Int), .int .u64 (rb : Int)] 32)
  have k0 := HB.out.cell (i := 0) rfl
  have k1 := HB.out.cell (i := 1) rfl
  have k2 := HB.out.cell (i := 2) rfl
  have M0 := Lib.hid ((Mod.refl [] w).alloc (.cells [.int .u64 (rx : Int), .int .u64 (ra : Int), .int .u64 (rb : Int)].toArray 32))
  clear hr
  simp only at *
  go_enter Try.func8, Try.ntmps8
  go_wp2_with fail
  refine wp_region_held [4, 1] [1] [] (by kernel_rfl) (by kernel_rfl) ?_
  simp only [wpCut, List.take_succ_cons, List.take_zero, List.drop_succ_cons, List.drop_zero, List.cons_append, List.nil_append]
  go_wp2_with fail
  refine (HL.out _ M0.out.drew).mono ?_
  rintro e1 w1 ⟨rfl, rfl⟩
  go_wp2_with fail
  refine ⟨Mod.refl _ _, ?_⟩
  go_wp2_with fail
  refine (HZ.out _).mono ?_
  rintro e1 w1 ⟨rfl, rfl⟩
  go_wp2_with fail
  refine ⟨Mod.refl _ _, ?_⟩
  have isc : IsC (w.alloc (.cells #[.int .u64 (rx : Int), .int .u64 (ra : Int), .int .u64 (rb : Int)] 32)).drew w.heap.size := isC_of_cell (w := w.alloc _) k0
  have IS := Lib.hid isc
  clear isc
  go_wp2_with fail
  refine ⟨by kernel_rfl, ⟨⟨by simp, IS.out⟩, trivial⟩, ?_⟩
  go_wp2_with fail
  go_ret
  have hl := HLT.out
  obtain ⟨W1, hW1⟩ : ∃ W1, w.alloc (.cells #[.int .u64 (rx : Int), .int .u64 (ra : Int), .int .u64 (rb : Int)] 32) = W1 := ⟨_, rfl⟩
  have hs1 : W1.heap.size = w.heap.size + 1 := by rw [← hW1]; simp
  have M1 : Mod [] w W1 := by rw [← hW1]; exact (Mod.refl [] w).alloc _
  rw [hW1]
  have B1 := (Blk.new W1 L1 21)
  rw [hs1] at B1
  obtain ⟨W2, hW2⟩ : ∃ W2, W1.alloc (.cells L1.toArray 21) = W2 := ⟨_, rfl⟩
  have hs2 : W2.heap.size = w.heap.size + 1 + 1 := by rw [← hW2]; simp [hs1]
  have M2 : Mod [] w W2 := by rw [← hW2]; exact M1.alloc _
  rw [hW2] at B1 ⊢
  have B2 := (Blk.new W2 [.pointer (some ⟨g, 0, none⟩), .int .u64 (rx : Int), .int .u64 (ra : Int), .int .u64 (rb : Int), .slice (some ⟨w.heap.size + 1, 0, none⟩) N N] 54)
  rw [hs2] at B2
  have M3 := (M2.alloc (.cells #[.pointer (some ⟨g, 0, none⟩), .int .u64 (rx : Int), .int .u64 (ra : Int), .int .u64 (rb : Int), .slice (some ⟨w.heap.size + 1, 0, none⟩) N N] 54)).drew
  refine ⟨w.heap.size + 1 + 1, [w.heap.size + 1 + 1, g, b1, b2, b3, w.heap.size + 1], rfl, ⟨b1, b2, b3, w.heap.size + 1, bs, nx, List.replicate N 0, rfl, HS.out.mod M3 (by simp), ?_, ?_, HR.out, ?_, ?_⟩, ?_, by omega, M3⟩
  · rw [List.length_replicate]; exact B2.drew
  · rw [H1.out]; exact (B1.alloc _).drew
  · rw [List.length_replicate]
    exact HE.out
  · refine ⟨by omega, fun hm => ?_, fun hm => ?_⟩
    · have := hl _ hm; omega
    · have := hl _ hm; omega
  · intro b hb
    simp at hb
    rcases hb with rfl | rfl | rfl | rfl | rfl | rfl
    · exact .inr (by omega)
    · exact .inl (by simp)
    · exact .inl (by simp)
    · exact .inl (by simp)
    · exact .inl (by simp)
    · exact .inr (by omega)
/-- The function that a law's three draws give. -/
def v3 (a b c : Nat) : Value := .agg #[.int .u64 (a : Int), .int .u64 (b : Int), .int .u64 (c : Int)]
def RowPost (l : List Nat) (w : World) (e : Ending) (w' : World) : Prop :=
  e = .returned (.agg #[.int .u64 ((rowOf l).x : Int), .int .u64 ((rowOf l).a : Int), .int .u64 ((rowOf l).b : Int)]) ∧ Mod [] w w'
set_option maxRecDepth 4000 in
theorem row_any (a b c : Nat) (ha : a < 18446744073709551616) (hb : b < 18446744073709551616) (hc : c < 18446744073709551616) (w : World) :
    Calls Try.prog 10 #[v3 a b c] w (RowPost [a, b, c] w) := by
  unfold v3 RowPost
  have HB := Lib.hid (Blk.new w [.int .u64 (a : Int), .int .u64 (b : Int), .int .u64 (c : Int)] 23)
  have R : Hid (∀ W, Mod [] (w.alloc (.cells #[.int .u64 (a : Int), .int .u64 (b : Int), .int .u64 (c : Int)] 23)) W → Calls Try.prog 20 #[.slice (some ⟨w.heap.size, 0, none⟩) 3 3, .int .i64 1] W (RowsPost [a, b, c] W)) := Lib.hid fun W hM => by
    refine rows_one (l := [a, b, c]) (.inr ⟨w.heap.size, 0, 3, rfl, by simp [v64], by unfold maxLen; omega, hM.lt (by simp), fun i u hu => ?_⟩) (fun x hx => by simp at hx; omega)
    rw [Nat.zero_add]
    exact (hM.blk HB.out (by simp)).cell (by exact hu)
  obtain ⟨r, hr⟩ : ∃ r, rowOf [a, b, c] = r := ⟨_, rfl⟩
  unfold RowsPost at R
  rw [hr] at R ⊢
  have k0 := HB.out.cell (i := 0) rfl
  clear hr
  obtain ⟨rx, ra, rb⟩ := r
  simp only at *
  go_enter Try.func10, Try.ntmps10
  go_wp2_with fail
  refine (R.out _ ((Mod.refl [] _).alloc _)).mono ?_
  rintro e1 w1 ⟨g, cp, rfl, hg, hgl, hc1, hc2, hcell, hM1⟩
  have M1 := Lib.hid hM1
  have q0 := hcell 0 _ rfl
  have q1 := hcell 1 _ rfl
  have q2 := hcell 2 _ rfl
  have B2 := Blk.new (w.alloc (.cells #[.int .u64 (a : Int), .int .u64 (b : Int), .int .u64 (c : Int)] 23)) [.int .u64 0, .int .u64 0, .int .u64 0] 32
  rw [show (w.alloc (.cells #[.int .u64 (a : Int), .int .u64 (b : Int), .int .u64 (c : Int)] 23)).heap.size = w.heap.size + 1 by simp] at B2
  have B3 := hM1.blk B2 (by simp)
  have r0 := B3.cell (i := 0) rfl
  have r1 := B3.cell (i := 1) rfl
  have r2 := B3.cell (i := 2) rfl
  have f0 := B3.free 0
  have f1 := B3.free 1
  have f2 := B3.free 2
  have HB3 := Lib.hid B3
  clear hM1 hcell B2 B3
  go_wp2_with fail
  have B4 := ((HB3.out.set 0 (.int .u64 (rx : Int))).set 1 (.int .u64 (ra : Int))).set 2 (.int .u64 (rb : Int))
  refine bodyPost_ret (v := .agg #[.int .u64 (rx : Int), .int .u64 (ra : Int), .int .u64 (rb : Int)]) (results_cell_row (p := 2) (ty := 32) rfl _ _ (w.heap.size + 1) 32 #[.int .u64 (rx : Int), .int .u64 (ra : Int), .int .u64 (rb : Int)] (0, 0) _ rfl B4 Try.underlying32 rfl (by kernel_rfl)) rfl ⟨rfl, ?_⟩
  have MA := ((Mod.refl [] w).alloc (.cells #[.int .u64 (a : Int), .int .u64 (b : Int), .int .u64 (c : Int)] 23)).alloc (.cells #[.int .u64 0, .int .u64 0, .int .u64 0] 32)
  have hs : w.heap.size ≤ w.heap.size + 1 := by omega
  exact (((MA.trans M1.out).setCell (p := ⟨w.heap.size + 1, 0, none⟩) (.inr hs) _).setCell (p := ⟨w.heap.size + 1, 1, none⟩) (.inr hs) _).setCell (p := ⟨w.heap.size + 1, 2, none⟩) (.inr hs) _
end Go.Proofs.Ytgnemlfheiaolaa.Index
