/- summary.Summary: New. -/
import Derived.Test.YtpobjhmfidebbaaSum
import Derived.Test.YtpobjhmfidebbaaMakers
namespace Go.Proofs.Ytpobjhmfidebbaa.Sum
open Go Go.RowKit Go.YtpobjhmfidebbaaMem Go.YtpobjhmfidebbaaLex Go.Proofs.Ytpobjhmfidebbaa.Hash Go.Proofs.Ytpobjhmfidebbaa.Keys Go.Proofs.Ytpobjhmfidebbaa.Index
set_option linter.unusedVariables false
set_option linter.unusedSimpArgs false

theorem i64_info : (Try.prog.info? 2).map (fun i => (i.zero, i.size, i.bytes)) = some (some (.int .i64 0), 1, 8) := by kernel_rfl
theorem i32_info : (Try.prog.info? 21).map (fun i => (i.zero, i.size, i.bytes)) = some (some (.int .i32 0), 1, 4) := by kernel_rfl
theorem make_i64 (n : Nat) (hn : n ≤ 2000) (w : World) : (Instr.makeSlice 64 (.int .i64 (n : Int)) (.int .i64 (n : Int))).run Try.prog w = .ok (.slice (some ⟨w.heap.size, 0, none⟩) n n) (w.alloc (.cells (i64s (List.replicate n 0)).toArray 2)) := by
  have h := run_make_row' (P := Try.prog) 64 2 (.int .i64 0) 8 Try.underlying64 i64_info rfl .i64 .i64 n (by omega) (by omega)
  have e : madeCells #[.int .i64 0] n = (i64s (List.replicate n 0)).toArray := by
    rw [← Array.toArray_toList (xs := madeCells _ _), toList_madeCells_one]; unfold i64s; rw [List.map_replicate]
  rw [e] at h
  exact h w
theorem make_i32 (n : Nat) (hn : n ≤ 2000) (w : World) : (Instr.makeSlice 65 (.int .i64 (n : Int)) (.int .i64 (n : Int))).run Try.prog w = .ok (.slice (some ⟨w.heap.size, 0, none⟩) n n) (w.alloc (.cells (i32s (List.replicate n 0)).toArray 21)) := by
  have h := run_make_row' (P := Try.prog) 65 21 (.int .i32 0) 4 Try.underlying65 i32_info rfl .i64 .i64 n (by omega) (by omega)
  have e : madeCells #[.int .i32 0] n = (i32s (List.replicate n 0)).toArray := by
    rw [← Array.toArray_toList (xs := madeCells _ _), toList_madeCells_one]; unfold i32s; rw [List.map_replicate]
  rw [e] at h
  exact h w
/-- What each of New's first operations makes. -/
def RNew (n : Nat) : Nat → Value → List Nat → World → Prop
  | 1, v, bs, w => ∃ g b1 b2 b3 ks nx, v = .pointer (some ⟨g, 0, none⟩) ∧ Sto w g b1 b2 b3 (List.replicate n none) (List.range n) ks nx ∧ bs = [g, b1, b2, b3]
  | 3, v, bs, w => ∃ b, v = .slice (some ⟨b, 0, none⟩) n n ∧ Blk w b 2 (i64s (List.replicate n 0)) ∧ bs = [b]
  | 5, v, bs, w => ∃ b, v = .slice (some ⟨b, 0, none⟩) n n ∧ Blk w b 2 (i64s (List.replicate n 0)) ∧ bs = [b]
  | 7, v, bs, w => ∃ b, v = .slice (some ⟨b, 0, none⟩) n n ∧ Blk w b 21 (i32s (List.replicate n 0)) ∧ bs = [b]
  | 9, v, bs, w => ∃ b, v = .slice (some ⟨b, 0, none⟩) n n ∧ Blk w b 21 (i32s (List.replicate n 0)) ∧ bs = [b]
  | _, v, bs, w => v = .int .i64 n ∧ bs = []
theorem rnew_mod (n : Nat) : ∀ k v bs w w', RNew n k v bs w → Mod [] w w' → RNew n k v bs w' := by
  intro k v bs w w' h hM
  unfold RNew at *
  split at h
  · obtain ⟨g, b1, b2, b3, ks, nx, h1, h2, h3⟩ := h; exact ⟨g, b1, b2, b3, ks, nx, h1, h2.mod hM (by simp), h3⟩
  · obtain ⟨b, h1, h2, h3⟩ := h; exact ⟨b, h1, hM.blk h2 (by simp), h3⟩
  · obtain ⟨b, h1, h2, h3⟩ := h; exact ⟨b, h1, hM.blk h2 (by simp), h3⟩
  · obtain ⟨b, h1, h2, h3⟩ := h; exact ⟨b, h1, hM.blk h2 (by simp), h3⟩
  · obtain ⟨b, h1, h2, h3⟩ := h; exact ⟨b, h1, hM.blk h2 (by simp), h3⟩
  · exact h
def NewPost (n : Nat) (w : World) (e : Ending) (w' : World) : Prop :=
  ∃ B : SB, e = .returned (.pointer (some ⟨B.p, 0, none⟩)) ∧ SumAt w' B n [] 0 ∧ (∀ b, b ∈ B.all → w.heap.size ≤ b) ∧ Mod [] w w'
set_option maxRecDepth 4000 in
set_option maxHeartbeats 3200000 in
theorem new_any (n : Nat) (h1 : 1 ≤ n) (hn : n ≤ 64) (r : Row) (hr : r.ok) (w : World) :
    Calls Try.prog 13 #[.int .i64 n, .agg #[.int .u64 (r.x : Int), .int .u64 (r.a : Int), .int .u64 (r.b : Int)]] w (NewPost n w) := by
  have d1 : decide ((n : Int) < 1) = false := by simp; omega
  have d2 : decide ((64 : Int) < n) = false := by simp; omega
  have KN := Lib.hid (fun W : World => Keys.new_any n (by omega) W)
  have m1 := Lib.hid (make_i64 n (by omega))
  have m2 := Lib.hid (make_i32 n (by omega))
  have RB := Lib.hid (Blk.new w [.int .u64 (r.x : Int), .int .u64 (r.a : Int), .int .u64 (r.b : Int)] 30)
  have NI := Lib.hid (fun (W : World) (g b1 b2 b3 : Nat) (bs : List UInt8) (nx : List Int) (hS : Sto W g b1 b2 b3 (List.replicate n none) (List.range n) bs nx) => new_at hS r hr)
  obtain ⟨rx, ra, rb⟩ := r
  simp only at *
  clear hr
  go_enter Try.func13, Try.ntmps13
  go_wp2_with fail
  obtain ⟨w0, hw0⟩ : ∃ w0, w.alloc (.cells #[.int .u64 (rx : Int), .int .u64 (ra : Int), .int .u64 (rb : Int)] 30) = w0 := ⟨_, rfl⟩
  have hs0 : w0.heap.size = w.heap.size + 1 := by rw [← hw0]; simp
  have M0 : Hid (Mod [] w w0) := Lib.hid (by rw [← hw0]; exact (Mod.refl [] w).alloc _)
  have R0 : Hid (Blk w0 w.heap.size 30 [.int .u64 (rx : Int), .int .u64 (ra : Int), .int .u64 (rb : Int)]) := Lib.hid (by rw [← hw0]; exact RB.out)
  rw [hw0]
  clear RB hw0
  refine wp_region_makers' 10 34 (RNew n) (by kernel_rfl) (by kernel_rfl) (by simp) (rnew_mod n) ?step ?done
  case step =>
    intro k o a W hk ho hM h1 h2 K hK
    have t0 := (h1 0 (by kernel_rfl)).trans (show _ = some (Value.int .i64 n) by simp)
    match k, hk with
    | 0, _ =>
      obtain rfl := Option.some.inj ho
      exact value_step (v := .int .i64 n) (by simp [execOp, t0, go_sem]) (hK _ [] W ⟨rfl, rfl⟩ (Mod.refl _ _) (by simp))
    | 2, _ =>
      obtain rfl := Option.some.inj ho
      exact value_step (v := .int .i64 n) (by simp [execOp, t0, go_sem]) (hK _ [] W ⟨rfl, rfl⟩ (Mod.refl _ _) (by simp))
    | 4, _ =>
      obtain rfl := Option.some.inj ho
      exact value_step (v := .int .i64 n) (by simp [execOp, t0, go_sem]) (hK _ [] W ⟨rfl, rfl⟩ (Mod.refl _ _) (by simp))
    | 6, _ =>
      obtain rfl := Option.some.inj ho
      exact value_step (v := .int .i64 n) (by simp [execOp, t0, go_sem]) (hK _ [] W ⟨rfl, rfl⟩ (Mod.refl _ _) (by simp))
    | 8, _ =>
      obtain rfl := Option.some.inj ho
      exact value_step (v := .int .i64 n) (by simp [execOp, t0, go_sem]) (hK _ [] W ⟨rfl, rfl⟩ (Mod.refl _ _) (by simp))
    | 1, _ =>
      obtain rfl := Option.some.inj ho
      obtain ⟨v, bs, e1, rfl, _⟩ := h2 0 12 (by kernel_rfl)
      have t1 := e1
      refine call_step (f := 25) (args := #[.int .i64 n]) (by simp [execOp, t1, go_sem]) (KN.out W) (fun e w' hr => ?_)
      obtain ⟨g, b1, b2, b3, ks, nx, rfl, hS, q0, q1, q2, q3, hM⟩ := hr
      have hlt := sto_lt hS
      exact ⟨_, rfl, hK _ [g, b1, b2, b3] w' ⟨g, b1, b2, b3, ks, nx, rfl, hS, rfl⟩ hM (fun b hb => by have := hlt b hb; simp at hb; omega)⟩
    | 3, _ =>
      obtain rfl := Option.some.inj ho
      obtain ⟨v, bs, e1, rfl, _⟩ := h2 2 14 (by kernel_rfl)
      have t1 := e1
      exact value_step (by simp [execOp, t1, go_sem, m1.out W]) (hK _ [W.heap.size] _ ⟨_, rfl, Blk.new W _ _, rfl⟩ ((Mod.refl [] W).alloc _) (by simp))
    | 5, _ =>
      obtain rfl := Option.some.inj ho
      obtain ⟨v, bs, e1, rfl, _⟩ := h2 4 16 (by kernel_rfl)
      have t1 := e1
      exact value_step (by simp [execOp, t1, go_sem, m1.out W]) (hK _ [W.heap.size] _ ⟨_, rfl, Blk.new W _ _, rfl⟩ ((Mod.refl [] W).alloc _) (by simp))
    | 7, _ =>
      obtain rfl := Option.some.inj ho
      obtain ⟨v, bs, e1, rfl, _⟩ := h2 6 18 (by kernel_rfl)
      have t1 := e1
      exact value_step (by simp [execOp, t1, go_sem, m2.out W]) (hK _ [W.heap.size] _ ⟨_, rfl, Blk.new W _ _, rfl⟩ ((Mod.refl [] W).alloc _) (by simp))
    | 9, _ =>
      obtain rfl := Option.some.inj ho
      obtain ⟨v, bs, e1, rfl, _⟩ := h2 8 20 (by kernel_rfl)
      have t1 := e1
      exact value_step (by simp [execOp, t1, go_sem, m2.out W]) (hK _ [W.heap.size] _ ⟨_, rfl, Blk.new W _ _, rfl⟩ ((Mod.refl [] W).alloc _) (by simp))
  case done =>
    intro V Bs W hM hRV hAp
    obtain ⟨⟨e0, _⟩, _⟩ := hRV 0 (by omega)
    obtain ⟨⟨g, b1, b2, b3, ks, nx, e1, hS, s1⟩, f1⟩ := hRV 1 (by omega)
    obtain ⟨⟨e2, _⟩, _⟩ := hRV 2 (by omega)
    obtain ⟨⟨nb, e3, hn3, s3⟩, f3⟩ := hRV 3 (by omega)
    obtain ⟨⟨e4, _⟩, _⟩ := hRV 4 (by omega)
    obtain ⟨⟨eb, e5, hn5, s5⟩, f5⟩ := hRV 5 (by omega)
    obtain ⟨⟨e6, _⟩, _⟩ := hRV 6 (by omega)
    obtain ⟨⟨ob, e7, hn7, s7⟩, f7⟩ := hRV 7 (by omega)
    obtain ⟨⟨e8, _⟩, _⟩ := hRV 8 (by omega)
    obtain ⟨⟨wb, e9, hn9, s9⟩, f9⟩ := hRV 9 (by omega)
    simp only [putAll, List.take_succ_cons, List.take_zero, List.drop_succ_cons, List.drop_zero, Nat.reduceAdd, e0, e1, e2, e3, e4, e5, e6, e7, e8, e9]
    have hwW := hM.size
    have hdr : w0.drew.heap.size = w0.heap.size := rfl
    have A1 := hAp 1 3 (by omega) (by omega) (by omega)
    have A2 := hAp 1 5 (by omega) (by omega) (by omega)
    have A3 := hAp 1 7 (by omega) (by omega) (by omega)
    have A4 := hAp 1 9 (by omega) (by omega) (by omega)
    have A5 := hAp 3 5 (by omega) (by omega) (by omega)
    have A6 := hAp 3 7 (by omega) (by omega) (by omega)
    have A7 := hAp 3 9 (by omega) (by omega) (by omega)
    have A8 := hAp 5 7 (by omega) (by omega) (by omega)
    have A9 := hAp 5 9 (by omega) (by omega) (by omega)
    have A10 := hAp 7 9 (by omega) (by omega) (by omega)
    rw [s1] at A1 A2 A3 A4 f1
    rw [s3] at A1 A5 A6 A7 f3
    rw [s5] at A2 A5 A8 A9 f5
    rw [s7] at A3 A6 A8 A10 f7
    rw [s9] at A4 A7 A9 A10 f9
    have fresh3 := f3 nb (by simp)
    have fresh5 := f5 eb (by simp)
    have fresh7 := f7 ob (by simp)
    have fresh9 := f9 wb (by simp)
    have DJ : Hid ((nb ∉ [g, b1, b2, b3] ∧ eb ∉ [g, b1, b2, b3] ∧ ob ∉ [g, b1, b2, b3] ∧ wb ∉ [g, b1, b2, b3]) ∧ (nb ≠ eb ∧ nb ≠ ob ∧ nb ≠ wb) ∧ (eb ≠ ob ∧ eb ≠ wb) ∧ ob ≠ wb) :=
      Lib.hid ⟨⟨fun h => A1 _ h (by simp), fun h => A2 _ h (by simp), fun h => A3 _ h (by simp), fun h => A4 _ h (by simp)⟩, ⟨fun h => A5 nb (by simp) (by simp [h]), fun h => A6 nb (by simp) (by simp [h]), fun h => A7 nb (by simp) (by simp [h])⟩, ⟨fun h => A8 eb (by simp) (by simp [h]), fun h => A9 eb (by simp) (by simp [h])⟩, fun h => A10 ob (by simp) (by simp [h])⟩
    have gl : Hid (∀ b ∈ [g, b1, b2, b3], w.heap.size ≤ b ∧ b < W.heap.size) := Lib.hid fun b hb => by have := f1 b hb; omega
    have M1 := Lib.hid (M0.out.trans (((Mod.refl [] w0).drew.trans (show Mod [] w0.drew W from hM))))
    have S1 := Lib.hid hS
    have N1 := Lib.hid hn3
    have N2 := Lib.hid hn5
    have N3 := Lib.hid hn7
    have N4 := Lib.hid hn9
    have R1 := Lib.hid (hM.blk R0.out.drew (by simp))
    clear A1 A2 A3 A4 A5 A6 A7 A8 A9 A10 s1 s3 s5 s7 s9 e0 e1 e2 e3 e4 e5 e6 e7 e8 e9 hRV hAp f1 f3 f5 f7 f9 hS hn3 hn5 hn7 hn9 hM hdr
    go_wp2_with fail
    have PB0 := Lib.hid (Blk.new W [.pointer (some ⟨g, 0, none⟩), .pointer none, .slice (some ⟨nb, 0, none⟩) n n, .slice (some ⟨eb, 0, none⟩) n n, .slice (some ⟨ob, 0, none⟩) n n, .slice (some ⟨wb, 0, none⟩) n n, .int .i64 0] 68)
    have A2 := Lib.hid ((Mod.refl [] W).alloc (.cells #[.pointer (some ⟨g, 0, none⟩), .pointer none, .slice (some ⟨nb, 0, none⟩) n n, .slice (some ⟨eb, 0, none⟩) n n, .slice (some ⟨ob, 0, none⟩) n n, .slice (some ⟨wb, 0, none⟩) n n, .int .i64 0] 68))
    have RA := Lib.hid (A2.out.blk R1.out (by simp))
    have SA := Lib.hid (S1.out.mod A2.out (by simp))
    have r0 := RA.out.cell (i := 0) rfl
    have r1 := RA.out.cell (i := 1) rfl
    have r2 := RA.out.cell (i := 2) rfl
    refine wp_region_lex (by kernel_rfl) (by kernel_rfl) ?_
    go_wp2_with fail
    refine (NI.out _ g b1 b2 b3 ks nx (SA.out.mod (Mod.drew (Mod.refl [] _)) (by simp))).mono ?_
    rintro e3 w3 ⟨x, L, rfl, hI, hL, hx, hM3⟩
    have I3 := Lib.hid hI
    have M3 := Lib.hid ((M1.out.trans A2.out).drew.trans hM3)
    have PB3 := Lib.hid (hM3.blk PB0.out.drew (by simp))
    have Q1 := Lib.hid (hM3.blk (A2.out.drew.blk N1.out (by simp)) (by simp))
    have Q2 := Lib.hid (hM3.blk (A2.out.drew.blk N2.out (by simp)) (by simp))
    have Q3 := Lib.hid (hM3.blk (A2.out.drew.blk N3.out (by simp)) (by simp))
    have Q4 := Lib.hid (hM3.blk (A2.out.drew.blk N4.out (by simp)) (by simp))
    have p1 := PB3.out.cell (i := 1) rfl
    have f1 := PB3.out.free 1
    have hL2 : ∀ b ∈ L, b ∈ [g, b1, b2, b3] ∨ W.heap.size + 1 ≤ b := fun b hb => by
      rcases hL b hb with h | h
      · exact .inl h
      · right
        have : (W.alloc (.cells #[.pointer (some ⟨g, 0, none⟩), .pointer none, .slice (some ⟨nb, 0, none⟩) n n, .slice (some ⟨eb, 0, none⟩) n n, .slice (some ⟨ob, 0, none⟩) n n, .slice (some ⟨wb, 0, none⟩) n n, .int .i64 0] 68)).drew.heap.size = W.heap.size + 1 := by show (W.alloc _).heap.size = _; simp
        omega
    have NL : Hid (W.heap.size ∉ L ∧ nb ∉ L ∧ eb ∉ L ∧ ob ∉ L ∧ wb ∉ L) := by
      refine Lib.hid ⟨fun h => ?_, fun h => ?_, fun h => ?_, fun h => ?_, fun h => ?_⟩
      · rcases hL2 _ h with q | q
        · have := gl.out _ q; omega
        · omega
      · rcases hL2 _ h with q | q
        · exact DJ.out.1.1 q
        · omega
      · rcases hL2 _ h with q | q
        · exact DJ.out.1.2.1 q
        · omega
      · rcases hL2 _ h with q | q
        · exact DJ.out.1.2.2.1 q
        · omega
      · rcases hL2 _ h with q | q
        · exact DJ.out.1.2.2.2 q
        · omega
    have LG : Hid (∀ b, b ∈ L → w.heap.size ≤ b) := Lib.hid fun b hb => by
      rcases hL2 b hb with hq | hq
      · exact (gl.out b hq).1
      · omega
    clear hI hL hL2 hM3 r0 r1 r2 hx
    go_wp2_with fail
    refine ⟨by kernel_rfl, ?_⟩
    go_wp2_with fail
    go_ret
    have MS := ((Mod.refl [W.heap.size] w3).setCell (p := ⟨W.heap.size, 1, none⟩) (.inl (by simp)) (.pointer (some ⟨x, 0, none⟩)))
    have he : (emp n).length = n := by simp [emp]
    obtain ⟨_, ⟨n1, n2, n3⟩, ⟨n4, n5⟩, n6⟩ := DJ.out
    refine ⟨⟨W.heap.size, x, g, L, nb, eb, ob, wb, ⟨rx, ra, rb⟩⟩, rfl, ⟨emp n, List.range n, List.replicate n 0, List.replicate n 0, List.replicate n 0, List.replicate n 0, [], he, ⟨?_, I3.out.mod MS (fun b hb hb' => by simp at hb'; subst hb'; exact NL.out.1 hb), MS.blk Q1.out (by simp; omega), MS.blk Q2.out (by simp; omega), MS.blk Q3.out (by simp; omega), MS.blk Q4.out (by simp; omega), by rw [he]; simp, by rw [he]; simp, by rw [he]; simp, by rw [he]; simp, by rw [he]; exact whole_emp n, ?_, ?_⟩, ⟨rfl, List.nodup_nil, fun p key hp => ?_, fun k p e hk => by simp at hk⟩⟩, fun b hb => ?_, M3.out.trans' MS (fun b hb => .inr (by simp at hb; omega))⟩
    · rw [he]; exact PB3.out.set 1 _
    · simp only [SB.own, List.nodup_cons, List.mem_cons, List.not_mem_nil, or_false, not_or, List.nodup_nil, and_true, not_false_eq_true]
      exact ⟨⟨by omega, by omega, by omega, by omega⟩, ⟨n1, n2, n3⟩, ⟨n4, n5⟩, n6⟩
    · intro b hb
      simp only [SB.own, List.mem_cons, List.not_mem_nil, or_false] at hb
      rcases hb with rfl | rfl | rfl | rfl | rfl
      · exact NL.out.1
      · exact NL.out.2.1
      · exact NL.out.2.2.1
      · exact NL.out.2.2.2.1
      · exact NL.out.2.2.2.2
    · unfold emp at hp
      rw [List.getElem?_replicate] at hp
      split at hp <;> simp at hp
    · simp only [SB.all, List.mem_cons] at hb
      rcases hb with rfl | rfl | rfl | rfl | rfl | hb
      · omega
      · omega
      · omega
      · omega
      · omega
      · exact LG.out b hb
theorem new_none (n : Int) (hn : n < 1 ∨ 64 < n) (r : Row) (w : World) : Calls Try.prog 13 #[.int .i64 n, .agg #[.int .u64 (r.x : Int), .int .u64 (r.a : Int), .int .u64 (r.b : Int)]] w fun e w' => e = .returned (.pointer none) ∧ Mod [] w w' := by
  by_cases h1 : n < 1
  · have d1 : decide (n < 1) = true := by simp; omega
    clear hn
    go_enter Try.func13, Try.ntmps13
    go_wp2_with fail
    go_ret
    exact ⟨rfl, (Mod.refl [] w).alloc _⟩
  · have d1 : decide (n < 1) = false := by simp; omega
    have d2 : decide ((64 : Int) < n) = true := by simp; omega
    clear hn
    go_enter Try.func13, Try.ntmps13
    go_wp2_with fail
    go_ret
    exact ⟨rfl, (Mod.refl [] w).alloc _⟩
end Go.Proofs.Ytpobjhmfidebbaa.Sum
