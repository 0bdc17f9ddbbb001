/- pool.Pool: New. -/
import Derived.Test.YtajadfoannmaiaaPool2
import Derived.Deep.OwnRows
import Derived.Laws.OwnMore
namespace Go.Proofs.Ytajadfoannmaiaa.Pool
open Go Go.RowKit Go.YtajadfoannmaiaaMem Go.YtajadfoannmaiaaLex Go.Proofs.Ytajadfoannmaiaa.Hash Go.Proofs.Ytajadfoannmaiaa.Keys Go.Proofs.Ytajadfoannmaiaa.Index Go.Proofs.Ytajadfoannmaiaa.Cell Go.Proofs.Ytajadfoannmaiaa.Arith
set_option linter.unusedVariables false
set_option linter.unusedSimpArgs false

theorem zero_ok : Cell.zero.ok := by refine ⟨?_, ?_, ?_, ?_⟩ <;> (show I64 0; unfold I64; omega)
theorem cellsV_zero (n : Nat) : cellsV (List.replicate n Cell.zero) = List.replicate (n * 4) (.int .i64 0) := by
  unfold cellsV
  induction n with
  | zero => rfl
  | succ n ih =>
    rw [List.replicate_succ, List.flatMap_cons, ih]
    rw [show Cell.zero.cells = List.replicate 4 (Value.int .i64 0) from rfl, List.replicate_append_replicate]
    congr 1; omega
theorem madeCells_four (m : Nat) : (madeCells #[.int .i64 0, .int .i64 0, .int .i64 0, .int .i64 0] m).toList = List.replicate m (.int .i64 0) := by
  apply List.ext_getElem?
  intro j
  by_cases hj : j < m
  · have h4 : j % 4 < 4 := Nat.mod_lt _ (by omega)
    have e : ∀ k : Nat, k < 4 → (#[Value.int .i64 0, .int .i64 0, .int .i64 0, .int .i64 0] : Array Value)[k]! = .int .i64 0 := by
      intro k hk
      match k, hk with
      | 0, _ => rfl
      | 1, _ => rfl
      | 2, _ => rfl
      | 3, _ => rfl
    simp only [madeCells, Array.toList_map, Array.toList_range, List.getElem?_map, List.getElem?_range hj, List.getElem?_replicate, hj, if_true, Option.map_some]
    rw [show (#[Value.int .i64 0, .int .i64 0, .int .i64 0, .int .i64 0] : Array Value).size = 4 from rfl, e _ h4]
  · rw [List.getElem?_eq_none (by simp [madeCells]; omega), List.getElem?_eq_none (by simp; omega)]
theorem make_cells (n : Nat) (hn : n ≤ 1024) (w : World) : (Instr.makeSlice 67 (.int .i64 (n : Int)) (.int .i64 (n : Int))).run Try.prog w = .ok (.slice (some ⟨w.heap.size, 0, none⟩) n n) (w.alloc (.cells (cellsV (List.replicate n Cell.zero)).toArray 32)) := by
  obtain ⟨i, hi, hz, hs, hb⟩ := info_parts cell_info
  have hr := run_make (P := Try.prog) w 67 32 i _ Try.underlying67 hi hz .i64 .i64 n n (by omega) (Int.le_refl _) (by rw [hb]; omega) (by omega)
  simp only [Int.toNat_natCast, hs] at hr
  have e : madeCells (Value.cells (.agg #[.int .i64 0, .int .i64 0, .int .i64 0, .int .i64 0])) (n * 4) = (List.replicate (n * 4) (Value.int .i64 0)).toArray := by
    show madeCells #[.int .i64 0, .int .i64 0, .int .i64 0, .int .i64 0] (n * 4) = _
    rw [← madeCells_four, Array.toArray_toList]
  rw [e] at hr
  rw [cellsV_zero]
  exact hr
def NewPost (n : Nat) (r : Row) (w : World) (e : Ending) (w' : World) : Prop :=
  ∃ B : PB, e = .returned (.pointer (some ⟨B.p, 0, none⟩)) ∧ PoolAt w' B (emp n) (List.range n) (List.replicate n Cell.zero) ∧ (∀ b, b ∈ B.all → w.heap.size ≤ b) ∧ B.r = r ∧ Mod [] w w'
set_option maxRecDepth 4000 in
set_option maxHeartbeats 3200000 in
theorem new_any (n : Nat) (h1 : 1 ≤ n) (hn : n ≤ 1024) (r : Row) (hr : r.ok) (w : World) :
    Calls Try.prog 8 #[.int .i64 n, .agg #[.int .u64 (r.x : Int), .int .u64 (r.a : Int), .int .u64 (r.b : Int)]] w (NewPost n r w) := by
  have d1 : decide ((n : Int) < 1) = false := by simp; omega
  have d2 : decide ((1024 : Int) < n) = false := by simp; omega
  have KN := Lib.hid (fun W : World => Keys.new_any n (by omega) W)
  have m1 := make_cells n hn
  obtain ⟨L1, hL1⟩ : ∃ L1, cellsV (List.replicate n Cell.zero) = L1 := ⟨_, rfl⟩
  rw [hL1] at m1
  have H1 := Lib.hid hL1
  have RB := Lib.hid (Blk.new w [.int .u64 (r.x : Int), .int .u64 (r.a : Int), .int .u64 (r.b : Int)] 27)
  have NI := Lib.hid (fun (W : World) (g b1 b2 b3 : Nat) (bs : List UInt8) (nx : List Int) (hS : Sto W g b1 b2 b3 (List.replicate n none) (List.range n) bs nx) => new_at hS r hr)
  have HR := Lib.hid (show ∃ r', r' = r from ⟨r, rfl⟩)
  obtain ⟨rx, ra, rb⟩ := r
  simp only at *
  clear hr hL1
  go_enter Try.func8, Try.ntmps8
  go_wp2_with fail
  obtain ⟨w0, hw0⟩ : ∃ w0, w.alloc (.cells #[.int .u64 (rx : Int), .int .u64 (ra : Int), .int .u64 (rb : Int)] 27) = w0 := ⟨_, rfl⟩
  have hs0 : w0.heap.size = w.heap.size + 1 := by rw [← hw0]; simp
  have M0 : Hid (Mod [] w w0) := Lib.hid (by rw [← hw0]; exact (Mod.refl [] w).alloc _)
  have R0 : Hid (Blk w0 w.heap.size 27 [.int .u64 (rx : Int), .int .u64 (ra : Int), .int .u64 (rb : Int)]) := Lib.hid (by rw [← hw0]; exact RB.out)
  rw [hw0]
  clear RB hw0
  refine wp_region_two 1 3 [0, 1, 2, 3, 4, 5, 6] [0, 2, 3, 1, 4, 5, 6] (by kernel_rfl) (by kernel_rfl) (by kernel_rfl) (by kernel_rfl) ?_ ?_
  all_goals simp only [edges, edge, pick, List.drop_succ_cons, List.drop_zero, List.take_succ_cons, List.take_zero, List.cons_append, List.nil_append]
  · go_wp2_with fail
    refine (KN.out _).mono ?_
    rintro e1 w1 ⟨g, b1, b2, b3, bs, nx, rfl, hS, q0, q1, q2, q3, hM⟩
    have S1 := Lib.hid (hS.mod (((Mod.refl [] w1).alloc (.cells L1.toArray 32))) (by simp))
    have M1 := Lib.hid ((M0.out.drew.trans hM).alloc (.cells L1.toArray 32))
    have R1 := Lib.hid ((hM.blk R0.out.drew (by simp)).alloc (.cells L1.toArray 32))
    have C1 := Lib.hid (Blk.new w1 L1 32)
    have z0 := hM.size
    have hdr : w0.drew.heap.size = w0.heap.size := rfl
    have hlt : Hid (w1.heap.size ∉ [g, b1, b2, b3]) := Lib.hid fun hm => by have := sto_lt hS _ hm; omega
    clear hS hM
    go_wp2_with fail
    obtain ⟨w2, hw2⟩ : ∃ w2, w1.alloc (.cells L1.toArray 32) = w2 := ⟨_, rfl⟩
    have hs2 : w2.heap.size = w1.heap.size + 1 := by rw [← hw2]; simp
    obtain ⟨cb, hcb⟩ : ∃ cb, w1.heap.size = cb := ⟨_, rfl⟩
    have hp : w2.heap.size = w1.heap.size + 1 := hs2
    rw [hw2] at S1 M1 R1 C1 ⊢
    rw [← hp]
    rw [hcb] at C1 hlt hs2 hp ⊢
    have hcw : w.heap.size ≤ cb := by omega
    clear hw2 hp hcb hs2
    refine ⟨by kernel_rfl, ?_⟩
    go_wp2_with fail
    have PB0 := Lib.hid (Blk.new w2 [.pointer (some ⟨g, 0, none⟩), .pointer none, .slice (some ⟨cb, 0, none⟩) n n] 70)
    have A2 := Lib.hid ((Mod.refl [] w2).alloc (.cells #[.pointer (some ⟨g, 0, none⟩), .pointer none, .slice (some ⟨cb, 0, none⟩) n n] 70))
    have RA := Lib.hid (A2.out.blk R1.out (by simp))
    have SA := Lib.hid (S1.out.mod A2.out (by simp))
    have CA := Lib.hid (A2.out.blk C1.out (by simp))
    have r0 := RA.out.cell (i := 0) rfl
    have r1 := RA.out.cell (i := 1) rfl
    have r2 := RA.out.cell (i := 2) rfl
    have hcl : cb < w2.heap.size := C1.out.lt
    refine wp_region_lex (by kernel_rfl) (by kernel_rfl) ?_
    go_wp2_with fail
    refine (NI.out _ g b1 b2 b3 bs nx (SA.out.mod (Mod.drew (Mod.refl [] _)) (by simp))).mono ?_
    rintro e3 w3 ⟨x, L, rfl, hI, hL, hx, hM3⟩
    have I3 := Lib.hid hI
    have M3 := Lib.hid ((M1.out.trans A2.out).drew.trans hM3)
    have PB3 := Lib.hid (hM3.blk PB0.out.drew (by simp))
    have C3 := Lib.hid (hM3.blk CA.out.drew (by simp))
    have p1 := PB3.out.cell (i := 1) rfl
    have f1 := PB3.out.free 1
    have hnsz : (w2.alloc (.cells #[.pointer (some ⟨g, 0, none⟩), .pointer none, .slice (some ⟨cb, 0, none⟩) n n] 70)).drew.heap.size = w2.heap.size + 1 := by show (w2.alloc _).heap.size = _; simp
    rw [hnsz] at hL hx
    have hgl := sto_lt S1.out
    have NP : Hid (w2.heap.size ∉ L) := Lib.hid fun hm => by
      rcases hL _ hm with hq | hq
      · have := hgl _ hq; omega
      · omega
    have NC : Hid (cb ∉ L) := Lib.hid fun hm => by
      rcases hL _ hm with hq | hq
      · exact hlt.out hq
      · omega
    have LG : Hid (∀ b, b ∈ L → w.heap.size ≤ b) := Lib.hid fun b hb => by
      rcases hL b hb with hq | hq
      · simp at hq; omega
      · have := M1.out.size; omega
    have hws := M1.out.size
    clear hI hL hM3 hnsz hgl r0 r1 r2
    go_wp2_with fail
    refine ⟨by kernel_rfl, ?_⟩
    go_wp2_with fail
    go_ret
    have MS := ((Mod.refl [w2.heap.size] w3).setCell (p := ⟨w2.heap.size, 1, none⟩) (.inl (by simp)) (.pointer (some ⟨x, 0, none⟩)))
    refine ⟨⟨w2.heap.size, cb, x, g, L, ⟨rx, ra, rb⟩⟩, rfl, ⟨?_, I3.out.mod MS (fun b hb hb' => by simp at hb'; subst hb'; exact NP.out hb), MS.blk (by rw [H1.out]; exact C3.out) (by simp; omega), by simp [emp], fun c hc => by rw [List.eq_of_mem_replicate hc]; exact zero_ok, by have := whole_emp n; rwa [show (emp n).length = n by simp [emp]], ⟨by simp only; omega, NP.out, NC.out⟩⟩, fun b hb => ?_, rfl, M3.out.trans' MS (fun b hb => .inr (by simp at hb; omega))⟩
    · rw [show (emp n).length = n by simp [emp]]
      exact PB3.out.set 1 _
    · simp only [PB.all, List.mem_cons] at hb
      rcases hb with rfl | rfl | hb
      · omega
      · omega
      · exact LG.out b hb
  · go_wp2_with fail
    refine (KN.out _).mono ?_
    rintro e1 w2 ⟨g, b1, b2, b3, bs, nx, rfl, hS, q0, q1, q2, q3, hM⟩
    have C0 := Blk.new w0 L1 32
    rw [hs0] at C0
    have S1 := Lib.hid hS
    have M1 := Lib.hid ((M0.out.alloc (.cells L1.toArray 32)).drew.trans hM)
    have R1 := Lib.hid (hM.blk (R0.out.alloc (.cells L1.toArray 32)).drew (by simp))
    have C1 := Lib.hid (hM.blk C0.drew (by simp))
    have hsz : (w0.alloc (.cells L1.toArray 32)).drew.heap.size = w.heap.size + 1 + 1 := by show (w0.alloc _).heap.size = _; simp [hs0]
    have z0 := hM.size
    rw [hsz] at q0 q1 q2 q3 z0
    have hlt : Hid (w.heap.size + 1 ∉ [g, b1, b2, b3]) := Lib.hid fun hm => by simp at hm; omega
    have hcw : w.heap.size ≤ w.heap.size + 1 := by omega
    have hs2 : w.heap.size + 1 < w2.heap.size := C1.out.lt
    clear hS hM C0
    go_wp2_with fail
    refine ⟨by kernel_rfl, ?_⟩
    go_wp2_with fail
    have PB0 := Lib.hid (Blk.new w2 [.pointer (some ⟨g, 0, none⟩), .pointer none, .slice (some ⟨(w.heap.size + 1), 0, none⟩) n n] 70)
    have A2 := Lib.hid ((Mod.refl [] w2).alloc (.cells #[.pointer (some ⟨g, 0, none⟩), .pointer none, .slice (some ⟨(w.heap.size + 1), 0, none⟩) n n] 70))
    have RA := Lib.hid (A2.out.blk R1.out (by simp))
    have SA := Lib.hid (S1.out.mod A2.out (by simp))
    have CA := Lib.hid (A2.out.blk C1.out (by simp))
    have r0 := RA.out.cell (i := 0) rfl
    have r1 := RA.out.cell (i := 1) rfl
    have r2 := RA.out.cell (i := 2) rfl
    have hcl : (w.heap.size + 1) < w2.heap.size := C1.out.lt
    refine wp_region_lex (by kernel_rfl) (by kernel_rfl) ?_
    go_wp2_with fail
    refine (NI.out _ g b1 b2 b3 bs nx (SA.out.mod (Mod.drew (Mod.refl [] _)) (by simp))).mono ?_
    rintro e3 w3 ⟨x, L, rfl, hI, hL, hx, hM3⟩
    have I3 := Lib.hid hI
    have M3 := Lib.hid ((M1.out.trans A2.out).drew.trans hM3)
    have PB3 := Lib.hid (hM3.blk PB0.out.drew (by simp))
    have C3 := Lib.hid (hM3.blk CA.out.drew (by simp))
    have p1 := PB3.out.cell (i := 1) rfl
    have f1 := PB3.out.free 1
    have hnsz : (w2.alloc (.cells #[.pointer (some ⟨g, 0, none⟩), .pointer none, .slice (some ⟨(w.heap.size + 1), 0, none⟩) n n] 70)).drew.heap.size = w2.heap.size + 1 := by show (w2.alloc _).heap.size = _; simp
    rw [hnsz] at hL hx
    have hgl := sto_lt S1.out
    have NP : Hid (w2.heap.size ∉ L) := Lib.hid fun hm => by
      rcases hL _ hm with hq | hq
      · have := hgl _ hq; omega
      · omega
    have NC : Hid ((w.heap.size + 1) ∉ L) := Lib.hid fun hm => by
      rcases hL _ hm with hq | hq
      · exact hlt.out hq
      · omega
    have LG : Hid (∀ b, b ∈ L → w.heap.size ≤ b) := Lib.hid fun b hb => by
      rcases hL b hb with hq | hq
      · simp at hq; omega
      · have := M1.out.size; omega
    have hws := M1.out.size
    clear hI hL hM3 hnsz hgl r0 r1 r2
    go_wp2_with fail
    refine ⟨by kernel_rfl, ?_⟩
    go_wp2_with fail
    go_ret
    have MS := ((Mod.refl [w2.heap.size] w3).setCell (p := ⟨w2.heap.size, 1, none⟩) (.inl (by simp)) (.pointer (some ⟨x, 0, none⟩)))
    refine ⟨⟨w2.heap.size, (w.heap.size + 1), x, g, L, ⟨rx, ra, rb⟩⟩, rfl, ⟨?_, I3.out.mod MS (fun b hb hb' => by simp at hb'; subst hb'; exact NP.out hb), MS.blk (by rw [H1.out]; exact C3.out) (by simp; omega), by simp [emp], fun c hc => by rw [List.eq_of_mem_replicate hc]; exact zero_ok, by have := whole_emp n; rwa [show (emp n).length = n by simp [emp]], ⟨by simp only; omega, NP.out, NC.out⟩⟩, fun b hb => ?_, rfl, M3.out.trans' MS (fun b hb => .inr (by simp at hb; omega))⟩
    · rw [show (emp n).length = n by simp [emp]]
      exact PB3.out.set 1 _
    · simp only [PB.all, List.mem_cons] at hb
      rcases hb with rfl | rfl | hb
      · omega
      · omega
      · exact LG.out b hb
end Go.Proofs.Ytajadfoannmaiaa.Pool
