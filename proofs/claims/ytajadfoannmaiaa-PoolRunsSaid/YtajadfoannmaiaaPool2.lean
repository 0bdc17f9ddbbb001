/- pool.Pool: Put, Remove. -/
import Derived.Test.YtajadfoannmaiaaPool
namespace Go.Proofs.Ytajadfoannmaiaa.Pool
open Go Go.RowKit Go.YtajadfoannmaiaaMem Go.YtajadfoannmaiaaLex Go.Proofs.Ytajadfoannmaiaa.Hash Go.Proofs.Ytajadfoannmaiaa.Keys Go.Proofs.Ytajadfoannmaiaa.Index Go.Proofs.Ytajadfoannmaiaa.Cell Go.Proofs.Ytajadfoannmaiaa.Arith
set_option linter.unusedVariables false
set_option linter.unusedSimpArgs false

theorem results_row_tmp {P : Program} {fn : Func} {p u : Tmp} {ty : TypeId} (h : fn.results = #[.cell p ty, .tmp u]) (tmps : Array Value) (w : World) (g : Nat) (t : TypeId) (cs : Array Value) (fr : Nat × Nat) (d : TypeDesc)
    (hp : tmps.getD p undef = .pointer (some ⟨g, 0, none⟩)) (hg : w.heap[g]? = some (.cells cs t fr))
    (hu : P.underlying ty = some d) (hd : (match d with | .struct _ | .array _ _ => true | _ => false) = true) (hi : (P.info? ty).map (·.size) = some cs.size) :
    (results fn tmps).run P w = .ok (.tuple #[.agg cs, tmps.getD u undef]) w := by
  rw [results_cell_tmp h tmps P w, hp]
  simp [asAddr, run_loadVar_row w g t ty cs fr d hg hu hd hi, Result.andThen]

theorem cel4 {w : World} {cb j : Nat} {C : List Cell} {c : Cell} (h : Blk w cb 32 (cellsV C)) (hc : C[j]? = some c) :
    w.cell? ⟨cb, j * 4, none⟩ = some (.int .i64 c.full) ∧ w.cell? ⟨cb, j * 4 + 1, none⟩ = some (.int .i64 c.since) ∧ w.cell? ⟨cb, j * 4 + 2, none⟩ = some (.int .i64 c.carry) ∧ w.cell? ⟨cb, j * 4 + 3, none⟩ = some (.int .i64 c.used) :=
  ⟨h.cell (by have := cellsV_get C j c hc 0 (by omega); rw [Nat.add_zero] at this; rw [this]; rfl), h.cell (by rw [cellsV_get C j c hc 1 (by omega)]; rfl), h.cell (by rw [cellsV_get C j c hc 2 (by omega)]; rfl), h.cell (by rw [cellsV_get C j c hc 3 (by omega)]; rfl)⟩
section
variable {w : World} {B : PB} {S : List (Option (List UInt8))} {fl : List Nat} {C : List Cell}
def PutNo (B : PB) (S : List (Option (List UInt8))) (fl : List Nat) (C : List Cell) (w : World) (e : Ending) (w' : World) : Prop := e = .returned (.pointer none) ∧ PoolAt w' B S fl C ∧ Mod B.all w w'
theorem all_L (B : PB) : ∀ b, b ∈ B.L → b ∈ B.all := fun b hb => by simp [PB.all, hb]
theorem put_no (h : PoolAt w B S fl C) (key : List UInt8) (hl : key.length ≤ 1000000) (hn : putS S fl key = (-1, S, fl)) (c : Cell) :
    Calls Try.prog 9 #[.pointer (some ⟨B.p, 0, none⟩), .string ⟨key.toArray⟩, c.val] w (PutNo B S fl C w) := by
  have P0 := Lib.hid (fun (W : World) (hM : Mod [] w W) => put_any (h.idx.mod hM (by simp)) key hl)
  rw [hn] at P0
  have H := Lib.hid h
  have k1 := (h.blk.alloc (.cells c.cells.toArray 32)).cell (i := 1) rfl
  have M0 := Lib.hid ((Mod.refl [] w).alloc (.cells c.cells.toArray 32))
  obtain ⟨c0, c1, c2, c3⟩ := c
  simp only [Cell.cells, Cell.val] at *
  clear h hn
  go_enter Try.func9, Try.ntmps9
  go_wp2_with fail
  refine (P0.out _ M0.out).mono ?_
  rintro e1 w1 ⟨rfl, hI, hM⟩
  have M1 := Lib.hid ((M0.out.mono (S' := B.L) (by simp)).trans hM)
  have I1 := Lib.hid hI
  clear hI hM
  go_wp2_with fail
  go_ret
  have h := H.out
  exact ⟨rfl, ⟨M1.out.blk h.blk h.ne.2.1, I1.out, M1.out.blk h.cel h.ne.2.2, h.len, h.ok, h.whole, h.ne⟩, M1.out.mono (fun b hb => .inl (all_L B b hb))⟩
def PutYes (B : PB) (S : List (Option (List UInt8))) (fl : List Nat) (C : List Cell) (j : Nat) (w : World) (e : Ending) (w' : World) : Prop := e = .returned (.pointer (some ⟨B.cb, j * 4, none⟩)) ∧ PoolAt w' B S fl C ∧ Mod B.all w w'
set_option maxRecDepth 4000 in
set_option maxHeartbeats 1600000 in
theorem put_yes {j : Nat} (h : PoolAt w B S (j :: fl) C) (key : List UInt8) (hk : key.length ≤ 64) (hn : placeOf S key = none) (c : Cell) (hc : c.ok) :
    Calls Try.prog 9 #[.pointer (some ⟨B.p, 0, none⟩), .string ⟨key.toArray⟩, c.val] w (PutYes B (S.set j (some key)) fl (C.set j c) j w) := by
  have P0 := Lib.hid (fun (W : World) (hM : Mod [] w W) => put_any (h.idx.mod hM (by simp)) key (by omega))
  rw [putS_yes hn hk] at P0
  have H := Lib.hid h
  have hj0 := h.idx.free0
  have hj : j < S.length := (List.getElem?_eq_some_iff.1 hj0).1
  have hfew := h.idx.few
  have W0 := Lib.hid (whole_set (key := key) h.whole hj0)
  have hlen := h.len
  have k1 := (h.blk.alloc (.cells c.cells.toArray 32)).cell (i := 1) rfl
  have M0 := Lib.hid ((Mod.refl [] w).alloc (.cells c.cells.toArray 32))
  have NB := Lib.hid (Blk.new w c.cells 32)
  have NL : Hid (w.heap.size ∉ B.L) := Lib.hid fun hm => by have := h.idx.lt _ hm; omega
  have HC := Lib.hid hc
  have hcel := Lib.hid (cellsV_set C j c (by omega))
  obtain ⟨old, hold⟩ : ∃ old, C[j]? = some old := ⟨_, List.getElem?_eq_getElem (by omega)⟩
  have HO := Lib.hid hold
  have HW := Lib.hid (show ∀ x, x ∈ C.set j c → x.ok from fun x hx => by
    rcases List.mem_or_eq_of_mem_set hx with hx | rfl
    · exact h.ok x hx
    · exact hc)
  obtain ⟨c0, c1, c2, c3⟩ := c
  simp only [Cell.cells, Cell.val] at *
  clear h hn hold hj0 hc
  go_enter Try.func9, Try.ntmps9
  go_wp2_with fail
  refine (P0.out _ M0.out).mono ?_
  rintro e1 w1 ⟨rfl, hI, hM⟩
  have M1 := Lib.hid ((M0.out.mono (S' := B.L) (by simp)).trans hM)
  have I1 := Lib.hid hI
  have NB1 := hM.blk NB.out NL.out
  have q0 := NB1.cell (i := 0) rfl
  have q1 := NB1.cell (i := 1) rfl
  have q2 := NB1.cell (i := 2) rfl
  have q3 := NB1.cell (i := 3) rfl
  have PB1 := Lib.hid (M1.out.blk H.out.blk H.out.ne.2.1)
  have m2 := PB1.out.cell (i := 2) rfl
  have CB1 := Lib.hid (M1.out.blk H.out.cel H.out.ne.2.2)
  obtain ⟨o0, o1, o2, o3⟩ := cel4 CB1.out HO.out
  have f0 := CB1.out.free (j * 4)
  have f1 := CB1.out.free (j * 4 + 1)
  have f2 := CB1.out.free (j * 4 + 2)
  have f3 := CB1.out.free (j * 4 + 3)
  have hne := H.out.ne.1
  clear hI hM NB1
  go_wp2_with fail
  refine wp_region_lex (by kernel_rfl) (by kernel_rfl) ?_
  go_wp2_with fail
  refine ⟨by kernel_rfl, ?_⟩
  go_wp2_with fail
  go_ret
  have h := H.out
  have MC := (((((Mod.refl [B.cb] w1).setCell (p := ⟨B.cb, j * 4, none⟩) (.inl (by simp)) (.int .i64 c0)).setCell (p := ⟨B.cb, j * 4 + 1, none⟩) (.inl (by simp)) (.int .i64 c1)).setCell (p := ⟨B.cb, j * 4 + 2, none⟩) (.inl (by simp)) (.int .i64 c2)).setCell (p := ⟨B.cb, j * 4 + 3, none⟩) (.inl (by simp)) (.int .i64 c3)).drew
  have CB2 := ((((CB1.out.set (j * 4) (.int .i64 c0)).set (j * 4 + 1) (.int .i64 c1)).set (j * 4 + 2) (.int .i64 c2)).set (j * 4 + 3) (.int .i64 c3)).drew
  rw [← hcel.out] at CB2
  refine ⟨rfl, ⟨?_, I1.out.mod MC (fun b hb hb' => by simp at hb'; subst hb'; exact h.ne.2.2 hb), CB2, by rw [List.length_set, List.length_set]; exact hlen, HW.out, ?_, h.ne⟩, (M1.out.mono (fun b hb => .inl (all_L B b hb))).trans (MC.mono (by simp [PB.all]))⟩
  · rw [List.length_set]; exact MC.blk PB1.out (by simp; exact hne)
  · have := W0.out.1; rw [List.length_set]; exact this
/-- A cell that was handed over, and whether. -/
def RemPost (B : PB) (S : List (Option (List UInt8))) (fl : List Nat) (C : List Cell) (c : Cell) (ok : Bool) (w : World) (e : Ending) (w' : World) : Prop := e = .returned (.tuple #[c.val, .bool ok]) ∧ PoolAt w' B S fl C ∧ Mod B.all w w'
set_option maxRecDepth 4000 in
set_option maxHeartbeats 1600000 in
theorem rem_no (h : PoolAt w B S fl C) (key : List UInt8) (hl : key.length ≤ 1000000) (hn : placeOf S key = none) :
    Calls Try.prog 14 #[.pointer (some ⟨B.p, 0, none⟩), .string ⟨key.toArray⟩] w (RemPost B S fl C .zero false w) := by
  have P0 := Lib.hid (fun (W : World) (hM : Mod [] w W) => remove_any (h.idx.mod hM (by simp)) key hl)
  have hr : remS S fl key = (-1, S, fl) := by unfold remS; rw [hn]
  rw [hr] at P0
  have H := Lib.hid h
  have Z0 := Lib.hid (Blk.new w [.int .i64 0, .int .i64 0, .int .i64 0, .int .i64 0] 32)
  have k1 := (h.blk.alloc (.cells #[.int .i64 0, .int .i64 0, .int .i64 0, .int .i64 0] 32)).cell (i := 1) rfl
  have M0 := Lib.hid ((Mod.refl [] w).alloc (.cells #[.int .i64 0, .int .i64 0, .int .i64 0, .int .i64 0] 32))
  have NL : Hid (w.heap.size ∉ B.L) := Lib.hid fun hm => by have := h.idx.lt _ hm; omega
  have NA : Hid (w.heap.size ∉ B.all) := Lib.hid fun hm => by have := h.lt _ hm; omega
  clear h hn hr
  go_enter Try.func14, Try.ntmps14
  go_wp2_with fail
  refine (P0.out _ M0.out).mono ?_
  rintro e1 w1 ⟨rfl, hI, hM⟩
  have M1 := Lib.hid ((M0.out.mono (S' := B.L) (by simp)).trans hM)
  have I1 := Lib.hid hI
  have Z1 := Lib.hid (hM.blk Z0.out NL.out)
  have z0 := Z1.out.cell (i := 0) rfl
  have z1 := Z1.out.cell (i := 1) rfl
  have z2 := Z1.out.cell (i := 2) rfl
  have z3 := Z1.out.cell (i := 3) rfl
  have f0 := Z1.out.free 0
  have f1 := Z1.out.free 1
  have f2 := Z1.out.free 2
  have f3 := Z1.out.free 3
  clear hI hM
  go_wp2_with fail
  have Z2 := (((Z1.out.set 0 (.int .i64 0)).set 1 (.int .i64 0)).set 2 (.int .i64 0)).set 3 (.int .i64 0)
  have MZ := ((((Mod.refl [w.heap.size] w1).setCell (p := ⟨w.heap.size, 0, none⟩) (.inl (by simp)) (.int .i64 0)).setCell (p := ⟨w.heap.size, 1, none⟩) (.inl (by simp)) (.int .i64 0)).setCell (p := ⟨w.heap.size, 2, none⟩) (.inl (by simp)) (.int .i64 0)).setCell (p := ⟨w.heap.size, 3, none⟩) (.inl (by simp)) (.int .i64 0)
  have h := H.out
  refine bodyPost_ret (v := .tuple #[.agg #[.int .i64 0, .int .i64 0, .int .i64 0, .int .i64 0], .bool false]) (results_row_tmp (p := 4) (u := 5) (ty := 32) rfl _ _ w.heap.size 32 #[.int .i64 0, .int .i64 0, .int .i64 0, .int .i64 0] (0, 0) _ rfl Z2 Try.underlying32 rfl (four_size cell_info)) rfl ⟨rfl, ?_, ?_⟩
  · have h1 : PoolAt w1 B S fl C := ⟨M1.out.blk h.blk h.ne.2.1, I1.out, M1.out.blk h.cel h.ne.2.2, h.len, h.ok, h.whole, h.ne⟩
    exact h1.mod MZ (fun b hb hb' => by simp at hb'; subst hb'; exact NA.out hb)
  · exact (M1.out.mono (fun b hb => .inl (all_L B b hb))).trans' MZ (fun b hb => .inr (by simp at hb; omega))
set_option maxRecDepth 4000 in
set_option maxHeartbeats 1600000 in
theorem rem_yes (h : PoolAt w B S fl C) (key : List UInt8) (hl : key.length ≤ 1000000) (i : Nat) (hn : placeOf S key = some i) (c : Cell) (hc : C[i]? = some c) :
    Calls Try.prog 14 #[.pointer (some ⟨B.p, 0, none⟩), .string ⟨key.toArray⟩] w (RemPost B (S.set i none) (i :: fl) C c true w) := by
  have P0 := Lib.hid (fun (W : World) (hM : Mod [] w W) => remove_any (h.idx.mod hM (by simp)) key hl)
  have hr : remS S fl key = ((i : Int), S.set i none, i :: fl) := by unfold remS; rw [hn]
  rw [hr] at P0
  have H := Lib.hid h
  have hg := placeOf_get hn
  have hi : i < S.length := (List.getElem?_eq_some_iff.1 hg).1
  have hfew := h.idx.few
  have W0 := Lib.hid (whole_del h.whole hg)
  have HC := Lib.hid hc
  have Z0 := Lib.hid (Blk.new w [.int .i64 0, .int .i64 0, .int .i64 0, .int .i64 0] 32)
  have k1 := (h.blk.alloc (.cells #[.int .i64 0, .int .i64 0, .int .i64 0, .int .i64 0] 32)).cell (i := 1) rfl
  have M0 := Lib.hid ((Mod.refl [] w).alloc (.cells #[.int .i64 0, .int .i64 0, .int .i64 0, .int .i64 0] 32))
  have NL : Hid (w.heap.size ∉ B.L) := Lib.hid fun hm => by have := h.idx.lt _ hm; omega
  have NA : Hid (w.heap.size ∉ B.all) := Lib.hid fun hm => by have := h.lt _ hm; omega
  clear h hn hr hg hc
  obtain ⟨c0, c1, c2, c3⟩ := c
  go_enter Try.func14, Try.ntmps14
  go_wp2_with fail
  refine (P0.out _ M0.out).mono ?_
  rintro e1 w1 ⟨rfl, hI, hM⟩
  have M1 := Lib.hid ((M0.out.mono (S' := B.L) (by simp)).trans hM)
  have I1 := Lib.hid hI
  have Z1 := Lib.hid (hM.blk Z0.out NL.out)
  have m2 := (M1.out.blk H.out.blk H.out.ne.2.1).cell (i := 2) rfl
  obtain ⟨o0, o1, o2, o3⟩ := cel4 (M1.out.blk H.out.cel H.out.ne.2.2) HC.out
  have z0 := Z1.out.cell (i := 0) rfl
  have z1 := Z1.out.cell (i := 1) rfl
  have z2 := Z1.out.cell (i := 2) rfl
  have z3 := Z1.out.cell (i := 3) rfl
  have f0 := Z1.out.free 0
  have f1 := Z1.out.free 1
  have f2 := Z1.out.free 2
  have f3 := Z1.out.free 3
  clear hI hM
  simp only at o0 o1 o2 o3
  go_wp2_with fail
  have Z2 := (((Z1.out.set 0 (.int .i64 c0)).set 1 (.int .i64 c1)).set 2 (.int .i64 c2)).set 3 (.int .i64 c3)
  have MZ := ((((Mod.refl [w.heap.size] w1).setCell (p := ⟨w.heap.size, 0, none⟩) (.inl (by simp)) (.int .i64 c0)).setCell (p := ⟨w.heap.size, 1, none⟩) (.inl (by simp)) (.int .i64 c1)).setCell (p := ⟨w.heap.size, 2, none⟩) (.inl (by simp)) (.int .i64 c2)).setCell (p := ⟨w.heap.size, 3, none⟩) (.inl (by simp)) (.int .i64 c3)
  have h := H.out
  refine bodyPost_ret (v := .tuple #[.agg #[.int .i64 c0, .int .i64 c1, .int .i64 c2, .int .i64 c3], .bool true]) (results_row_tmp (p := 4) (u := 5) (ty := 32) rfl _ _ w.heap.size 32 #[.int .i64 c0, .int .i64 c1, .int .i64 c2, .int .i64 c3] (0, 0) _ rfl Z2 Try.underlying32 rfl (four_size cell_info)) rfl ⟨rfl, ?_, ?_⟩
  · have h1 : PoolAt w1 B (S.set i none) (i :: fl) C := ⟨by rw [List.length_set]; exact M1.out.blk h.blk h.ne.2.1, I1.out, M1.out.blk h.cel h.ne.2.2, by rw [List.length_set]; exact h.len, h.ok, by rw [List.length_set]; exact W0.out.1, h.ne⟩
    exact h1.mod MZ (fun b hb hb' => by simp at hb'; subst hb'; exact NA.out hb)
  · exact (M1.out.mono (fun b hb => .inl (all_L B b hb))).trans' MZ (fun b hb => .inr (by simp at hb; omega))
end
end Go.Proofs.Ytajadfoannmaiaa.Pool
