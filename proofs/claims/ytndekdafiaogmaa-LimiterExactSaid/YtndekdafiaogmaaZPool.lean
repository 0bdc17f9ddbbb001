/- pool.Pool: what it holds; Len, Full, Find. | pool.Pool: Put, Remove. | pool.Pool: New. | pool.Pool: All, an iterator. | pool.Pool: Idle. | pool.Pool: Put and Remove as functions of the state; a nil pool; Bytes. -/
import Derived.Test.YtndekdafiaogmaaZCell
import Derived.Test.YtndekdafiaogmaaZIndex
import Derived.Deep.OwnRows
import Derived.Laws.OwnMore
import Derived.Test.YtndekdafiaogmaaZLow
set_option linter.unusedSimpArgs false
set_option linter.unusedVariables false
section
namespace Go.Proofs.Ytndekdafiaogmaa.Pool
open Go Go.RowKit Go.YtndekdafiaogmaaMem Go.YtndekdafiaogmaaLex Go.Proofs.Ytndekdafiaogmaa.Hash Go.Proofs.Ytndekdafiaogmaa.Keys Go.Proofs.Ytndekdafiaogmaa.Index Go.Proofs.Ytndekdafiaogmaa.Cell Go.Proofs.Ytndekdafiaogmaa.Arith
def cellsV (C : List Cell) : List Value := C.flatMap Cell.cells
theorem cellsV_get : ∀ (C : List Cell) (i : Nat) (c : Cell), C[i]? = some c → ∀ j, j < 4 → (cellsV C)[i * 4 + j]? = c.cells[j]?
 | [], i, c, h, j, hj => by simp at h
 | x :: C, 0, c, h, j, hj => by
   simp at h; subst h
   unfold cellsV
   rw [List.flatMap_cons, Nat.zero_mul, Nat.zero_add, List.getElem?_append_left (by simp [Cell.cells]; omega)]
 | x :: C, i + 1, c, h, j, hj => by
   have ih := cellsV_get C i c (by simpa using h) j hj
   unfold cellsV at *
   rw [List.flatMap_cons, List.getElem?_append_right (by simp [Cell.cells]; omega)]
   rw [← ih]
   congr 1
   simp [Cell.cells]; omega
theorem cellsV_set : ∀ (C : List Cell) (i : Nat) (c : Cell), i < C.length → cellsV (C.set i c) = ((((cellsV C).set (i * 4) (.int .i64 c.full)).set (i * 4 + 1) (.int .i64 c.since)).set (i * 4 + 2) (.int .i64 c.carry)).set (i * 4 + 3) (.int .i64 c.used)
 | [], i, c, h => by simp at h
 | x :: C, 0, c, h => by
   unfold cellsV
   rw [List.set_cons_zero, List.flatMap_cons, List.flatMap_cons]
   rfl
 | x :: C, i + 1, c, h => by
   have ih := cellsV_set C i c (by simpa using h)
   unfold cellsV at *
   rw [List.set_cons_succ, List.flatMap_cons, List.flatMap_cons, ih]
   have e : x.cells.length = 4 := rfl
   have hs : ∀ (A B : List Value) (k : Nat) (v : Value), A.length = 4 → (A ++ B).set (k + 4) v = A ++ B.set k v := fun A B k v ha => by
    rw [List.set_append, if_neg (by omega)]; congr 2; omega
   rw [show (i + 1) * 4 = i * 4 + 4 by omega, show i * 4 + 4 + 1 = i * 4 + 1 + 4 by omega, show i * 4 + 4 + 2 = i * 4 + 2 + 4 by omega, show i * 4 + 4 + 3 = i * 4 + 3 + 4 by omega, hs _ _ _ _ e, hs _ _ _ _ e, hs _ _ _ _ e, hs _ _ _ _ e]
structure PB where
 p : Nat
 cb : Nat
 x : Nat
 g : Nat
 L : List Nat
 r : Row
def PB.all (B : PB) : List Nat := B.p :: B.cb :: B.L
structure PoolAt (w : World) (B : PB) (S : List (Option (List UInt8))) (fl : List Nat) (C : List Cell) : Prop where
 blk : Blk w B.p 118 [.pointer (some ⟨B.g, 0, none⟩), .pointer (some ⟨B.x, 0, none⟩), .slice (some ⟨B.cb, 0, none⟩) S.length S.length]
 idx : IdxAt w B.x B.g B.L B.r S fl
 cel : Blk w B.cb 56 (cellsV C)
 len : C.length = S.length
 ok : ∀ c ∈ C, c.ok
 whole : Whole S.length S fl
 ne : B.p ≠ B.cb ∧ B.p ∉ B.L ∧ B.cb ∉ B.L
theorem PoolAt.mod {S0 : List Nat} {w w' : World} {B : PB} {S : List (Option (List UInt8))} {fl : List Nat} {C : List Cell} (h : PoolAt w B S fl C) (hm : Mod S0 w w') (h0 : ∀ b, b ∈ B.all → b ∉ S0) : PoolAt w' B S fl C :=
 ⟨hm.blk h.blk (h0 _ (by simp [PB.all])), h.idx.mod hm (fun b hb => h0 b (by simp [PB.all, hb])), hm.blk h.cel (h0 _ (by simp [PB.all])), h.len, h.ok, h.whole, h.ne⟩
theorem PoolAt.lt {w : World} {B : PB} {S : List (Option (List UInt8))} {fl : List Nat} {C : List Cell} (h : PoolAt w B S fl C) : ∀ b, b ∈ B.all → b < w.heap.size := by
 intro b hb
 simp only [PB.all, List.mem_cons] at hb
 rcases hb with rfl | rfl | hb
 ·exact h.blk.lt
 ·exact h.cel.lt
 ·exact h.idx.lt b hb
theorem PoolAt.drew {w : World} {B : PB} {S : List (Option (List UInt8))} {fl : List Nat} {C : List Cell} (h : PoolAt w B S fl C) : PoolAt w.drew B S fl C := h.mod (Mod.drew (Mod.refl [] w)) (by simp)
def cellAt (B : PB) (o : Option Nat) : Value := .pointer (o.map fun i => ⟨B.cb, i * 4, none⟩)
section
variable {w : World} {B : PB} {S : List (Option (List UInt8))} {fl : List Nat} {C : List Cell}
theorem len_any (h : PoolAt w B S fl C) : Calls Try.prog 47 #[.pointer (some ⟨B.p, 0, none⟩)] w fun e w' => e = .returned (.int .i64 (used S : Nat)) ∧ w = w' := by
 have U := Lib.hid (used_at h.idx)
 have c0 := h.blk.cell (i := 0) rfl
 clear h
 generalize used S = u at *
 go_enter Try.func47, Try.ntmps47
 go_wp2_with fail
 refine U.out.mono ?_
 rintro e1 w1 ⟨rfl, rfl⟩
 go_wp2_with fail
 go_ret
 exact ⟨rfl, rfl⟩
set_option maxRecDepth 4000 in
theorem full_any (h : PoolAt w B S fl C) : Calls Try.prog 54 #[.pointer (some ⟨B.p, 0, none⟩)] w fun e w' => e = .returned (.bool (decide (fl = []))) ∧ Mod [] w w' := by
 have U := Lib.hid (len_any (h.drew))
 have c2 := h.blk.cell (i := 2) rfl
 have hd : decide (fl = []) = ((used S : Int) == (S.length : Int)) := by
  have := h.whole.2
  rw [Bool.eq_iff_iff]
  simp only [decide_eq_true_eq, beq_iff_eq]
  constructor
  ·rintro rfl; simp at this; omega
  ·intro e; exact List.eq_nil_of_length_eq_zero (by omega)
 have isc : IsC w.drew B.p := isC_of_cell (w := w) c2
 have IS := Lib.hid isc
 rw [hd]
 clear h isc hd
 generalize used S = u at *
 generalize S.length = n at *
 go_enter Try.func54, Try.ntmps54
 go_wp2_with fail
 refine Go.YtndekdafiaogmaaLex.wp_region_held [5] [8] [] (by kernel_rfl) (by kernel_rfl) ?_
 simp only [wpCut, List.take_succ_cons, List.take_zero, List.drop_succ_cons, List.drop_zero, List.cons_append, List.nil_append]
 go_wp2_with fail
 refine U.out.mono ?_
 rintro e1 w1 ⟨rfl, rfl⟩
 go_wp2_with fail
 refine ⟨Mod.refl _ _, ?_⟩
 go_wp2_with fail
 refine ⟨by kernel_rfl, ⟨⟨by simp, IS.out⟩, trivial⟩, ?_⟩
 go_wp2_with fail
 go_ret
 exact ⟨rfl, (Mod.refl [] w).drew⟩
theorem find_any (h : PoolAt w B S fl C) (key : List UInt8) (hl : key.length ≤ 1000000) : Calls Try.prog 49 #[.pointer (some ⟨B.p, 0, none⟩), .string ⟨key.toArray⟩] w fun e w' => e = .returned (cellAt B (placeOf S key)) ∧ Mod [] w w' := by
 have F := Lib.hid (Index.find_any h.idx key hl)
 have HB := Lib.hid h.blk
 have c1 := h.blk.cell (i := 1) rfl
 have hfew := h.idx.few
 cases hp : placeOf S key with
 | none =>
   have ho : optInt (placeOf S key) = -1 := by rw [hp]; rfl
   rw [ho] at F
   have hr : cellAt B none = .pointer none := rfl
   rw [hr]
   clear h hp ho
   go_enter Try.func49, Try.ntmps49
   go_wp2_with fail
   refine F.out.mono ?_
   rintro e1 w1 ⟨rfl, hM⟩
   go_wp2_with fail
   go_ret
   exact ⟨rfl, hM⟩
 | some i =>
   have ho : optInt (placeOf S key) = (i : Int) := by rw [hp]; rfl
   rw [ho] at F
   have hr : cellAt B (some i) = .pointer (some ⟨B.cb, i * 4, none⟩) := rfl
   rw [hr]
   have hi : i < S.length := (List.getElem?_eq_some_iff.1 (placeOf_get hp)).1
   clear h hp ho hr
   go_enter Try.func49, Try.ntmps49
   go_wp2_with fail
   refine F.out.mono ?_
   rintro e1 w1 ⟨rfl, hM⟩
   have c2 := (hM.blk HB.out (by simp)).cell (i := 2) rfl
   go_wp2_with fail
   go_ret
   exact ⟨rfl, hM⟩
end
end Go.Proofs.Ytndekdafiaogmaa.Pool
end
section
namespace Go.Proofs.Ytndekdafiaogmaa.Pool
open Go Go.RowKit Go.YtndekdafiaogmaaMem Go.YtndekdafiaogmaaLex Go.Proofs.Ytndekdafiaogmaa.Hash Go.Proofs.Ytndekdafiaogmaa.Keys Go.Proofs.Ytndekdafiaogmaa.Index Go.Proofs.Ytndekdafiaogmaa.Cell Go.Proofs.Ytndekdafiaogmaa.Arith
theorem results_row_tmp {P : Program} {fn : Func} {p u : Tmp} {ty : TypeId} (h : fn.results = #[.cell p ty, .tmp u]) (tmps : Array Value) (w : World) (g : Nat) (t : TypeId) (cs : Array Value) (fr : Nat × Nat) (d : TypeDesc)
  (hp : tmps.getD p undef = .pointer (some ⟨g, 0, none⟩)) (hg : w.heap[g]? = some (.cells cs t fr))
  (hu : P.underlying ty = some d) (hd : (match d with | .struct _ | .array _ _ => true | _ => false) = true) (hi : (P.info? ty).map (·.size) = some cs.size) :
  (results fn tmps).run P w = .ok (.tuple #[.agg cs, tmps.getD u undef]) w := by
 rw [results_cell_tmp h tmps P w, hp]
 simp [asAddr, run_loadVar_row w g t ty cs fr d hg hu hd hi, Result.andThen]
theorem cel4 {w : World} {cb j : Nat} {C : List Cell} {c : Cell} (h : Blk w cb 56 (cellsV C)) (hc : C[j]? = some c) :
  w.cell? ⟨cb, j * 4, none⟩ = some (.int .i64 c.full) ∧ w.cell? ⟨cb, j * 4 + 1, none⟩ = some (.int .i64 c.since) ∧ w.cell? ⟨cb, j * 4 + 2, none⟩ = some (.int .i64 c.carry) ∧ w.cell? ⟨cb, j * 4 + 3, none⟩ = some (.int .i64 c.used) :=
 ⟨h.cell (by have := cellsV_get C j c hc 0 (by omega); rw [Nat.add_zero] at this; rw [this]; rfl), h.cell (by rw [cellsV_get C j c hc 1 (by omega)]; rfl), h.cell (by rw [cellsV_get C j c hc 2 (by omega)]; rfl), h.cell (by rw [cellsV_get C j c hc 3 (by omega)]; rfl)⟩
section
variable {w : World} {B : PB} {S : List (Option (List UInt8))} {fl : List Nat} {C : List Cell}
def PutNo (B : PB) (S : List (Option (List UInt8))) (fl : List Nat) (C : List Cell) (w : World) (e : Ending) (w' : World) : Prop := e = .returned (.pointer none) ∧ PoolAt w' B S fl C ∧ Mod B.all w w'
theorem all_L (B : PB) : ∀ b, b ∈ B.L → b ∈ B.all := fun b hb => by simp [PB.all, hb]
theorem put_no (h : PoolAt w B S fl C) (key : List UInt8) (hl : key.length ≤ 1000000) (hn : putS S fl key = (-1, S, fl)) (c : Cell) :
  Calls Try.prog 73 #[.pointer (some ⟨B.p, 0, none⟩), .string ⟨key.toArray⟩, c.val] w (PutNo B S fl C w) := by
 have P0 := Lib.hid (fun (W : World) (hM : Mod [] w W) => put_any (h.idx.mod hM (by simp)) key hl)
 rw [hn] at P0
 have H := Lib.hid h
 have k1 := (h.blk.alloc (.cells c.cells.toArray 56)).cell (i := 1) rfl
 have M0 := Lib.hid ((Mod.refl [] w).alloc (.cells c.cells.toArray 56))
 obtain ⟨c0, c1, c2, c3⟩ := c
 simp only [Cell.cells, Cell.val] at *
 clear h hn
 go_enter Try.func73, Try.ntmps73
 go_wp2_with fail
 refine (P0.out _ M0.out).mono ?_
 rintro e1 w1 ⟨rfl, hI, hM⟩
 have M1 := Lib.hid ((M0.out.mono (S' := B.L) (by simp)).trans hM)
 have I1 := Lib.hid hI
 clear hI hM
 go_wp2_with fail
 go_ret
 have h := H.out
 exact ⟨rfl, ⟨M1.out.blk h.blk h.ne.2.1, I1.out, M1.out.blk h.cel h.ne.2.2, h.len, h.ok, h.whole, h.ne⟩, M1.out.mono (fun b hb => .inl (all_L B b hb))⟩
def PutYes (B : PB) (S : List (Option (List UInt8))) (fl : List Nat) (C : List Cell) (j : Nat) (w : World) (e : Ending) (w' : World) : Prop := e = .returned (.pointer (some ⟨B.cb, j * 4, none⟩)) ∧ PoolAt w' B S fl C ∧ Mod B.all w w'
set_option maxRecDepth 4000 in
set_option maxHeartbeats 1600000 in
theorem put_yes {j : Nat} (h : PoolAt w B S (j :: fl) C) (key : List UInt8) (hk : key.length ≤ 64) (hn : placeOf S key = none) (c : Cell) (hc : c.ok) :
  Calls Try.prog 73 #[.pointer (some ⟨B.p, 0, none⟩), .string ⟨key.toArray⟩, c.val] w (PutYes B (S.set j (some key)) fl (C.set j c) j w) := by
 have P0 := Lib.hid (fun (W : World) (hM : Mod [] w W) => put_any (h.idx.mod hM (by simp)) key (by omega))
 rw [putS_yes hn hk] at P0
 have H := Lib.hid h
 have hj0 := h.idx.free0
 have hj : j < S.length := (List.getElem?_eq_some_iff.1 hj0).1
 have hfew := h.idx.few
 have W0 := Lib.hid (whole_set (key := key) h.whole hj0)
 have hlen := h.len
 have k1 := (h.blk.alloc (.cells c.cells.toArray 56)).cell (i := 1) rfl
 have M0 := Lib.hid ((Mod.refl [] w).alloc (.cells c.cells.toArray 56))
 have NB := Lib.hid (Blk.new w c.cells 56)
 have NL : Hid (w.heap.size ∉ B.L) := Lib.hid fun hm => by have := h.idx.lt _ hm; omega
 have HC := Lib.hid hc
 have hcel := Lib.hid (cellsV_set C j c (by omega))
 obtain ⟨old, hold⟩ : ∃ old, C[j]? = some old := ⟨_, List.getElem?_eq_getElem (by omega)⟩
 have HO := Lib.hid hold
 have HW := Lib.hid (show ∀ x, x ∈ C.set j c → x.ok from fun x hx => by
  rcases List.mem_or_eq_of_mem_set hx with hx | rfl
  ·exact h.ok x hx
  ·exact hc)
 obtain ⟨c0, c1, c2, c3⟩ := c
 simp only [Cell.cells, Cell.val] at *
 clear h hn hold hj0 hc
 go_enter Try.func73, Try.ntmps73
 go_wp2_with fail
 refine (P0.out _ M0.out).mono ?_
 rintro e1 w1 ⟨rfl, hI, hM⟩
 have M1 := Lib.hid ((M0.out.mono (S' := B.L) (by simp)).trans hM)
 have I1 := Lib.hid hI
 have NB1 := hM.blk NB.out NL.out
 have q0 := NB1.cell (i := 0) rfl
 have q1 := NB1.cell (i := 1) rfl
 have q2 := NB1.cell (i := 2) rfl
 have q3 := NB1.cell (i := 3) rfl
 have PB1 := Lib.hid (M1.out.blk H.out.blk H.out.ne.2.1)
 have m2 := PB1.out.cell (i := 2) rfl
 have CB1 := Lib.hid (M1.out.blk H.out.cel H.out.ne.2.2)
 obtain ⟨o0, o1, o2, o3⟩ := cel4 CB1.out HO.out
 have f0 := CB1.out.free (j * 4)
 have f1 := CB1.out.free (j * 4 + 1)
 have f2 := CB1.out.free (j * 4 + 2)
 have f3 := CB1.out.free (j * 4 + 3)
 have hne := H.out.ne.1
 clear hI hM NB1
 go_wp2_with fail
 refine wp_region_lex (by kernel_rfl) (by kernel_rfl) ?_
 go_wp2_with fail
 refine ⟨by kernel_rfl, ?_⟩
 go_wp2_with fail
 go_ret
 have h := H.out
 have MC := (((((Mod.refl [B.cb] w1).setCell (p := ⟨B.cb, j * 4, none⟩) (.inl (by simp)) (.int .i64 c0)).setCell (p := ⟨B.cb, j * 4 + 1, none⟩) (.inl (by simp)) (.int .i64 c1)).setCell (p := ⟨B.cb, j * 4 + 2, none⟩) (.inl (by simp)) (.int .i64 c2)).setCell (p := ⟨B.cb, j * 4 + 3, none⟩) (.inl (by simp)) (.int .i64 c3)).drew
 have CB2 := ((((CB1.out.set (j * 4) (.int .i64 c0)).set (j * 4 + 1) (.int .i64 c1)).set (j * 4 + 2) (.int .i64 c2)).set (j * 4 + 3) (.int .i64 c3)).drew
 rw [← hcel.out] at CB2
 refine ⟨rfl, ⟨?_, I1.out.mod MC (fun b hb hb' => by simp at hb'; subst hb'; exact h.ne.2.2 hb), CB2, by rw [List.length_set, List.length_set]; exact hlen, HW.out, ?_, h.ne⟩, (M1.out.mono (fun b hb => .inl (all_L B b hb))).trans (MC.mono (by simp [PB.all]))⟩
 ·rw [List.length_set]; exact MC.blk PB1.out (by simp; exact hne)
 ·have := W0.out.1; rw [List.length_set]; exact this
def RemPost (B : PB) (S : List (Option (List UInt8))) (fl : List Nat) (C : List Cell) (c : Cell) (ok : Bool) (w : World) (e : Ending) (w' : World) : Prop := e = .returned (.tuple #[c.val, .bool ok]) ∧ PoolAt w' B S fl C ∧ Mod B.all w w'
set_option maxRecDepth 4000 in
set_option maxHeartbeats 1600000 in
theorem rem_no (h : PoolAt w B S fl C) (key : List UInt8) (hl : key.length ≤ 1000000) (hn : placeOf S key = none) :
  Calls Try.prog 71 #[.pointer (some ⟨B.p, 0, none⟩), .string ⟨key.toArray⟩] w (RemPost B S fl C .zero false w) := by
 have P0 := Lib.hid (fun (W : World) (hM : Mod [] w W) => remove_any (h.idx.mod hM (by simp)) key hl)
 have hr : remS S fl key = (-1, S, fl) := by unfold remS; rw [hn]
 rw [hr] at P0
 have H := Lib.hid h
 have Z0 := Lib.hid (Blk.new w [.int .i64 0, .int .i64 0, .int .i64 0, .int .i64 0] 56)
 have k1 := (h.blk.alloc (.cells #[.int .i64 0, .int .i64 0, .int .i64 0, .int .i64 0] 56)).cell (i := 1) rfl
 have M0 := Lib.hid ((Mod.refl [] w).alloc (.cells #[.int .i64 0, .int .i64 0, .int .i64 0, .int .i64 0] 56))
 have NL : Hid (w.heap.size ∉ B.L) := Lib.hid fun hm => by have := h.idx.lt _ hm; omega
 have NA : Hid (w.heap.size ∉ B.all) := Lib.hid fun hm => by have := h.lt _ hm; omega
 clear h hn hr
 go_enter Try.func71, Try.ntmps71
 go_wp2_with fail
 refine (P0.out _ M0.out).mono ?_
 rintro e1 w1 ⟨rfl, hI, hM⟩
 have M1 := Lib.hid ((M0.out.mono (S' := B.L) (by simp)).trans hM)
 have I1 := Lib.hid hI
 have Z1 := Lib.hid (hM.blk Z0.out NL.out)
 have z0 := Z1.out.cell (i := 0) rfl
 have z1 := Z1.out.cell (i := 1) rfl
 have z2 := Z1.out.cell (i := 2) rfl
 have z3 := Z1.out.cell (i := 3) rfl
 have f0 := Z1.out.free 0
 have f1 := Z1.out.free 1
 have f2 := Z1.out.free 2
 have f3 := Z1.out.free 3
 clear hI hM
 go_wp2_with fail
 have Z2 := (((Z1.out.set 0 (.int .i64 0)).set 1 (.int .i64 0)).set 2 (.int .i64 0)).set 3 (.int .i64 0)
 have MZ := ((((Mod.refl [w.heap.size] w1).setCell (p := ⟨w.heap.size, 0, none⟩) (.inl (by simp)) (.int .i64 0)).setCell (p := ⟨w.heap.size, 1, none⟩) (.inl (by simp)) (.int .i64 0)).setCell (p := ⟨w.heap.size, 2, none⟩) (.inl (by simp)) (.int .i64 0)).setCell (p := ⟨w.heap.size, 3, none⟩) (.inl (by simp)) (.int .i64 0)
 have h := H.out
 refine bodyPost_ret (v := .tuple #[.agg #[.int .i64 0, .int .i64 0, .int .i64 0, .int .i64 0], .bool false]) (results_row_tmp (p := 4) (u := 5) (ty := 56) rfl _ _ w.heap.size 56 #[.int .i64 0, .int .i64 0, .int .i64 0, .int .i64 0] (0, 0) _ rfl Z2 Try.underlying56 rfl (four_size cell_info)) rfl ⟨rfl, ?_, ?_⟩
 ·have h1 : PoolAt w1 B S fl C := ⟨M1.out.blk h.blk h.ne.2.1, I1.out, M1.out.blk h.cel h.ne.2.2, h.len, h.ok, h.whole, h.ne⟩
  exact h1.mod MZ (fun b hb hb' => by simp at hb'; subst hb'; exact NA.out hb)
 ·exact (M1.out.mono (fun b hb => .inl (all_L B b hb))).trans' MZ (fun b hb => .inr (by simp at hb; omega))
set_option maxRecDepth 4000 in
set_option maxHeartbeats 1600000 in
theorem rem_yes (h : PoolAt w B S fl C) (key : List UInt8) (hl : key.length ≤ 1000000) (i : Nat) (hn : placeOf S key = some i) (c : Cell) (hc : C[i]? = some c) :
  Calls Try.prog 71 #[.pointer (some ⟨B.p, 0, none⟩), .string ⟨key.toArray⟩] w (RemPost B (S.set i none) (i :: fl) C c true w) := by
 have P0 := Lib.hid (fun (W : World) (hM : Mod [] w W) => remove_any (h.idx.mod hM (by simp)) key hl)
 have hr : remS S fl key = ((i : Int), S.set i none, i :: fl) := by unfold remS; rw [hn]
 rw [hr] at P0
 have H := Lib.hid h
 have hg := placeOf_get hn
 have hi : i < S.length := (List.getElem?_eq_some_iff.1 hg).1
 have hfew := h.idx.few
 have W0 := Lib.hid (whole_del h.whole hg)
 have HC := Lib.hid hc
 have Z0 := Lib.hid (Blk.new w [.int .i64 0, .int .i64 0, .int .i64 0, .int .i64 0] 56)
 have k1 := (h.blk.alloc (.cells #[.int .i64 0, .int .i64 0, .int .i64 0, .int .i64 0] 56)).cell (i := 1) rfl
 have M0 := Lib.hid ((Mod.refl [] w).alloc (.cells #[.int .i64 0, .int .i64 0, .int .i64 0, .int .i64 0] 56))
 have NL : Hid (w.heap.size ∉ B.L) := Lib.hid fun hm => by have := h.idx.lt _ hm; omega
 have NA : Hid (w.heap.size ∉ B.all) := Lib.hid fun hm => by have := h.lt _ hm; omega
 clear h hn hr hg hc
 obtain ⟨c0, c1, c2, c3⟩ := c
 go_enter Try.func71, Try.ntmps71
 go_wp2_with fail
 refine (P0.out _ M0.out).mono ?_
 rintro e1 w1 ⟨rfl, hI, hM⟩
 have M1 := Lib.hid ((M0.out.mono (S' := B.L) (by simp)).trans hM)
 have I1 := Lib.hid hI
 have Z1 := Lib.hid (hM.blk Z0.out NL.out)
 have m2 := (M1.out.blk H.out.blk H.out.ne.2.1).cell (i := 2) rfl
 obtain ⟨o0, o1, o2, o3⟩ := cel4 (M1.out.blk H.out.cel H.out.ne.2.2) HC.out
 have z0 := Z1.out.cell (i := 0) rfl
 have z1 := Z1.out.cell (i := 1) rfl
 have z2 := Z1.out.cell (i := 2) rfl
 have z3 := Z1.out.cell (i := 3) rfl
 have f0 := Z1.out.free 0
 have f1 := Z1.out.free 1
 have f2 := Z1.out.free 2
 have f3 := Z1.out.free 3
 clear hI hM
 simp only at o0 o1 o2 o3
 go_wp2_with fail
 have Z2 := (((Z1.out.set 0 (.int .i64 c0)).set 1 (.int .i64 c1)).set 2 (.int .i64 c2)).set 3 (.int .i64 c3)
 have MZ := ((((Mod.refl [w.heap.size] w1).setCell (p := ⟨w.heap.size, 0, none⟩) (.inl (by simp)) (.int .i64 c0)).setCell (p := ⟨w.heap.size, 1, none⟩) (.inl (by simp)) (.int .i64 c1)).setCell (p := ⟨w.heap.size, 2, none⟩) (.inl (by simp)) (.int .i64 c2)).setCell (p := ⟨w.heap.size, 3, none⟩) (.inl (by simp)) (.int .i64 c3)
 have h := H.out
 refine bodyPost_ret (v := .tuple #[.agg #[.int .i64 c0, .int .i64 c1, .int .i64 c2, .int .i64 c3], .bool true]) (results_row_tmp (p := 4) (u := 5) (ty := 56) rfl _ _ w.heap.size 56 #[.int .i64 c0, .int .i64 c1, .int .i64 c2, .int .i64 c3] (0, 0) _ rfl Z2 Try.underlying56 rfl (four_size cell_info)) rfl ⟨rfl, ?_, ?_⟩
 ·have h1 : PoolAt w1 B (S.set i none) (i :: fl) C := ⟨by rw [List.length_set]; exact M1.out.blk h.blk h.ne.2.1, I1.out, M1.out.blk h.cel h.ne.2.2, by rw [List.length_set]; exact h.len, h.ok, by rw [List.length_set]; exact W0.out.1, h.ne⟩
  exact h1.mod MZ (fun b hb hb' => by simp at hb'; subst hb'; exact NA.out hb)
 ·exact (M1.out.mono (fun b hb => .inl (all_L B b hb))).trans' MZ (fun b hb => .inr (by simp at hb; omega))
end
end Go.Proofs.Ytndekdafiaogmaa.Pool
end
section
namespace Go.Proofs.Ytndekdafiaogmaa.Pool
open Go Go.RowKit Go.YtndekdafiaogmaaMem Go.YtndekdafiaogmaaLex Go.Proofs.Ytndekdafiaogmaa.Hash Go.Proofs.Ytndekdafiaogmaa.Keys Go.Proofs.Ytndekdafiaogmaa.Index Go.Proofs.Ytndekdafiaogmaa.Cell Go.Proofs.Ytndekdafiaogmaa.Arith
theorem zero_ok : Cell.zero.ok := by refine ⟨?_, ?_, ?_, ?_⟩ <;> (show I64 0; unfold I64; omega)
theorem cellsV_zero (n : Nat) : cellsV (List.replicate n Cell.zero) = List.replicate (n * 4) (.int .i64 0) := by
 unfold cellsV
 induction n with
 | zero => rfl
 | succ n ih =>
   rw [List.replicate_succ, List.flatMap_cons, ih]
   rw [show Cell.zero.cells = List.replicate 4 (Value.int .i64 0) from rfl, List.replicate_append_replicate]
   congr 1; omega
theorem madeCells_four (m : Nat) : (madeCells #[.int .i64 0, .int .i64 0, .int .i64 0, .int .i64 0] m).toList = List.replicate m (.int .i64 0) := by
 apply List.ext_getElem?
 intro j
 by_cases hj : j < m
 ·have h4 : j % 4 < 4 := Nat.mod_lt _ (by omega)
  have e : ∀ k : Nat, k < 4 → (#[Value.int .i64 0, .int .i64 0, .int .i64 0, .int .i64 0] : Array Value)[k]! = .int .i64 0 := by
   intro k hk
   match k, hk with
   | 0, _ => rfl
   | 1, _ => rfl
   | 2, _ => rfl
   | 3, _ => rfl
  simp only [madeCells, Array.toList_map, Array.toList_range, List.getElem?_map, List.getElem?_range hj, List.getElem?_replicate, hj, if_true, Option.map_some]
  rw [show (#[Value.int .i64 0, .int .i64 0, .int .i64 0, .int .i64 0] : Array Value).size = 4 from rfl, e _ h4]
 ·rw [List.getElem?_eq_none (by simp [madeCells]; omega), List.getElem?_eq_none (by simp; omega)]
theorem make_cells (n : Nat) (hn : n ≤ 1024) (w : World) : (Instr.makeSlice 115 (.int .i64 (n : Int)) (.int .i64 (n : Int))).run Try.prog w = .ok (.slice (some ⟨w.heap.size, 0, none⟩) n n) (w.alloc (.cells (cellsV (List.replicate n Cell.zero)).toArray 56)) := by
 obtain ⟨i, hi, hz, hs, hb⟩ := info_parts cell_info
 have hr := run_make (P := Try.prog) w 115 56 i _ Try.underlying115 hi hz .i64 .i64 n n (by omega) (Int.le_refl _) (by rw [hb]; omega) (by omega)
 simp only [Int.toNat_natCast, hs] at hr
 have e : madeCells (Value.cells (.agg #[.int .i64 0, .int .i64 0, .int .i64 0, .int .i64 0])) (n * 4) = (List.replicate (n * 4) (Value.int .i64 0)).toArray := by
  show madeCells #[.int .i64 0, .int .i64 0, .int .i64 0, .int .i64 0] (n * 4) = _
  rw [← madeCells_four, Array.toArray_toList]
 rw [e] at hr
 rw [cellsV_zero]
 exact hr
def NewPost (n : Nat) (r : Row) (w : World) (e : Ending) (w' : World) : Prop :=
 ∃ B : PB, e = .returned (.pointer (some ⟨B.p, 0, none⟩)) ∧ PoolAt w' B (emp n) (List.range n) (List.replicate n Cell.zero) ∧ (∀ b, b ∈ B.all → w.heap.size ≤ b) ∧ B.r = r ∧ Mod [] w w'
set_option maxRecDepth 4000 in
set_option maxHeartbeats 3200000 in
theorem new_any (n : Nat) (h1 : 1 ≤ n) (hn : n ≤ 1024) (r : Row) (hr : r.ok) (w : World) :
  Calls Try.prog 31 #[.int .i64 n, .agg #[.int .u64 (r.x : Int), .int .u64 (r.a : Int), .int .u64 (r.b : Int)]] w (NewPost n r w) := by
 have d1 : decide ((n : Int) < 1) = false := by simp; omega
 have d2 : decide ((1024 : Int) < n) = false := by simp; omega
 have KN := Lib.hid (fun W : World => Keys.new_any n (by omega) W)
 have m1 := make_cells n hn
 obtain ⟨L1, hL1⟩ : ∃ L1, cellsV (List.replicate n Cell.zero) = L1 := ⟨_, rfl⟩
 rw [hL1] at m1
 have H1 := Lib.hid hL1
 have RB := Lib.hid (Blk.new w [.int .u64 (r.x : Int), .int .u64 (r.a : Int), .int .u64 (r.b : Int)] 75)
 have NI := Lib.hid (fun (W : World) (g b1 b2 b3 : Nat) (bs : List UInt8) (nx : List Int) (hS : Sto W g b1 b2 b3 (List.replicate n none) (List.range n) bs nx) => new_at hS r hr)
 have HR := Lib.hid (show ∃ r', r' = r from ⟨r, rfl⟩)
 obtain ⟨rx, ra, rb⟩ := r
 simp only at *
 clear hr hL1
 go_enter Try.func31, Try.ntmps31
 go_wp2_with fail
 obtain ⟨w0, hw0⟩ : ∃ w0, w.alloc (.cells #[.int .u64 (rx : Int), .int .u64 (ra : Int), .int .u64 (rb : Int)] 75) = w0 := ⟨_, rfl⟩
 have hs0 : w0.heap.size = w.heap.size + 1 := by rw [← hw0]; simp
 have M0 : Hid (Mod [] w w0) := Lib.hid (by rw [← hw0]; exact (Mod.refl [] w).alloc _)
 have R0 : Hid (Blk w0 w.heap.size 75 [.int .u64 (rx : Int), .int .u64 (ra : Int), .int .u64 (rb : Int)]) := Lib.hid (by rw [← hw0]; exact RB.out)
 rw [hw0]
 clear RB hw0
 refine wp_region_two 1 3 [0, 1, 2, 3, 4, 5, 6] [0, 2, 3, 1, 4, 5, 6] (by kernel_rfl) (by kernel_rfl) (by kernel_rfl) (by kernel_rfl) ?_ ?_
 all_goals simp only [edges, edge, pick, List.drop_succ_cons, List.drop_zero, List.take_succ_cons, List.take_zero, List.cons_append, List.nil_append]
 ·go_wp2_with fail
  refine (KN.out _).mono ?_
  rintro e1 w1 ⟨g, b1, b2, b3, bs, nx, rfl, hS, q0, q1, q2, q3, hM⟩
  have S1 := Lib.hid (hS.mod (((Mod.refl [] w1).alloc (.cells L1.toArray 56))) (by simp))
  have M1 := Lib.hid ((M0.out.drew.trans hM).alloc (.cells L1.toArray 56))
  have R1 := Lib.hid ((hM.blk R0.out.drew (by simp)).alloc (.cells L1.toArray 56))
  have C1 := Lib.hid (Blk.new w1 L1 56)
  have z0 := hM.size
  have hdr : w0.drew.heap.size = w0.heap.size := rfl
  have hlt : Hid (w1.heap.size ∉ [g, b1, b2, b3]) := Lib.hid fun hm => by have := sto_lt hS _ hm; omega
  clear hS hM
  go_wp2_with fail
  obtain ⟨w2, hw2⟩ : ∃ w2, w1.alloc (.cells L1.toArray 56) = w2 := ⟨_, rfl⟩
  have hs2 : w2.heap.size = w1.heap.size + 1 := by rw [← hw2]; simp
  obtain ⟨cb, hcb⟩ : ∃ cb, w1.heap.size = cb := ⟨_, rfl⟩
  have hp : w2.heap.size = w1.heap.size + 1 := hs2
  rw [hw2] at S1 M1 R1 C1 ⊢
  rw [← hp]
  rw [hcb] at C1 hlt hs2 hp ⊢
  have hcw : w.heap.size ≤ cb := by omega
  clear hw2 hp hcb hs2
  refine ⟨by kernel_rfl, ?_⟩
  go_wp2_with fail
  have PB0 := Lib.hid (Blk.new w2 [.pointer (some ⟨g, 0, none⟩), .pointer none, .slice (some ⟨cb, 0, none⟩) n n] 118)
  have A2 := Lib.hid ((Mod.refl [] w2).alloc (.cells #[.pointer (some ⟨g, 0, none⟩), .pointer none, .slice (some ⟨cb, 0, none⟩) n n] 118))
  have RA := Lib.hid (A2.out.blk R1.out (by simp))
  have SA := Lib.hid (S1.out.mod A2.out (by simp))
  have CA := Lib.hid (A2.out.blk C1.out (by simp))
  have r0 := RA.out.cell (i := 0) rfl
  have r1 := RA.out.cell (i := 1) rfl
  have r2 := RA.out.cell (i := 2) rfl
  have hcl : cb < w2.heap.size := C1.out.lt
  refine wp_region_lex (by kernel_rfl) (by kernel_rfl) ?_
  go_wp2_with fail
  refine (NI.out _ g b1 b2 b3 bs nx (SA.out.mod (Mod.drew (Mod.refl [] _)) (by simp))).mono ?_
  rintro e3 w3 ⟨x, L, rfl, hI, hL, hx, hM3⟩
  have I3 := Lib.hid hI
  have M3 := Lib.hid ((M1.out.trans A2.out).drew.trans hM3)
  have PB3 := Lib.hid (hM3.blk PB0.out.drew (by simp))
  have C3 := Lib.hid (hM3.blk CA.out.drew (by simp))
  have p1 := PB3.out.cell (i := 1) rfl
  have f1 := PB3.out.free 1
  have hnsz : (w2.alloc (.cells #[.pointer (some ⟨g, 0, none⟩), .pointer none, .slice (some ⟨cb, 0, none⟩) n n] 118)).drew.heap.size = w2.heap.size + 1 := by show (w2.alloc _).heap.size = _; simp
  rw [hnsz] at hL hx
  have hgl := sto_lt S1.out
  have NP : Hid (w2.heap.size ∉ L) := Lib.hid fun hm => by
   rcases hL _ hm with hq | hq
   ·have := hgl _ hq; omega
   ·omega
  have NC : Hid (cb ∉ L) := Lib.hid fun hm => by
   rcases hL _ hm with hq | hq
   ·exact hlt.out hq
   ·omega
  have LG : Hid (∀ b, b ∈ L → w.heap.size ≤ b) := Lib.hid fun b hb => by
   rcases hL b hb with hq | hq
   ·simp at hq; omega
   ·have := M1.out.size; omega
  have hws := M1.out.size
  clear hI hL hM3 hnsz hgl r0 r1 r2
  go_wp2_with fail
  refine ⟨by kernel_rfl, ?_⟩
  go_wp2_with fail
  go_ret
  have MS := ((Mod.refl [w2.heap.size] w3).setCell (p := ⟨w2.heap.size, 1, none⟩) (.inl (by simp)) (.pointer (some ⟨x, 0, none⟩)))
  refine ⟨⟨w2.heap.size, cb, x, g, L, ⟨rx, ra, rb⟩⟩, rfl, ⟨?_, I3.out.mod MS (fun b hb hb' => by simp at hb'; subst hb'; exact NP.out hb), MS.blk (by rw [H1.out]; exact C3.out) (by simp; omega), by simp [emp], fun c hc => by rw [List.eq_of_mem_replicate hc]; exact zero_ok, by have := whole_emp n; rwa [show (emp n).length = n by simp [emp]], ⟨by simp only; omega, NP.out, NC.out⟩⟩, fun b hb => ?_, rfl, M3.out.trans' MS (fun b hb => .inr (by simp at hb; omega))⟩
  ·rw [show (emp n).length = n by simp [emp]]
   exact PB3.out.set 1 _
  ·simp only [PB.all, List.mem_cons] at hb
   rcases hb with rfl | rfl | hb
   ·omega
   ·omega
   ·exact LG.out b hb
 ·go_wp2_with fail
  refine (KN.out _).mono ?_
  rintro e1 w2 ⟨g, b1, b2, b3, bs, nx, rfl, hS, q0, q1, q2, q3, hM⟩
  have C0 := Blk.new w0 L1 56
  rw [hs0] at C0
  have S1 := Lib.hid hS
  have M1 := Lib.hid ((M0.out.alloc (.cells L1.toArray 56)).drew.trans hM)
  have R1 := Lib.hid (hM.blk (R0.out.alloc (.cells L1.toArray 56)).drew (by simp))
  have C1 := Lib.hid (hM.blk C0.drew (by simp))
  have hsz : (w0.alloc (.cells L1.toArray 56)).drew.heap.size = w.heap.size + 1 + 1 := by show (w0.alloc _).heap.size = _; simp [hs0]
  have z0 := hM.size
  rw [hsz] at q0 q1 q2 q3 z0
  have hlt : Hid (w.heap.size + 1 ∉ [g, b1, b2, b3]) := Lib.hid fun hm => by simp at hm; omega
  have hcw : w.heap.size ≤ w.heap.size + 1 := by omega
  have hs2 : w.heap.size + 1 < w2.heap.size := C1.out.lt
  clear hS hM C0
  go_wp2_with fail
  refine ⟨by kernel_rfl, ?_⟩
  go_wp2_with fail
  have PB0 := Lib.hid (Blk.new w2 [.pointer (some ⟨g, 0, none⟩), .pointer none, .slice (some ⟨(w.heap.size + 1), 0, none⟩) n n] 118)
  have A2 := Lib.hid ((Mod.refl [] w2).alloc (.cells #[.pointer (some ⟨g, 0, none⟩), .pointer none, .slice (some ⟨(w.heap.size + 1), 0, none⟩) n n] 118))
  have RA := Lib.hid (A2.out.blk R1.out (by simp))
  have SA := Lib.hid (S1.out.mod A2.out (by simp))
  have CA := Lib.hid (A2.out.blk C1.out (by simp))
  have r0 := RA.out.cell (i := 0) rfl
  have r1 := RA.out.cell (i := 1) rfl
  have r2 := RA.out.cell (i := 2) rfl
  have hcl : (w.heap.size + 1) < w2.heap.size := C1.out.lt
  refine wp_region_lex (by kernel_rfl) (by kernel_rfl) ?_
  go_wp2_with fail
  refine (NI.out _ g b1 b2 b3 bs nx (SA.out.mod (Mod.drew (Mod.refl [] _)) (by simp))).mono ?_
  rintro e3 w3 ⟨x, L, rfl, hI, hL, hx, hM3⟩
  have I3 := Lib.hid hI
  have M3 := Lib.hid ((M1.out.trans A2.out).drew.trans hM3)
  have PB3 := Lib.hid (hM3.blk PB0.out.drew (by simp))
  have C3 := Lib.hid (hM3.blk CA.out.drew (by simp))
  have p1 := PB3.out.cell (i := 1) rfl
  have f1 := PB3.out.free 1
  have hnsz : (w2.alloc (.cells #[.pointer (some ⟨g, 0, none⟩), .pointer none, .slice (some ⟨(w.heap.size + 1), 0, none⟩) n n] 118)).drew.heap.size = w2.heap.size + 1 := by show (w2.alloc _).heap.size = _; simp
  rw [hnsz] at hL hx
  have hgl := sto_lt S1.out
  have NP : Hid (w2.heap.size ∉ L) := Lib.hid fun hm => by
   rcases hL _ hm with hq | hq
   ·have := hgl _ hq; omega
   ·omega
  have NC : Hid ((w.heap.size + 1) ∉ L) := Lib.hid fun hm => by
   rcases hL _ hm with hq | hq
   ·exact hlt.out hq
   ·omega
  have LG : Hid (∀ b, b ∈ L → w.heap.size ≤ b) := Lib.hid fun b hb => by
   rcases hL b hb with hq | hq
   ·simp at hq; omega
   ·have := M1.out.size; omega
  have hws := M1.out.size
  clear hI hL hM3 hnsz hgl r0 r1 r2
  go_wp2_with fail
  refine ⟨by kernel_rfl, ?_⟩
  go_wp2_with fail
  go_ret
  have MS := ((Mod.refl [w2.heap.size] w3).setCell (p := ⟨w2.heap.size, 1, none⟩) (.inl (by simp)) (.pointer (some ⟨x, 0, none⟩)))
  refine ⟨⟨w2.heap.size, (w.heap.size + 1), x, g, L, ⟨rx, ra, rb⟩⟩, rfl, ⟨?_, I3.out.mod MS (fun b hb hb' => by simp at hb'; subst hb'; exact NP.out hb), MS.blk (by rw [H1.out]; exact C3.out) (by simp; omega), by simp [emp], fun c hc => by rw [List.eq_of_mem_replicate hc]; exact zero_ok, by have := whole_emp n; rwa [show (emp n).length = n by simp [emp]], ⟨by simp only; omega, NP.out, NC.out⟩⟩, fun b hb => ?_, rfl, M3.out.trans' MS (fun b hb => .inr (by simp at hb; omega))⟩
  ·rw [show (emp n).length = n by simp [emp]]
   exact PB3.out.set 1 _
  ·simp only [PB.all, List.mem_cons] at hb
   rcases hb with rfl | rfl | hb
   ·omega
   ·omega
   ·exact LG.out b hb
end Go.Proofs.Ytndekdafiaogmaa.Pool
end
section
namespace Go.Proofs.Ytndekdafiaogmaa.Pool
open Go Go.RowKit Go.YtndekdafiaogmaaMem Go.YtndekdafiaogmaaLex Go.YtndekdafiaogmaaRange Go.Proofs.Ytndekdafiaogmaa.Hash Go.Proofs.Ytndekdafiaogmaa.Keys Go.Proofs.Ytndekdafiaogmaa.Index Go.Proofs.Ytndekdafiaogmaa.Cell Go.Proofs.Ytndekdafiaogmaa.Arith
theorem blk_same {w w' : World} {b : Nat} {T : TypeId} {cs : List Value} (h : Blk w b T cs) (e : w'.heap[b]? = w.heap[b]?) : Blk w' b T cs := e.trans h
theorem idx_same {w w' : World} {x g : Nat} {L : List Nat} {r : Row} {S : List (Option (List UInt8))} {fl : List Nat} (h : IdxAt w x g L r S fl) (e : ∀ b, b ∈ L → w'.heap[b]? = w.heap[b]?) : IdxAt w' x g L r S fl := by
 obtain ⟨b1, b2, b3, t, bs, nx, T, rfl, h⟩ := h
 have s := h.sto
 exact ⟨b1, b2, b3, t, bs, nx, T, rfl, ⟨⟨blk_same s.blk (e _ (by simp)), blk_same s.bytes (e _ (by simp)), blk_same s.sizes (e _ (by simp)), blk_same s.nexts (e _ (by simp)), s.len, s.nlen, s.few, s.key, s.free, s.nodup, s.all, s.ne⟩, blk_same h.blk (e _ (by simp)), blk_same h.tab (e _ (by simp)), h.ok, h.ix, h.ne⟩⟩
theorem PoolAt.same {w w' : World} {B : PB} {S : List (Option (List UInt8))} {fl : List Nat} {C : List Cell} (h : PoolAt w B S fl C) (e : ∀ b, b ∈ B.all → w'.heap[b]? = w.heap[b]?) : PoolAt w' B S fl C :=
 ⟨blk_same h.blk (e _ (by simp [PB.all])), idx_same h.idx (fun b hb => e b (by simp [PB.all, hb])), blk_same h.cel (e _ (by simp [PB.all])), h.len, h.ok, h.whole, h.ne⟩
theorem key_at {w : World} {x g : Nat} {L : List Nat} {r : Row} {S : List (Option (List UInt8))} {fl : List Nat} (h : IdxAt w x g L r S fl) (i : Int) : Calls Try.prog 90 #[.pointer (some ⟨g, 0, none⟩), .int .i64 i] w (KeyPost (Keys.keyOf S i) w) := by
 obtain ⟨b1, b2, b3, t, bs, nx, T, rfl, h⟩ := h
 exact key_any h.sto i
def pair1 (q : Option (List UInt8) × Cell) : Option (List UInt8 × Cell) := q.1.map fun k => (k, q.2)
def pairs (S : List (Option (List UInt8))) (C : List Cell) : List (List UInt8 × Cell) := (S.zip C).filterMap pair1
def pairsTo (S : List (Option (List UInt8))) (C : List Cell) (k : Nat) : List (List UInt8 × Cell) := ((S.zip C).take k).filterMap pair1
theorem pairsTo_all {S : List (Option (List UInt8))} {C : List Cell} (h : C.length = S.length) : pairsTo S C S.length = pairs S C := by
 unfold pairsTo pairs
 rw [List.take_of_length_le (by simp; omega)]
theorem pairsTo_next {S : List (Option (List UInt8))} {C : List Cell} {k : Nat} {o : Option (List UInt8)} {c : Cell} (ho : S[k]? = some o) (hc : C[k]? = some c) : pairsTo S C (k + 1) = pairsTo S C k ++ (o.map fun x => (x, c)).toList := by
 unfold pairsTo
 have hz : (S.zip C)[k]? = some (o, c) := by rw [List.getElem?_zip_eq_some]; exact ⟨ho, hc⟩
 rw [List.take_add_one, hz, List.filterMap_append]
 cases o <;> rfl
theorem pairsTo_post {S : List (Option (List UInt8))} {C : List Cell} {k : Nat} {x : List UInt8} {c : Cell} (ho : S[k]? = some (some x)) (hc : C[k]? = some c) : ∃ post, pairs S C = pairsTo S C k ++ (x, c) :: post := by
 have hz : (S.zip C)[k]? = some (some x, c) := by rw [List.getElem?_zip_eq_some]; exact ⟨ho, hc⟩
 have hk : k < (S.zip C).length := (List.getElem?_eq_some_iff.1 hz).1
 refine ⟨((S.zip C).drop (k + 1)).filterMap pair1, ?_⟩
 unfold pairs pairsTo
 conv => lhs; rw [← List.take_append_drop k (S.zip C), List.drop_eq_getElem_cons hk]
 rw [List.filterMap_append, List.filterMap_cons]
 have hg : (S.zip C)[k] = (some x, c) := (List.getElem?_eq_some_iff.1 hz).2
 rw [hg]; rfl
abbrev encP (x : List UInt8 × Cell) : Array Value := #[.string ⟨x.1.toArray⟩, x.2.val]
attribute [local go_sem] Oper.semAt_some
set_option maxRecDepth 4000 in
set_option maxHeartbeats 3200000 in
theorem all_iter {w : World} {B : PB} {S : List (Option (List UInt8))} {fl : List Nat} {C : List Cell} (h : PoolAt w B S fl C) {Kp : World → World → Prop} (hK : ∀ A A', PoolAt A B S fl C → Kp A A' → ∀ b, b ∈ B.all → A'.heap[b]? = A.heap[b]?) :
  Iter Try.prog 83 #[.pointer (some ⟨B.p, 0, none⟩)] #[] encP (pairs S C) Kp w := by
 intro l J Jx W hKW hJ hJx hY h0
 have hW : PoolAt W B S fl C := h.same (hK _ _ h hKW)
 clear hKW h
 refine callsIn_of_wp Try.func83 rfl trivial ?_ rfl
 simp only [Try.ntmps83, List.size_toArray, List.length_cons, List.length_nil, Nat.reduceAdd, Nat.reduceSub, Array.replicate_succ, Array.replicate_zero, List.push_toArray, List.append_toArray, List.nil_append, List.cons_append]
 have c2 := hW.blk.cell (i := 2) rfl
 have hfew := hW.idx.few
 have HW := Lib.hid hW
 have hlen := hW.len
 clear hW
 have HP := Lib.hid (pairsTo_all hlen)
 obtain ⟨n, hn⟩ : ∃ n, S.length = n := ⟨_, rfl⟩
 rw [hn] at c2 hfew hlen HP
 have HN := Lib.hid hn
 have HY := Lib.hid hY
 have H0 := Lib.hid h0
 have HJ := Lib.hid hJ
 clear hn hY h0 hJ hJx
 gi_wp2
 gi_loopw [15] (fun i wr => ∃ k : Nat, k ≤ n ∧ i = .int .i64 (k : Int) ∧ PoolAt wr B S fl C ∧ J (pairsTo S C k) wr) (fun i _ => n - (intOf i).toNat)
 case atStart => exact ⟨0, Nat.zero_le _, rfl, HW.out, H0.out⟩
 case round =>
  clear HW H0 c2
  obtain ⟨k, hk, rfl, hR, hJr⟩ := hrel
  have RR := Lib.hid hR
  have JR := Lib.hid hJr
  by_cases hlt : k < n
  ·obtain ⟨c, hc⟩ : ∃ c, C[k]? = some c := ⟨_, List.getElem?_eq_getElem (by omega)⟩
   obtain ⟨o, ho⟩ : ∃ o, S[k]? = some o := ⟨_, List.getElem?_eq_getElem (by rw [HN.out]; omega)⟩
   obtain ⟨o0, o1, o2, o3⟩ := cel4 hR.cel hc
   have k0 := (hR.blk.alloc (.cells c.cells.toArray 56)).cell (i := 0) rfl
   have A1 := Lib.hid ((Mod.refl [] wr).alloc (.cells c.cells.toArray 56))
   have NB := Lib.hid (Blk.new wr c.cells 56)
   have KY := Lib.hid (key_at (hR.idx.mod A1.out (by simp)) (k : Int))
   have HO := Lib.hid ho
   have HC := Lib.hid hc
   obtain ⟨c0, c1, c2, c3⟩ := c
   simp only [Cell.cells] at *
   cases o with
   | none =>
     have hko : Keys.keyOf S (k : Int) = none := by unfold Keys.keyOf; rw [if_pos (by omega), Int.toNat_natCast, ho]; rfl
     rw [hko] at KY
     have hnx := pairsTo_next ho hc
     have HX := Lib.hid hnx
     clear hR hJr hc ho hko hnx
     gi_wp2
     refine ⟨trivial, (callsIn_wide.2 KY.out).mono ?_⟩
     rintro e1 w1 ⟨rfl, hM1⟩
     have M1 := Lib.hid (A1.out.trans hM1)
     clear hM1
     gi_wp2
     refine ⟨fun _ h => (by cases h), ?_⟩
     gi_wp2
     go_roundw
     case rel => exact ⟨k + 1, by omega, by go_num, RR.out.mod M1.out (by simp), by rw [HX.out]; simp; exact HJ.out _ _ _ JR.out M1.out⟩
     case measure => simp [intOf]; omega
   | some key =>
     have hko : Keys.keyOf S (k : Int) = some key := keyOf_some ho
     rw [hko] at KY
     have hnx := pairsTo_next ho hc
     have HX := Lib.hid hnx
     have HQ := Lib.hid (pairsTo_post ho hc)
     clear hR hJr hc ho hko hnx
     gi_wp2
     refine ⟨trivial, (callsIn_wide.2 KY.out).mono ?_⟩
     rintro e1 w1 ⟨rfl, hM1⟩
     have M1 := Lib.hid (A1.out.trans hM1)
     have NB1 := Lib.hid (hM1.blk NB.out (by simp))
     have q0 := NB1.out.cell (i := 0) rfl
     have q1 := NB1.out.cell (i := 1) rfl
     have q2 := NB1.out.cell (i := 2) rfl
     have q3 := NB1.out.cell (i := 3) rfl
     obtain ⟨fn, tmps, assign, body, hy, hR⟩ := HY.out _ (key, ⟨c0, c1, c2, c3⟩) w1 (HJ.out _ _ _ JR.out M1.out) HQ.out
     have HRR := Lib.hid hR
     clear hM1 hR
     gi_wp2
     refine HRR.out.mono ?_
     rintro e2 w2 (⟨rfl, hJ2, hK2⟩ | ⟨rfl, hJx2⟩)
     ·have J2 := Lib.hid hJ2
      have R2 := Lib.hid ((RR.out.mod M1.out (by simp)).same (hK _ _ (RR.out.mod M1.out (by simp)) hK2))
      clear hJ2 hK2
      gi_wp2
      go_roundw
      case rel => exact ⟨k + 1, by omega, by go_num, R2.out, by rw [HX.out]; exact J2.out⟩
      case measure => simp [intOf]; omega
     ·have J2 := Lib.hid hJx2
      clear hJx2
      gi_wp2
      refine bodyPost_ret (results_none rfl _ _ _) rfl ?_
      obtain ⟨post, hp⟩ := HQ.out
      exact ⟨⟨_, rfl⟩, .inr ⟨_, _, post, hp, J2.out⟩⟩
  ·obtain rfl : k = n := by omega
   clear hR hJr
   gi_wp2
   go_end0
   exact ⟨⟨_, rfl⟩, .inl (by rw [← HP.out]; exact JR.out)⟩
end Go.Proofs.Ytndekdafiaogmaa.Pool
end
section
namespace Go.Proofs.Ytndekdafiaogmaa.Pool
open Go Go.RowKit Go.YtndekdafiaogmaaMem Go.YtndekdafiaogmaaLex Go.YtndekdafiaogmaaRange Go.Proofs.Ytndekdafiaogmaa.Hash Go.Proofs.Ytndekdafiaogmaa.Keys Go.Proofs.Ytndekdafiaogmaa.Index Go.Proofs.Ytndekdafiaogmaa.Cell Go.Proofs.Ytndekdafiaogmaa.Arith
attribute [local go_sem] Oper.semAt_some
def firstIdle (p : Pace) (now : Int) (l : List (List UInt8 × Cell)) : Value × Bool :=
 match l.find? fun x => x.2.idle p now with
 | some x => (.string ⟨x.1.toArray⟩, true)
 | none => (.string ⟨#[]⟩, false)
def IdlePost (p : Pace) (now : Int) (l : List (List UInt8 × Cell)) (w : World) (e : Ending) (w' : World) : Prop :=
 e = .returned (.tuple #[(firstIdle p now l).1, .bool (firstIdle p now l).2]) ∧ Mod [] w w'
theorem pairs_ok {S : List (Option (List UInt8))} {C : List Cell} (h : ∀ c ∈ C, c.ok) {x : List UInt8 × Cell} (hx : x ∈ pairs S C) : x.2.ok := by
 unfold pairs at hx
 obtain ⟨q, hq, hp⟩ := List.mem_filterMap.1 hx
 unfold pair1 at hp
 cases ho : q.1 with
 | none => rw [ho] at hp; cases hp
 | some k =>
   rw [ho] at hp
   simp at hp
   subst hp
   exact h _ (List.of_mem_zip hq).2
theorem find_stop {α : Type} {f : α → Bool} {pre post : List α} {x : α} (h : ∀ y ∈ pre, f y = false) (hx : f x = true) : (pre ++ x :: post).find? f = some x := by
 rw [List.find?_append, List.find?_eq_none.2 (fun y hy => by rw [h y hy]; simp)]
 simp [hx]
set_option maxRecDepth 8000 in
set_option maxHeartbeats 3200000 in
theorem idle_core {w : World} {ptr : Option Addr} {xs : List (List UInt8 × Cell)} (hit : ∀ W, Mod [] w W → Iter Try.prog 83 #[.pointer ptr] #[] encP xs (Under W.heap.size []) W) (hok : ∀ x ∈ xs, x.2.ok) (p : Pace) (now : Int) (hp : p.ok) (hn : I64 (now - p.window)) :
  Calls Try.prog 53 #[.pointer ptr, p.val, .int .i64 now] w (IdlePost p now xs w) := by
 have HC := Lib.hid hok
 have IC := Lib.hid (fun (c : Cell) (hc : c.ok) (W : World) => Cell.idle_any c p now hc hp hn W)
 have B4 := Lib.hid (Blk.new w [.int .i64 p.unit, .int .i64 p.window, .int .i64 p.burst, .int .i64 p.limit] 77)
 refine calls_of_wp_marks Try.func53 rfl ?_
 simp only [Try.ntmps53, List.size_toArray, List.length_cons, List.length_nil, Nat.reduceAdd, Nat.reduceSub, Array.replicate_succ, Array.replicate_zero, List.push_toArray, List.append_toArray, List.nil_append, List.cons_append]
 have HIT := Lib.hid hit
 clear hit hok hp hn
 have B5 := Lib.hid (Blk.new (w.alloc (.cells #[.int .i64 p.unit, .int .i64 p.window, .int .i64 p.burst, .int .i64 p.limit] 77)) [.int .i64 now] 2)
 go_wp2_with fail
 obtain ⟨w1, hw1⟩ : ∃ w1, ((((w.alloc (.cells #[.int .i64 p.unit, .int .i64 p.window, .int .i64 p.burst, .int .i64 p.limit] 77)).alloc (.cells #[.int .i64 now] 2)).alloc (.cells #[.string ⟨#[]⟩] 9)).alloc (.cells #[.bool false] 4)) = w1 := ⟨_, rfl⟩
 have hs1 : w1.heap.size = w.heap.size + 1 + 1 + 1 + 1 := by rw [← hw1]; simp
 have M1 : Hid (Mod [] w w1) := Lib.hid (by rw [← hw1]; exact ((((Mod.refl [] w).alloc _).alloc _).alloc _).alloc _)
 have X4 : Hid (Blk w1 w.heap.size 77 [.int .i64 p.unit, .int .i64 p.window, .int .i64 p.burst, .int .i64 p.limit]) := Lib.hid (by rw [← hw1]; exact ((B4.out.alloc _).alloc _).alloc _)
 have X5 : Hid (Blk w1 (w.heap.size + 1) 2 [.int .i64 now]) := Lib.hid (by
  rw [← hw1]
  have := (B5.out.alloc (.cells #[.string ⟨#[]⟩] 9)).alloc (.cells #[.bool false] 4)
  rw [show (w.alloc (.cells #[.int .i64 p.unit, .int .i64 p.window, .int .i64 p.burst, .int .i64 p.limit] 77)).heap.size = w.heap.size + 1 by simp] at this
  exact this)
 have X6 : Hid (Blk w1 (w.heap.size + 1 + 1) 9 [.string ⟨#[]⟩]) := Lib.hid (by
  rw [← hw1]
  have := (Blk.new ((w.alloc (.cells #[.int .i64 p.unit, .int .i64 p.window, .int .i64 p.burst, .int .i64 p.limit] 77)).alloc (.cells #[.int .i64 now] 2)) [.string ⟨#[]⟩] 9).alloc (.cells #[.bool false] 4)
  rw [show ((w.alloc (.cells #[.int .i64 p.unit, .int .i64 p.window, .int .i64 p.burst, .int .i64 p.limit] 77)).alloc (.cells #[.int .i64 now] 2)).heap.size = w.heap.size + 1 + 1 by simp] at this
  exact this)
 have X7 : Hid (Blk w1 (w.heap.size + 1 + 1 + 1) 4 [.bool false]) := Lib.hid (by
  rw [← hw1]
  have := (Blk.new (((w.alloc (.cells #[.int .i64 p.unit, .int .i64 p.window, .int .i64 p.burst, .int .i64 p.limit] 77)).alloc (.cells #[.int .i64 now] 2)).alloc (.cells #[.string ⟨#[]⟩] 9)) [.bool false] 4)
  rw [show (((w.alloc (.cells #[.int .i64 p.unit, .int .i64 p.window, .int .i64 p.burst, .int .i64 p.limit] 77)).alloc (.cells #[.int .i64 now] 2)).alloc (.cells #[.string ⟨#[]⟩] 9)).heap.size = w.heap.size + 1 + 1 + 1 by simp] at this
  exact this)
 rw [hw1]
 clear hw1 B4 B5
 refine wp_range (Kp := Under w1.heap.size []) (encs := encP) (xs := xs) rfl (enters_of Try.func83 (by kernel_rfl) rfl)
  (HIT.out w1 M1.out) (fun h k => h.trans k) (fun h => h) (fun _ => rfl)
  (fun pre W => (∀ y ∈ pre, y.2.idle p now = false) ∧ Mod [] w1 W)
  (fun c pre W => c = .ret ∧ (∃ pre' x, pre = pre' ++ [x] ∧ (∀ y ∈ pre', y.2.idle p now = false) ∧ x.2.idle p now = true ∧ Blk W (w.heap.size + 1 + 1) 9 [.string ⟨x.1.toArray⟩] ∧ Blk W (w.heap.size + 1 + 1 + 1) 4 [.bool true]) ∧ Mod [w.heap.size + 1 + 1, w.heap.size + 1 + 1 + 1] w1 W)
  ?hI ?hIx ⟨by simp, Mod.refl _ _⟩ ?round ?done ?stop
 case hI => exact fun pre A B' h hu => ⟨h.1, mod_under h.2 hu⟩
 case hIx =>
  rintro c pre A B' ⟨hc, ⟨pre', x, h1, h2, h3, h4, h5⟩, hM⟩ hu
  exact ⟨hc, ⟨pre', x, h1, h2, h3, blk_under h4 hu (by omega), blk_under h5 hu (by omega)⟩, mod_under hM hu⟩
 case round =>
  rintro l pre x W hl1 hl2 ⟨hid, hM⟩ ⟨post, hx⟩
  have hxo : x.2.ok := HC.out _ (by rw [hx]; simp)
  have MW := Lib.hid hM
  have HX := Lib.hid hx
  have HID := Lib.hid hid
  obtain ⟨key, c⟩ := x
  have I1 := Lib.hid (IC.out c hxo)
  have hci : c.idle p now = c.idle p now := rfl
  have NB := Lib.hid (Blk.new W c.cells 56)
  have A1 := Lib.hid ((Mod.refl [] W).alloc (.cells c.cells.toArray 56))
  have hWs := hM.size
  clear hM hx hid hxo
  obtain ⟨b, hb⟩ : ∃ b, c.idle p now = b := ⟨_, rfl⟩
  rw [hb] at I1
  have HB := Lib.hid hb
  clear hb hci
  obtain ⟨c0, c1, c2, c3⟩ := c
  simp only [Cell.cells] at *
  gi_wp2
  refine ⟨Over.of_mod A1.out (by simp), Under.of_mod A1.out hWs, fun o => ?_⟩
  obtain ⟨W2, hW2⟩ : ∃ W2, (W.alloc (.cells #[.int .i64 c0, .int .i64 c1, .int .i64 c2, .int .i64 c3] 56)).putObj l o = W2 := ⟨_, rfl⟩
  have M2 : Hid (Mod [l] (W.alloc (.cells #[.int .i64 c0, .int .i64 c1, .int .i64 c2, .int .i64 c3] 56)) W2) := Lib.hid (by rw [← hW2]; exact mod_putObj _ _ _)
  have N2 := Lib.hid (M2.out.blk NB.out (by simp; omega))
  have MW2 := Lib.hid ((MW.out.trans A1.out).trans' M2.out (fun b hb => .inr (by simp at hb; omega)))
  rw [hW2]
  clear hW2
  have q0 := N2.out.cell (i := 0) rfl
  have q1 := N2.out.cell (i := 1) rfl
  have q2 := N2.out.cell (i := 2) rfl
  have q3 := N2.out.cell (i := 3) rfl
  have Y4 := Lib.hid (MW2.out.blk X4.out (by simp))
  have Y5 := Lib.hid (MW2.out.blk X5.out (by simp))
  have p0 := Y4.out.cell (i := 0) rfl
  have p1 := Y4.out.cell (i := 1) rfl
  have p2 := Y4.out.cell (i := 2) rfl
  have p3 := Y4.out.cell (i := 3) rfl
  have n0 := Y5.out.cell (i := 0) rfl
  gi_wp2
  refine ⟨trivial, CallsIn.inRound l ((callsIn_wide.2 (I1.out W2)).mono ?_)⟩
  rintro e3 w3 ⟨rfl, hM3⟩
  have MW3 := Lib.hid (MW2.out.trans hM3)
  have N3 := Lib.hid hM3
  have Z6 := Lib.hid (MW3.out.blk X6.out (by simp))
  have Z7 := Lib.hid (MW3.out.blk X7.out (by simp))
  have z6 := Z6.out.cell (i := 0) rfl
  have z7 := Z7.out.cell (i := 0) rfl
  have f6 := Z6.out.free 0
  have f7 := Z7.out.free 0
  have hs2 := MW2.out.size
  clear hM3 q0 q1 q2 q3 p0 p1 p2 p3 n0
  cases b with
  | true =>
    gi_wp2
    refine ⟨?_, rfl, ⟨pre, _, rfl, HID.out, HB.out, ?_, ?_⟩, ?_⟩
    ·exact (Over.of_mod N3.out (by simp)).trans (Over.of_mod (((Mod.refl [w.heap.size + 1 + 1, w.heap.size + 1 + 1 + 1] w3).setCell (p := ⟨w.heap.size + 1 + 1, 0, none⟩) (.inl (by simp)) _).setCell (p := ⟨w.heap.size + 1 + 1 + 1, 0, none⟩) (.inl (by simp)) _) (by simp; omega))
    ·exact (Z6.out.set 0 _).other (a := ⟨w.heap.size + 1 + 1 + 1, 0, none⟩) (by simp) _
    ·exact (Z7.out.other (a := ⟨w.heap.size + 1 + 1, 0, none⟩) (by simp) _).set 0 _
    ·exact ((MW3.out.mono (by simp)).setCell (p := ⟨w.heap.size + 1 + 1, 0, none⟩) (.inl (by simp)) _).setCell (p := ⟨w.heap.size + 1 + 1 + 1, 0, none⟩) (.inl (by simp)) _
  | false =>
    gi_wp2
    refine ⟨Over.of_mod N3.out (by simp), Under.of_mod N3.out hs2, ?_, MW3.out⟩
    intro y hy
    rcases List.mem_append.1 hy with hy | hy
    ·exact HID.out y hy
    ·simp at hy; subst hy; exact HB.out
 case done =>
  rintro D W hD ⟨hid, hM⟩ hK
  have Z6 := Lib.hid (hM.blk X6.out (by simp))
  have Z7 := Lib.hid (hM.blk X7.out (by simp))
  have z6 := Z6.out.cell (i := 0) rfl
  have z7 := Z7.out.cell (i := 0) rfl
  have f6 := Z6.out.free 0
  have f7 := Z7.out.free 0
  have HK := Lib.hid hK
  have HM := Lib.hid hM
  have HID := Lib.hid hid
  clear hK hM hid
  go_wp2_with fail
  have S6 : Blk ((W.setCell ⟨w.heap.size + 1 + 1, 0, none⟩ (.string ⟨#[]⟩)).setCell ⟨w.heap.size + 1 + 1 + 1, 0, none⟩ (.bool false)) (w.heap.size + 1 + 1) 9 [.string ⟨#[]⟩] := (Z6.out.set 0 _).other (a := ⟨w.heap.size + 1 + 1 + 1, 0, none⟩) (by simp) _
  have S7 : Blk ((W.setCell ⟨w.heap.size + 1 + 1, 0, none⟩ (.string ⟨#[]⟩)).setCell ⟨w.heap.size + 1 + 1 + 1, 0, none⟩ (.bool false)) (w.heap.size + 1 + 1 + 1) 4 [.bool false] := (Z7.out.other (a := ⟨w.heap.size + 1 + 1, 0, none⟩) (by simp) _).set 0 _
  have MS := ((((Mod.refl [w.heap.size + 1 + 1, w.heap.size + 1 + 1 + 1] W).setCell (p := ⟨w.heap.size + 1 + 1, 0, none⟩) (.inl (by simp)) (.string ⟨#[]⟩)).setCell (p := ⟨w.heap.size + 1 + 1 + 1, 0, none⟩) (.inl (by simp)) (.bool false)))
  have KS := MS.heap HK.out (by simp; omega)
  generalize (W.setCell ⟨w.heap.size + 1 + 1, 0, none⟩ (.string ⟨#[]⟩)).setCell ⟨w.heap.size + 1 + 1 + 1, 0, none⟩ (.bool false) = W3 at *
  have E6 := putObj_blk (o' := .deferred none) S6 KS rfl
  have E7 := putObj_blk (o' := .deferred none) S7 KS rfl
  have ME := putObj_mod ((M1.out.trans HM.out).trans' MS (fun b hb => .inr (by simp at hb; omega))) (D := D) (by omega) (.deferred none)
  have r6 := E6.cell (i := 0) rfl
  have r7 := E7.cell (i := 0) rfl
  have hfi : firstIdle p now xs = (.string ⟨#[]⟩, false) := by
   unfold firstIdle
   rw [List.find?_eq_none.2 (fun x hx => by rw [HID.out x hx]; simp)]
  refine leave1 KS (v := .tuple #[.string ⟨#[]⟩, .bool false]) (by simp [results, Try.results53, go_sem, r6, r7]) ⟨by rw [hfi], ME⟩
 case stop =>
  rintro D c pre x post W hD hx ⟨rfl, ⟨pre', x', h1, h2, h3, h4, h5⟩, hM⟩ hK
  have E6 := putObj_blk (o' := .deferred none) h4 hK rfl
  have E7 := putObj_blk (o' := .deferred none) h5 hK rfl
  have ME := putObj_mod (M1.out.trans' hM (fun b hb => .inr (by simp at hb; omega))) (D := D) (by omega) (.deferred none)
  have r6 := E6.cell (i := 0) rfl
  have r7 := E7.cell (i := 0) rfl
  obtain ⟨e1, e2⟩ := List.append_inj' h1 rfl
  injection e2 with e2 _
  subst e1 e2
  have hfi : firstIdle p now xs = (.string ⟨x.1.toArray⟩, true) := by
   unfold firstIdle
   rw [hx, find_stop h2 h3]
  have HK := Lib.hid hK
  have H1 := Lib.hid hfi
  have H2 := Lib.hid ME
  have H6 := Lib.hid r6
  have H7 := Lib.hid r7
  clear hK hfi ME r6 r7 E6 E7 h4 h5 hx
  go_wp2_with fail
  have r6 := H6.out
  have r7 := H7.out
  refine leave1 HK.out (v := .tuple #[.string ⟨x.1.toArray⟩, .bool true]) (by simp [results, Try.results53, go_sem, r6, r7]) ⟨by rw [H1.out], H2.out⟩
theorem idle_any {w : World} {B : PB} {S : List (Option (List UInt8))} {fl : List Nat} {C : List Cell} (h : PoolAt w B S fl C) (p : Pace) (now : Int) (hp : p.ok) (hn : I64 (now - p.window)) :
  Calls Try.prog 53 #[.pointer (some ⟨B.p, 0, none⟩), p.val, .int .i64 now] w (IdlePost p now (pairs S C) w) :=
 idle_core (fun W hM => all_iter (h.mod hM (by simp)) (fun A A' hA hK b hb => hK.block b ((h.mod hM (by simp)).lt b hb) (by simp))) (fun x hx => pairs_ok h.ok hx) p now hp hn
end Go.Proofs.Ytndekdafiaogmaa.Pool
end
section
namespace Go.Proofs.Ytndekdafiaogmaa.Pool
open Go Go.RowKit Go.YtndekdafiaogmaaMem Go.YtndekdafiaogmaaLex Go.YtndekdafiaogmaaRange Go.Proofs.Ytndekdafiaogmaa.Hash Go.Proofs.Ytndekdafiaogmaa.Keys Go.Proofs.Ytndekdafiaogmaa.Index Go.Proofs.Ytndekdafiaogmaa.Cell Go.Proofs.Ytndekdafiaogmaa.Arith
structure PS where
 S : List (Option (List UInt8))
 fl : List Nat
 C : List Cell
abbrev At (w : World) (B : PB) (s : PS) : Prop := PoolAt w B s.S s.fl s.C
def putP (s : PS) (key : List UInt8) (c : Cell) : Option Nat × PS :=
 match placeOf s.S key, s.fl with
 | none, j :: fl' => if key.length ≤ 64 then (some j, ⟨s.S.set j (some key), fl', s.C.set j c⟩) else (none, s)
 | _, _ => (none, s)
def remP (s : PS) (key : List UInt8) : Cell × Bool × PS :=
 match placeOf s.S key with
 | some i => (s.C.getD i .zero, true, ⟨s.S.set i none, i :: s.fl, s.C⟩)
 | none => (.zero, false, s)
def PutPost (B : PB) (r : Option Nat × PS) (w : World) (e : Ending) (w' : World) : Prop := e = .returned (cellAt B r.1) ∧ At w' B r.2 ∧ Mod B.all w w'
theorem put_at {w : World} {B : PB} {s : PS} (h : At w B s) (key : List UInt8) (hl : key.length ≤ 1000000) (c : Cell) (hc : c.ok) :
  Calls Try.prog 73 #[.pointer (some ⟨B.p, 0, none⟩), .string ⟨key.toArray⟩, c.val] w (PutPost B (putP s key c) w) := by
 obtain ⟨S, fl, C⟩ := s
 cases hp : placeOf S key with
 | some p =>
   have e : putP ⟨S, fl, C⟩ key c = (none, ⟨S, fl, C⟩) := by unfold putP; simp only [hp]
   rw [e]
   exact put_no h key hl (putS_there hp) c
 | none =>
   cases fl with
   | nil =>
     have e : putP ⟨S, [], C⟩ key c = (none, ⟨S, [], C⟩) := by unfold putP; simp only [hp]
     rw [e]
     exact put_no h key hl (putS_no hp (.inl rfl)) c
   | cons j fl' =>
     by_cases h64 : key.length ≤ 64
     ·have e : putP ⟨S, j :: fl', C⟩ key c = (some j, ⟨S.set j (some key), fl', C.set j c⟩) := by unfold putP; simp only [hp]; rw [if_pos h64]
      rw [e]
      exact put_yes h key h64 hp c hc
     ·have e : putP ⟨S, j :: fl', C⟩ key c = (none, ⟨S, j :: fl', C⟩) := by unfold putP; simp only [hp]; rw [if_neg h64]
      rw [e]
      exact put_no h key hl (putS_no hp (.inr (by omega))) c
def RemovePost (B : PB) (r : Cell × Bool × PS) (w : World) (e : Ending) (w' : World) : Prop := e = .returned (.tuple #[r.1.val, .bool r.2.1]) ∧ At w' B r.2.2 ∧ Mod B.all w w'
theorem rem_at {w : World} {B : PB} {s : PS} (h : At w B s) (key : List UInt8) (hl : key.length ≤ 1000000) :
  Calls Try.prog 71 #[.pointer (some ⟨B.p, 0, none⟩), .string ⟨key.toArray⟩] w (RemovePost B (remP s key) w) := by
 obtain ⟨S, fl, C⟩ := s
 cases hp : placeOf S key with
 | some i =>
   have hi : i < S.length := (List.getElem?_eq_some_iff.1 (placeOf_get hp)).1
   have hlen := h.len
   simp only at hlen
   have hc : C[i]? = some (C.getD i .zero) := by rw [List.getD_eq_getElem?_getD, List.getElem?_eq_getElem (show i < C.length by omega)]; rfl
   have e : remP ⟨S, fl, C⟩ key = (C.getD i .zero, true, ⟨S.set i none, i :: fl, C⟩) := by unfold remP; simp only [hp]
   rw [e]
   exact rem_yes h key hl i hp _ hc
 | none =>
   have e : remP ⟨S, fl, C⟩ key = (.zero, false, ⟨S, fl, C⟩) := by unfold remP; simp only [hp]
   rw [e]
   exact rem_no h key hl hp
/-! A nil pool. -/
end Go.Proofs.Ytndekdafiaogmaa.Pool
end
