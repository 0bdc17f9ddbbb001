/- decode: New, Len, Err. -/
import Derived.Test.YtfmojpkggkjceaaDec2
import Derived.Deep.WholeRow
import Derived.Laws.ResultCell
import Derived.Laws.Rows
namespace Go.Proofs.Ytfmojpkggkjceaa.Frame
open Go Go.RowKit Go.YtfmojpkggkjceaaMem Go.YtfmojpkggkjceaaLex
set_option linter.unusedVariables false
set_option linter.unusedSimpArgs false

/-- A new decoder's cells. -/
def newCells (rules : Int) : Array Value := (vb (List.replicate 75 0) ++ [Value.int .i64 0, Value.int .i64 rules, Value.int .i64 0]).toArray
theorem new_zero : (∀ w, (zeroValue 27).run Try.prog w = .ok (.agg (newCells 0)) w) ∧ (Try.prog.info? 27).map (·.size) = some 78 := zero_of_info (by kernel_rfl)
theorem new_size (r : Int) : (newCells r).size = 78 := rfl
theorem new_build (rules : Int) (w : World) : (Instr.build 27 #[(2, .int .i64 rules)]).run Try.prog w = .ok (.agg (newCells rules)) w := run_build w _ _ _ (by kernel_rfl)
theorem new_store (a b : Int) (w : World) : (Instr.storeAt 27 (.pointer (some ⟨w.heap.size, 0, none⟩)) (.agg (newCells b))).run Try.prog (w.alloc (.cells (newCells a) 27)) = .ok () (w.alloc (.cells (newCells b) 27)) :=
  run_storeAt_new w _ _ _ new_zero.2 rfl (by kernel_rfl)
theorem new_cells (a b : Int) (w : World) : (storeCells ⟨w.heap.size, 0, none⟩ (newCells b).toList 0).run Try.prog (w.alloc (.cells (newCells a) 27)) = .ok () (w.alloc (.cells (newCells b) 27)) :=
  run_storeCells_new w _ _ _ new_zero.2 rfl (by kernel_rfl)
theorem new_load (b : Int) (w : World) : (loadCellsFrom ⟨w.heap.size, 0, none⟩ 0 78 #[]).run Try.prog (w.alloc (.cells (newCells b) 27)) = .ok (newCells b) (w.alloc (.cells (newCells b) 27)) :=
  run_loadCellsFrom_new w _ _ _ rfl
theorem new_dec (w : World) (rules : Int) : Dec (w.alloc (.cells (newCells rules) 27)) w.heap.size [] rules 0 := ⟨List.replicate 75 0, ⟨Blk.new w _ _, by simp⟩, rfl, by decide⟩

theorem len_any {w : World} {g : Nat} {pend : List UInt8} {rules : Int} {err : Nat} (h : Dec w g pend rules err) :
    Calls Try.prog 11 #[.pointer (some ⟨g, 0, none⟩)] w fun e w' => e = .returned (.int .i64 pend.length) ∧ w = w' := by
  obtain ⟨bytes, h, ht, hp⟩ := h
  obtain ⟨c1, c2, c3⟩ := h.cells
  clear h ht
  go_enter Try.func11, Try.ntmps11
  go_wp2_with fail
  go_ret
  exact ⟨rfl, rfl⟩
theorem err_any {w : World} {g : Nat} {pend : List UInt8} {rules : Int} {err : Nat} (h : Dec w g pend rules err) :
    Calls Try.prog 13 #[.pointer (some ⟨g, 0, none⟩)] w fun e w' => e = .returned (.int .i64 err) ∧ w = w' := by
  obtain ⟨bytes, h, ht, hp⟩ := h
  obtain ⟨c1, c2, c3⟩ := h.cells
  clear h ht
  go_enter Try.func13, Try.ntmps13
  go_wp2_with fail
  go_ret
  exact ⟨rfl, rfl⟩
set_option maxRecDepth 8000 in
theorem new_any (w : World) (rules : Int) :
    Calls Try.prog 10 #[.int .i64 rules] w fun e w' => e = .returned (.agg (newCells rules)) ∧ Mod [] w w' := by
  have hz := new_zero.1
  have hb := new_build rules
  have hs := new_cells 0 rules
  have he : (newCells 0).setIfInBounds 76 (.int .i64 rules) = newCells rules := rfl
  go_enter Try.func10, Try.ntmps10
  go_wp2_with fail
  refine bodyPost_ret (v := .agg (newCells rules)) (results_cell_row (p := 2) (ty := 27) rfl _ _ w.heap.size 27 (newCells rules) (0, 0) _ rfl (heap_alloc_last _ _) Try.underlying27 rfl new_zero.2) rfl ⟨rfl, (Mod.refl [] w).alloc _⟩

set_option maxRecDepth 8000 in
theorem fit_any (w : World) : Calls Try.prog 9 #[] w fun e w' => e = .returned (.bool true) ∧ Mod [] w w' := by
  have hz := new_zero.1
  have hs := new_cells 0 1
  have F0 := fun w g (h : Dec w g [] 1 0) => feed_any h 0
  have F1 := fun w g (h : Dec w g [] 1 5) => feed_any h 167
  have t0 : tried [] 1 0 0 = (Req.none, false, 5) := rfl
  have t1 : tried [] 1 5 167 = (Req.none, false, 5) := rfl
  have f0 : fed [] 1 0 0 = ([], 5) := rfl
  have f1 : fed [] 1 5 167 = ([], 5) := rfl
  unfold FeedPost at F0 F1
  simp only [t0, t1, f0, f1, Req.none, Req.val] at F0 F1
  have HF0 := Lib.hid F0
  have HF1 := Lib.hid F1
  clear F0 F1 t0 t1 f0 f1
  go_enter Try.func9, Try.ntmps9
  go_wp2_with fail
  refine (new_any _ _).mono ?_
  rintro e1 w1 ⟨rfl, hM1⟩
  go_wp2_with fail
  refine (HF0.out _ _ (new_dec w1 1)).mono ?_
  rintro e2 w2 ⟨rfl, hM2, hD2⟩
  go_wp2_with fail
  refine (HF1.out _ _ (hD2.mod ((Mod.refl [] w2).alloc _) (by simp))).mono ?_
  rintro e3 w3 ⟨rfl, hM3, hD3⟩
  go_wp2_with fail
  refine (err_any (hD3.mod ((Mod.refl [] w3).alloc _) (by simp))).mono ?_
  rintro e4 w4 ⟨rfl, rfl⟩
  go_wp2_with fail
  go_ret
  refine ⟨rfl, ?_⟩
  have h := (((((hM1.alloc (.cells (newCells 1) 27)).mono (S' := [w1.heap.size]) (by simp)).trans hM2).alloc (.cells #[.int .i64 0, .int .i64 0, .int .u32 0, .string ⟨#[]⟩, .int .i64 0] 32)).trans hM3).alloc (.cells #[.int .i64 0, .int .i64 0, .int .u32 0, .string ⟨#[]⟩, .int .i64 0] 32)
  exact h.mono fun x hx => .inr (by have := hM1.size; simp at hx; omega)
end Go.Proofs.Ytfmojpkggkjceaa.Frame
