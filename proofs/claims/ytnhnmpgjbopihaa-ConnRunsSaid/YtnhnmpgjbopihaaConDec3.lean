/- decode: New, Len, Err. -/
import Derived.Test.YtnhnmpgjbopihaaConDec2
import Derived.Deep.WholeRow
import Derived.Laws.ResultCell
import Derived.Laws.Rows
namespace Go.Proofs.Ytnhnmpgjbopihaa.Frame
open Go Go.RowKit Go.YtnhnmpgjbopihaaMem Go.YtnhnmpgjbopihaaLex
set_option linter.unusedVariables false
set_option linter.unusedSimpArgs false
variable {T : TypeId} {rest : List Value}

/-- A new decoder's cells. -/
def newCells (rules : Int) : Array Value := (vb (List.replicate 75 0) ++ [Value.int .i64 0, Value.int .i64 rules, Value.int .i64 0]).toArray
theorem new_zero : (∀ w, (zeroValue 39).run Try.prog w = .ok (.agg (newCells 0)) w) ∧ (Try.prog.info? 39).map (·.size) = some 78 := zero_of_info (by kernel_rfl)
theorem new_size (r : Int) : (newCells r).size = 78 := rfl
theorem new_build (rules : Int) (w : World) : (Instr.build 39 #[(2, .int .i64 rules)]).run Try.prog w = .ok (.agg (newCells rules)) w := run_build w _ _ _ (by kernel_rfl)
theorem new_store (a b : Int) (w : World) : (Instr.storeAt 39 (.pointer (some ⟨w.heap.size, 0, none⟩)) (.agg (newCells b))).run Try.prog (w.alloc (.cells (newCells a) 39)) = .ok () (w.alloc (.cells (newCells b) 39)) :=
  run_storeAt_new w _ _ _ new_zero.2 rfl (by kernel_rfl)
theorem new_cells (a b : Int) (w : World) : (storeCells ⟨w.heap.size, 0, none⟩ (newCells b).toList 0).run Try.prog (w.alloc (.cells (newCells a) 39)) = .ok () (w.alloc (.cells (newCells b) 39)) :=
  run_storeCells_new w _ _ _ new_zero.2 rfl (by kernel_rfl)
theorem new_load (b : Int) (w : World) : (loadCellsFrom ⟨w.heap.size, 0, none⟩ 0 78 #[]).run Try.prog (w.alloc (.cells (newCells b) 39)) = .ok (newCells b) (w.alloc (.cells (newCells b) 39)) :=
  run_loadCellsFrom_new w _ _ _ rfl
theorem err_any {w : World} {g : Nat} {pend : List UInt8} {rules : Int} {err : Nat} (h : Dec T rest w g pend rules err) :
    Calls Try.prog 16 #[.pointer (some ⟨g, 0, none⟩)] w fun e w' => e = .returned (.int .i64 err) ∧ w = w' := by
  obtain ⟨bytes, h, ht, hp⟩ := h
  obtain ⟨c1, c2, c3⟩ := h.cells
  clear h ht
  go_enter Try.func16, Try.ntmps16
  go_wp2_with fail
  go_ret
  exact ⟨rfl, rfl⟩
set_option maxRecDepth 8000 in
theorem new_any (w : World) (rules : Int) :
    Calls Try.prog 25 #[.int .i64 rules] w fun e w' => e = .returned (.agg (newCells rules)) ∧ Mod [] w w' := by
  have hz := new_zero.1
  have hb := new_build rules
  have hs := new_cells 0 rules
  have he : (newCells 0).setIfInBounds 76 (.int .i64 rules) = newCells rules := rfl
  go_enter Try.func25, Try.ntmps25
  go_wp2_with fail
  refine bodyPost_ret (v := .agg (newCells rules)) (results_cell_row (p := 2) (ty := 39) rfl _ _ w.heap.size 39 (newCells rules) (0, 0) _ rfl (heap_alloc_last _ _) Try.underlying39 rfl new_zero.2) rfl ⟨rfl, (Mod.refl [] w).alloc _⟩

end Go.Proofs.Ytnhnmpgjbopihaa.Frame
