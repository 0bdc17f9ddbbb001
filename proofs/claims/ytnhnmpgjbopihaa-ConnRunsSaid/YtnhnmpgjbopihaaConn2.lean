/- conn: New, Open. -/
import Derived.Test.YtnhnmpgjbopihaaConn
namespace Go.Proofs.Ytnhnmpgjbopihaa.Conn
open Go Go.RowKit Go.YtnhnmpgjbopihaaMem Go.YtnhnmpgjbopihaaLex Go.Proofs.Ytnhnmpgjbopihaa.Frame Go.Proofs.Ytnhnmpgjbopihaa.Out
set_option linter.unusedVariables false
set_option linter.unusedSimpArgs false

def conCells (p : Nat) (rules : Int) : Array Value := (vb (List.replicate 75 0) ++ ([Value.int .i64 0, Value.int .i64 0, Value.int .i64 0] ++ tail p rules false)).toArray
def conZero : Array Value := (vb (List.replicate 75 0) ++ [Value.int .i64 0, Value.int .i64 0, Value.int .i64 0, .pointer none, .int .i64 0, .bool false]).toArray
theorem con_zero : (∀ w, (zeroValue 42).run Try.prog w = .ok (.agg conZero) w) ∧ (Try.prog.info? 42).map (·.size) = some 81 := zero_of_info (by kernel_rfl)
theorem con_size : conZero.size = 81 := rfl
theorem mod_setRow {S : List Nat} {a w : World} (h : Mod S a w) {g : Nat} (hg : g ∈ S ∨ a.heap.size ≤ g) (cs : Array Value) : Mod S a (w.setRow g cs) :=
  h.trans' (S' := [g]) ⟨rfl, rfl, rfl, by simp, fun k _ hn => setRow_other w g k cs (by simpa using hn)⟩ (by simpa using hg)

def freshCells (rules : Int) (t : List Value) : List Value := vb (List.replicate 75 0) ++ ([Value.int .i64 0, .int .i64 rules, .int .i64 0] ++ t)
theorem con_store {w : World} {g : Nat} {bytes : List UInt8} {a b c rules : Int} {t : List Value} (hblk : Blk w g 42 (vb bytes ++ ([.int .i64 a, .int .i64 b, .int .i64 c] ++ t))) (hl : bytes.length = 75) :
    (storeCells ⟨g, 0, none⟩ (newCells rules).toList 0).run Try.prog w = .ok () (w.setRow g (freshCells rules t).toArray) ∧ Blk (w.setRow g (freshCells rules t).toArray) g 42 (freshCells rules t) := by
  have hvl : (vb bytes).length = 75 := by rw [vb_length]; exact hl
  have hd : (vb bytes ++ ([Value.int .i64 a, .int .i64 b, .int .i64 c] ++ t)).drop (0 + 0 + (newCells rules).toList.length) = t := by
    rw [show 0 + 0 + (newCells rules).toList.length = 75 + 3 from rfl, ← List.drop_drop, List.drop_left' hvl]; rfl
  have h := run_storeCells_at (P := Try.prog) g 0 42 (newCells rules).toList 0 _ w hblk (by rw [show (newCells rules).toList.length = 78 from rfl]; simp; omega) (by intro v hv; simp [newCells, vb] at hv; rcases hv with ⟨_, rfl⟩ | rfl | rfl | rfl <;> rfl)
  rw [show ((vb bytes ++ ([Value.int .i64 a, .int .i64 b, .int .i64 c] ++ t)).toArray.toList) = vb bytes ++ ([Value.int .i64 a, .int .i64 b, .int .i64 c] ++ t) from rfl, hd] at h
  have e : (List.take (0 + 0) (vb bytes ++ ([Value.int .i64 a, .int .i64 b, .int .i64 c] ++ t)) ++ (newCells rules).toList ++ t) = freshCells rules t := by
    rw [List.take_zero]
    simp [newCells, freshCells]
  rw [e] at h
  exact ⟨h, setRow_heap w g _ _ _ _ hblk⟩
def NewCon (rules size : Int) (w : World) (e : Ending) (w' : World) : Prop :=
  ∃ g p d, e = .returned (.pointer (some ⟨g, 0, none⟩)) ∧ Con w' g p d size.toNat rules 0 [] 0 [] false ∧ w.heap.size ≤ g ∧ w.heap.size ≤ p ∧ w.heap.size ≤ d ∧ Mod [] w w'
set_option maxRecDepth 8000 in
theorem new_con (w : World) (rules size : Int) (h0 : 1 ≤ size) (h1 : size ≤ 65536) :
    Calls Try.prog 12 #[.int .i64 rules, .int .i64 size] w (NewCon rules size w) := by
  go_enter Try.func12, Try.ntmps12
  go_wp2_with fail
  refine (new_some size w h0 h1).mono ?_
  rintro e w1 ⟨p, d, rfl, hB, hp, hd, hM⟩
  have HB := Lib.hid hB
  have HM := Lib.hid hM
  have hz := con_zero.1
  have hsz := con_size
  have he : (conZero.setIfInBounds 78 (.pointer (some ⟨p, 0, none⟩))).setIfInBounds 79 (.int .i64 rules) = conCells p rules := rfl
  clear hB hM
  go_wp2_with fail
  go_ret
  have hl := HM.out.size
  obtain ⟨hp1, hd1⟩ := HB.out.lt
  refine ⟨w1.heap.size, p, d, rfl, ⟨?_, HB.out.mod ((Mod.refl [] w1).alloc _) (by simp) (by simp), by omega, by omega⟩, hl, hp, hd, HM.out.alloc _⟩
  exact ⟨List.replicate 75 0, ⟨Blk.new w1 _ _, by simp⟩, rfl, by decide⟩
theorem new_con_none (w : World) (rules size : Int) (h : size < 1 ∨ 65536 < size) :
    Calls Try.prog 12 #[.int .i64 rules, .int .i64 size] w fun e w' => e = .returned (.pointer none) ∧ w = w' := by
  go_enter Try.func12, Try.ntmps12
  go_wp2_with fail
  refine (new_none size w h).mono ?_
  rintro e w1 ⟨rfl, rfl⟩
  go_wp2_with fail
  go_ret
  exact ⟨rfl, rfl⟩

set_option maxRecDepth 8000 in
theorem open_yes {w g p d N rules dr pend err q} (h : Con w g p d N rules dr pend err q false) :
    Calls Try.prog 13 #[.pointer (some ⟨g, 0, none⟩)] w fun e w' => e = .returned (.bool true) ∧ Con w' g p d N rules rules [] 0 [] true ∧ Mod [g, p, d] w w' := by
  obtain ⟨c1, c2, c3⟩ := h.cells
  have hg := h.lt.1
  have H := Lib.hid h
  clear h
  go_enter Try.func13, Try.ntmps13
  go_wp2_with fail
  refine (new_any w rules).mono ?_
  rintro e w1 ⟨rfl, hM⟩
  have H1 := H.out.mod hM (by simp) (by simp) (by simp)
  obtain ⟨bytes, hr, -, -⟩ := H1.dec
  obtain ⟨hst, hb2⟩ := con_store (rules := rules) hr.blk hr.len
  have k80 : (w1.setRow g (freshCells rules (tail p rules false)).toArray).cell? ⟨g, 80, none⟩ = some (.bool false) := hb2.cell rfl
  have f80 := hb2.free 80
  have hc : Con ((w1.setRow g (freshCells rules (tail p rules false)).toArray).setCell ⟨g, 80, none⟩ (.bool true)) g p d N rules rules [] 0 q true := by
    refine Con.setOpen (opn := false) ⟨⟨List.replicate 75 0, ⟨hb2, by simp⟩, rfl, by decide⟩, ?_, H.out.gp, H.out.gd⟩ true
    exact H1.buf.mod (mod_setRow (Mod.refl [g] w1) (by simp) _) (by simpa using H.out.gp.symm) (by simpa using H.out.gd.symm)
  obtain ⟨d1, d2, d3⟩ := hc.cells
  have HC := Lib.hid hc
  have MM := Lib.hid (((hM.mono (S' := [g, p, d]) (by simp)).trans ((mod_setRow (g := g) (Mod.refl [g] w1) (by simp) (freshCells rules (tail p rules false)).toArray).mono (by simp))).setCell (p := ⟨g, 80, none⟩) (by simp) (.bool true))
  have hg1 : g < w1.heap.size := hr.blk.lt
  clear H1 hr hb2 hc hM c1 c2 c3
  generalize hX : (freshCells rules (tail p rules false)).toArray = X at *
  go_wp2_with fail
  refine (clear_any HC.out.buf).mono ?_
  rintro e w2 ⟨rfl, hB, hM⟩
  have HB := Lib.hid hB
  have HM := Lib.hid hM
  clear hB hM
  go_wp2_with fail
  go_ret
  exact ⟨rfl, ⟨HC.out.dec.mod HM.out (by simp [H.out.gp, H.out.gd]), HB.out, H.out.gp, H.out.gd⟩, MM.out.trans (HM.out.mono (by simp))⟩
theorem open_no {w g p d N rules dr pend err q} (h : Con w g p d N rules dr pend err q true) :
    Calls Try.prog 13 #[.pointer (some ⟨g, 0, none⟩)] w fun e w' => e = .returned (.bool false) ∧ w = w' := by
  obtain ⟨c1, c2, c3⟩ := h.cells
  clear h
  go_enter Try.func13, Try.ntmps13
  go_wp2_with fail
  go_ret
  exact ⟨rfl, rfl⟩
theorem open_nil (w : World) : Calls Try.prog 13 #[.pointer none] w fun e w' => e = .returned (.bool false) ∧ w = w' := by
  go_enter Try.func13, Try.ntmps13
  go_wp2_with fail
  go_ret
  exact ⟨rfl, rfl⟩
end Go.Proofs.Ytnhnmpgjbopihaa.Conn
