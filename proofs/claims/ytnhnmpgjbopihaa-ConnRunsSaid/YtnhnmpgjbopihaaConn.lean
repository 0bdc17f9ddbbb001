/- conn: what each of its functions, but Accept, does to a connection. -/
import Derived.Test.YtnhnmpgjbopihaaConDec3
import Derived.Test.YtnhnmpgjbopihaaConFr
import Derived.Test.YtnhnmpgjbopihaaOut
import Derived.Laws.CopyRow
namespace Go.Proofs.Ytnhnmpgjbopihaa.Conn
open Go Go.RowKit Go.YtnhnmpgjbopihaaMem Go.YtnhnmpgjbopihaaLex Go.Proofs.Ytnhnmpgjbopihaa.Frame Go.Proofs.Ytnhnmpgjbopihaa.Out
set_option linter.unusedVariables false
set_option linter.unusedSimpArgs false

def tail (p : Nat) (rules : Int) (opn : Bool) : List Value := [.pointer (some ⟨p, 0, none⟩), .int .i64 rules, .bool opn]
/-- A connection: its block g; the place for what goes out at p and d, N bytes; what came of a frame, the fault, what waits, whether it is open. -/
structure Con (w : World) (g p d N : Nat) (rules dr : Int) (pend : List UInt8) (err : Nat) (q : List UInt8) (opn : Bool) : Prop where
  dec : Dec 42 (tail p rules opn) w g pend dr err
  buf : Buf w p d N q
  gp : g ≠ p
  gd : g ≠ d
theorem Dec.lt {T : TypeId} {rest : List Value} {w : World} {g : Nat} {pend : List UInt8} {rules : Int} {err : Nat} (h : Dec T rest w g pend rules err) : g < w.heap.size := by
  obtain ⟨bytes, h, _⟩ := h; exact h.blk.lt
theorem Con.lt {w g p d N rules dr pend err q opn} (h : Con w g p d N rules dr pend err q opn) : g < w.heap.size ∧ p < w.heap.size ∧ d < w.heap.size := ⟨Dec.lt h.dec, h.buf.lt.1, h.buf.lt.2⟩
theorem Con.mod {S w w' g p d N rules dr pend err q opn} (h : Con w g p d N rules dr pend err q opn) (hm : Mod S w w') (h1 : g ∉ S) (h2 : p ∉ S) (h3 : d ∉ S) : Con w' g p d N rules dr pend err q opn :=
  ⟨h.dec.mod hm h1, h.buf.mod hm h2 h3, h.gp, h.gd⟩
theorem Con.cells {w g p d N rules dr pend err q opn} (h : Con w g p d N rules dr pend err q opn) :
    w.cell? ⟨g, 78, none⟩ = some (.pointer (some ⟨p, 0, none⟩)) ∧ w.cell? ⟨g, 79, none⟩ = some (.int .i64 rules) ∧ w.cell? ⟨g, 80, none⟩ = some (.bool opn) := by
  obtain ⟨bytes, hr, _, _⟩ := h.dec
  have hl : (vb bytes).length = 75 := by rw [vb_length]; exact hr.len
  refine ⟨hr.blk.cell ?_, hr.blk.cell ?_, hr.blk.cell ?_⟩
  · rw [List.getElem?_append_right (by omega), hl]; rfl
  · rw [List.getElem?_append_right (by omega), hl]; rfl
  · rw [List.getElem?_append_right (by omega), hl]; rfl
theorem Con.free {w g p d N rules dr pend err q opn} (h : Con w g p d N rules dr pend err q opn) (i : Nat) : w.frozen? ⟨g, i, none⟩ = false := by
  obtain ⟨bytes, hr, _, _⟩ := h.dec
  exact hr.blk.free i
theorem Con.setOpen {w g p d N rules dr pend err q opn} (h : Con w g p d N rules dr pend err q opn) (b : Bool) : Con (w.setCell ⟨g, 80, none⟩ (.bool b)) g p d N rules dr pend err q b := by
  refine ⟨?_, h.buf.mod ((Mod.refl [g] w).setCell (p := ⟨g, 80, none⟩) (by simp) _) (by simpa using h.gp.symm) (by simpa using h.gd.symm), h.gp, h.gd⟩
  obtain ⟨bytes, hr, h1, h2⟩ := h.dec
  refine ⟨bytes, ⟨?_, hr.len⟩, h1, h2⟩
  have := hr.blk.set 80 (.bool b)
  have hl : (vb bytes).length = 75 := by rw [vb_length]; exact hr.len
  rw [List.set_append_right _ _ (by omega), hl] at this; exact this

/-! ### IsOpen, Waits, Room, Err -/
theorem isOpen_any {w g p d N rules dr pend err q opn} (h : Con w g p d N rules dr pend err q opn) :
    Calls Try.prog 21 #[.pointer (some ⟨g, 0, none⟩)] w fun e w' => e = .returned (.bool opn) ∧ w = w' := by
  obtain ⟨c1, c2, c3⟩ := h.cells
  clear h
  go_enter Try.func21, Try.ntmps21
  go_wp2
  go_ret
  exact ⟨rfl, rfl⟩
theorem isOpen_nil (w : World) : Calls Try.prog 21 #[.pointer none] w fun e w' => e = .returned (.bool false) ∧ w = w' := by
  go_enter Try.func21, Try.ntmps21
  go_wp2
  go_ret
  exact ⟨rfl, rfl⟩
theorem waits_any {w g p d N rules dr pend err q opn} (h : Con w g p d N rules dr pend err q opn) :
    Calls Try.prog 18 #[.pointer (some ⟨g, 0, none⟩)] w fun e w' => e = .returned (.int .i64 q.length) ∧ w = w' := by
  obtain ⟨c1, c2, c3⟩ := h.cells
  have HB := Lib.hid h.buf
  clear h
  go_enter Try.func18, Try.ntmps18
  go_wp2_with (go_at_call 33; refine (len_any HB.out).mono ?_; rintro e w' ⟨rfl, rfl⟩)
  go_ret
  exact ⟨rfl, rfl⟩
theorem waits_nil (w : World) : Calls Try.prog 18 #[.pointer none] w fun e w' => e = .returned (.int .i64 0) ∧ w = w' := by
  go_enter Try.func18, Try.ntmps18
  go_wp2
  go_ret
  exact ⟨rfl, rfl⟩
theorem room_con {w g p d N rules dr pend err q opn} (h : Con w g p d N rules dr pend err q opn) :
    Calls Try.prog 22 #[.pointer (some ⟨g, 0, none⟩)] w fun e w' => e = .returned (.int .i64 ((N : Int) - q.length)) ∧ w.drew = w' := by
  obtain ⟨c1, c2, c3⟩ := h.cells
  have HB := Lib.hid h.buf
  clear h
  go_enter Try.func22, Try.ntmps22
  go_wp2_with fail
  refine (room_any HB.out).mono ?_
  rintro e w' ⟨rfl, rfl⟩
  go_wp2_with fail
  go_ret
  exact ⟨rfl, rfl⟩
theorem room_con_nil (w : World) : Calls Try.prog 22 #[.pointer none] w fun e w' => e = .returned (.int .i64 0) ∧ w = w' := by
  go_enter Try.func22, Try.ntmps22
  go_wp2
  go_ret
  exact ⟨rfl, rfl⟩

/-! ### Shut, Drain -/
theorem shut_yes {w g p d N rules dr pend err q} (h : Con w g p d N rules dr pend err q true) :
    Calls Try.prog 20 #[.pointer (some ⟨g, 0, none⟩)] w fun e w' => e = .returned (.bool true) ∧ Con w' g p d N rules dr pend err [] false ∧ Mod [g, p, d] w w' := by
  obtain ⟨c1, c2, c3⟩ := h.cells
  have f80 := h.free 80
  have hs := h.setOpen false
  obtain ⟨d1, d2, d3⟩ := hs.cells
  have H := Lib.hid h
  have HS := Lib.hid hs
  clear h hs
  go_enter Try.func20, Try.ntmps20
  go_wp2_with fail
  refine (isOpen_any H.out).mono ?_
  rintro e w' ⟨rfl, rfl⟩
  go_wp2_with fail
  refine (clear_any HS.out.buf).mono ?_
  rintro e w1 ⟨rfl, hB, hM⟩
  have HB := Lib.hid hB
  have HM := Lib.hid hM
  clear hB hM
  go_wp2_with fail
  go_ret
  have hm : Mod [g, p, d] w w1 := ((Mod.refl [g, p, d] w).setCell (p := ⟨g, 80, none⟩) (by simp) (.bool false)).trans (HM.out.mono (by simp))
  exact ⟨rfl, ⟨HS.out.dec.mod HM.out (by simp [H.out.gp, H.out.gd]), HB.out, H.out.gp, H.out.gd⟩, hm⟩
theorem shut_no {w g p d N rules dr pend err q} (h : Con w g p d N rules dr pend err q false) :
    Calls Try.prog 20 #[.pointer (some ⟨g, 0, none⟩)] w fun e w' => e = .returned (.bool false) ∧ w = w' := by
  have H := Lib.hid h
  clear h
  go_enter Try.func20, Try.ntmps20
  go_wp2_with fail
  refine (isOpen_any H.out).mono ?_
  rintro e w' ⟨rfl, rfl⟩
  go_wp2_with fail
  go_ret
  exact ⟨rfl, rfl⟩
theorem shut_nil (w : World) : Calls Try.prog 20 #[.pointer none] w fun e w' => e = .returned (.bool false) ∧ w = w' := by
  go_enter Try.func20, Try.ntmps20
  go_wp2_with fail
  refine (isOpen_nil w).mono ?_
  rintro e w' ⟨rfl, rfl⟩
  go_wp2_with fail
  go_ret
  exact ⟨rfl, rfl⟩
def DrainPost (w : World) (g p d N : Nat) (rules dr : Int) (pend : List UInt8) (err : Nat) (q : List UInt8) (m : Nat) (e : Ending) (w' : World) : Prop :=
  ∃ v, e = .returned v ∧ OwnB w' w.heap.size v (q.take m) ∧ Con w' g p d N rules dr pend err (q.drop m) true ∧ Mod [p, d] w w'
theorem drain_yes {w g p d N rules dr pend err q} (h : Con w g p d N rules dr pend err q true) (n : Int) (m : Nat) (hm : (m : Int) = min (max n 0) q.length) :
    Calls Try.prog 15 #[.pointer (some ⟨g, 0, none⟩), .int .i64 n] w (DrainPost w g p d N rules dr pend err q m) := by
  obtain ⟨c1, c2, c3⟩ := h.cells
  have H := Lib.hid h
  have HM := Lib.hid hm
  clear h hm
  go_enter Try.func15, Try.ntmps15
  go_wp2_with fail
  refine (isOpen_any H.out).mono ?_
  rintro e w' ⟨rfl, rfl⟩
  go_wp2_with fail
  refine (take_any H.out.buf n m HM.out).mono ?_
  rintro e w1 ⟨v1, rfl, hO, hB, hM1⟩
  have HO := Lib.hid hO
  have HB := Lib.hid hB
  have HM1 := Lib.hid hM1
  clear hO hB hM1
  go_wp2_with fail
  go_ret
  have hl : (q.take m).length = m := by rw [List.length_take]; have := HM.out; omega
  refine ⟨v1, rfl, ?_, ⟨H.out.dec.mod HM1.out (by simp [H.out.gp, H.out.gd]), HB.out, H.out.gp, H.out.gd⟩, HM1.out⟩
  unfold OwnB; rw [hl]; exact HO.out
theorem drain_no {w g p d N rules dr pend err q} (h : Con w g p d N rules dr pend err q false) (n : Int) :
    Calls Try.prog 15 #[.pointer (some ⟨g, 0, none⟩), .int .i64 n] w fun e w' => e = .returned (.slice none 0 0) ∧ w = w' := by
  have H := Lib.hid h
  clear h
  go_enter Try.func15, Try.ntmps15
  go_wp2_with fail
  refine (isOpen_any H.out).mono ?_
  rintro e w' ⟨rfl, rfl⟩
  go_wp2_with fail
  go_ret
  exact ⟨rfl, rfl⟩
theorem drain_nil (w : World) (n : Int) : Calls Try.prog 15 #[.pointer none, .int .i64 n] w fun e w' => e = .returned (.slice none 0 0) ∧ w = w' := by
  go_enter Try.func15, Try.ntmps15
  go_wp2_with fail
  refine (isOpen_nil w).mono ?_
  rintro e w' ⟨rfl, rfl⟩
  go_wp2_with fail
  go_ret
  exact ⟨rfl, rfl⟩
end Go.Proofs.Ytnhnmpgjbopihaa.Conn
