/- pool.Pool: what it holds; Len, Full, Find. -/
import Derived.Test.YtajadfoannmaiaaCell
import Derived.Test.YtajadfoannmaiaaIndex6
namespace Go.Proofs.Ytajadfoannmaiaa.Pool
open Go Go.RowKit Go.YtajadfoannmaiaaMem Go.YtajadfoannmaiaaLex Go.Proofs.Ytajadfoannmaiaa.Hash Go.Proofs.Ytajadfoannmaiaa.Keys Go.Proofs.Ytajadfoannmaiaa.Index Go.Proofs.Ytajadfoannmaiaa.Cell Go.Proofs.Ytajadfoannmaiaa.Arith
set_option linter.unusedVariables false
set_option linter.unusedSimpArgs false

def cellsV (C : List Cell) : List Value := C.flatMap Cell.cells
theorem cellsV_get : ∀ (C : List Cell) (i : Nat) (c : Cell), C[i]? = some c → ∀ j, j < 4 → (cellsV C)[i * 4 + j]? = c.cells[j]?
  | [], i, c, h, j, hj => by simp at h
  | x :: C, 0, c, h, j, hj => by
    simp at h; subst h
    unfold cellsV
    rw [List.flatMap_cons, Nat.zero_mul, Nat.zero_add, List.getElem?_append_left (by simp [Cell.cells]; omega)]
  | x :: C, i + 1, c, h, j, hj => by
    have ih := cellsV_get C i c (by simpa using h) j hj
    unfold cellsV at *
    rw [List.flatMap_cons, List.getElem?_append_right (by simp [Cell.cells]; omega)]
    rw [← ih]
    congr 1
    simp [Cell.cells]; omega
theorem cellsV_length (C : List Cell) : (cellsV C).length = C.length * 4 := by
  unfold cellsV
  induction C with
  | nil => rfl
  | cons x C ih => rw [List.flatMap_cons, List.length_append, ih]; simp [Cell.cells]; omega
theorem cellsV_set : ∀ (C : List Cell) (i : Nat) (c : Cell), i < C.length → cellsV (C.set i c) = ((((cellsV C).set (i * 4) (.int .i64 c.full)).set (i * 4 + 1) (.int .i64 c.since)).set (i * 4 + 2) (.int .i64 c.carry)).set (i * 4 + 3) (.int .i64 c.used)
  | [], i, c, h => by simp at h
  | x :: C, 0, c, h => by
    unfold cellsV
    rw [List.set_cons_zero, List.flatMap_cons, List.flatMap_cons]
    rfl
  | x :: C, i + 1, c, h => by
    have ih := cellsV_set C i c (by simpa using h)
    unfold cellsV at *
    rw [List.set_cons_succ, List.flatMap_cons, List.flatMap_cons, ih]
    have e : x.cells.length = 4 := rfl
    have hs : ∀ (A B : List Value) (k : Nat) (v : Value), A.length = 4 → (A ++ B).set (k + 4) v = A ++ B.set k v := fun A B k v ha => by
      rw [List.set_append, if_neg (by omega)]; congr 2; omega
    rw [show (i + 1) * 4 = i * 4 + 4 by omega, show i * 4 + 4 + 1 = i * 4 + 1 + 4 by omega, show i * 4 + 4 + 2 = i * 4 + 2 + 4 by omega, show i * 4 + 4 + 3 = i * 4 + 3 + 4 by omega, hs _ _ _ _ e, hs _ _ _ _ e, hs _ _ _ _ e, hs _ _ _ _ e]
/-- A pool's blocks: its own, its cells', its index's, its store's; all of the index's and the store's; the function. -/
structure PB where
  p : Nat
  cb : Nat
  x : Nat
  g : Nat
  L : List Nat
  r : Row
def PB.all (B : PB) : List Nat := B.p :: B.cb :: B.L
structure PoolAt (w : World) (B : PB) (S : List (Option (List UInt8))) (fl : List Nat) (C : List Cell) : Prop where
  blk : Blk w B.p 70 [.pointer (some ⟨B.g, 0, none⟩), .pointer (some ⟨B.x, 0, none⟩), .slice (some ⟨B.cb, 0, none⟩) S.length S.length]
  idx : IdxAt w B.x B.g B.L B.r S fl
  cel : Blk w B.cb 32 (cellsV C)
  len : C.length = S.length
  ok : ∀ c ∈ C, c.ok
  whole : Whole S.length S fl
  ne : B.p ≠ B.cb ∧ B.p ∉ B.L ∧ B.cb ∉ B.L
theorem PoolAt.mod {S0 : List Nat} {w w' : World} {B : PB} {S : List (Option (List UInt8))} {fl : List Nat} {C : List Cell} (h : PoolAt w B S fl C) (hm : Mod S0 w w') (h0 : ∀ b, b ∈ B.all → b ∉ S0) : PoolAt w' B S fl C :=
  ⟨hm.blk h.blk (h0 _ (by simp [PB.all])), h.idx.mod hm (fun b hb => h0 b (by simp [PB.all, hb])), hm.blk h.cel (h0 _ (by simp [PB.all])), h.len, h.ok, h.whole, h.ne⟩
theorem PoolAt.lt {w : World} {B : PB} {S : List (Option (List UInt8))} {fl : List Nat} {C : List Cell} (h : PoolAt w B S fl C) : ∀ b, b ∈ B.all → b < w.heap.size := by
  intro b hb
  simp only [PB.all, List.mem_cons] at hb
  rcases hb with rfl | rfl | hb
  · exact h.blk.lt
  · exact h.cel.lt
  · exact h.idx.lt b hb
theorem PoolAt.drew {w : World} {B : PB} {S : List (Option (List UInt8))} {fl : List Nat} {C : List Cell} (h : PoolAt w B S fl C) : PoolAt w.drew B S fl C := h.mod (Mod.drew (Mod.refl [] w)) (by simp)
/-- Where a place's cell lies. -/
def cellAt (B : PB) (o : Option Nat) : Value := .pointer (o.map fun i => ⟨B.cb, i * 4, none⟩)

section
variable {w : World} {B : PB} {S : List (Option (List UInt8))} {fl : List Nat} {C : List Cell}
theorem len_any (h : PoolAt w B S fl C) : Calls Try.prog 16 #[.pointer (some ⟨B.p, 0, none⟩)] w fun e w' => e = .returned (.int .i64 (used S : Nat)) ∧ w = w' := by
  have U := Lib.hid (used_at h.idx)
  have c0 := h.blk.cell (i := 0) rfl
  clear h
  generalize used S = u at *
  go_enter Try.func16, Try.ntmps16
  go_wp2_with fail
  refine U.out.mono ?_
  rintro e1 w1 ⟨rfl, rfl⟩
  go_wp2_with fail
  go_ret
  exact ⟨rfl, rfl⟩
set_option maxRecDepth 4000 in
theorem full_any (h : PoolAt w B S fl C) : Calls Try.prog 17 #[.pointer (some ⟨B.p, 0, none⟩)] w fun e w' => e = .returned (.bool (decide (fl = []))) ∧ Mod [] w w' := by
  have U := Lib.hid (len_any (h.drew))
  have c2 := h.blk.cell (i := 2) rfl
  have hd : decide (fl = []) = ((used S : Int) == (S.length : Int)) := by
    have := h.whole.2
    rw [Bool.eq_iff_iff]
    simp only [decide_eq_true_eq, beq_iff_eq]
    constructor
    · rintro rfl; simp at this; omega
    · intro e; exact List.eq_nil_of_length_eq_zero (by omega)
  have isc : IsC w.drew B.p := isC_of_cell (w := w) c2
  have IS := Lib.hid isc
  rw [hd]
  clear h isc hd
  generalize used S = u at *
  generalize S.length = n at *
  go_enter Try.func17, Try.ntmps17
  go_wp2_with fail
  refine wp_region_held [5] [8] [] (by kernel_rfl) (by kernel_rfl) ?_
  simp only [wpCut, List.take_succ_cons, List.take_zero, List.drop_succ_cons, List.drop_zero, List.cons_append, List.nil_append]
  go_wp2_with fail
  refine U.out.mono ?_
  rintro e1 w1 ⟨rfl, rfl⟩
  go_wp2_with fail
  refine ⟨Mod.refl _ _, ?_⟩
  go_wp2_with fail
  refine ⟨by kernel_rfl, ⟨⟨by simp, IS.out⟩, trivial⟩, ?_⟩
  go_wp2_with fail
  go_ret
  exact ⟨rfl, (Mod.refl [] w).drew⟩
theorem find_any (h : PoolAt w B S fl C) (key : List UInt8) (hl : key.length ≤ 1000000) : Calls Try.prog 12 #[.pointer (some ⟨B.p, 0, none⟩), .string ⟨key.toArray⟩] w fun e w' => e = .returned (cellAt B (placeOf S key)) ∧ Mod [] w w' := by
  have F := Lib.hid (Index.find_any h.idx key hl)
  have HB := Lib.hid h.blk
  have c1 := h.blk.cell (i := 1) rfl
  have hfew := h.idx.few
  cases hp : placeOf S key with
  | none =>
    have ho : optInt (placeOf S key) = -1 := by rw [hp]; rfl
    rw [ho] at F
    have hr : cellAt B none = .pointer none := rfl
    rw [hr]
    clear h hp ho
    go_enter Try.func12, Try.ntmps12
    go_wp2_with fail
    refine F.out.mono ?_
    rintro e1 w1 ⟨rfl, hM⟩
    go_wp2_with fail
    go_ret
    exact ⟨rfl, hM⟩
  | some i =>
    have ho : optInt (placeOf S key) = (i : Int) := by rw [hp]; rfl
    rw [ho] at F
    have hr : cellAt B (some i) = .pointer (some ⟨B.cb, i * 4, none⟩) := rfl
    rw [hr]
    have hi : i < S.length := (List.getElem?_eq_some_iff.1 (placeOf_get hp)).1
    clear h hp ho hr
    go_enter Try.func12, Try.ntmps12
    go_wp2_with fail
    refine F.out.mono ?_
    rintro e1 w1 ⟨rfl, hM⟩
    have c2 := (hM.blk HB.out (by simp)).cell (i := 2) rfl
    go_wp2_with fail
    go_ret
    exact ⟨rfl, hM⟩
end
end Go.Proofs.Ytajadfoannmaiaa.Pool
