/- keys.Store: New. -/
import Derived.Test.YtajadfoannmaiaaKeys4
import Derived.Deep.OwnRows
import Derived.Laws.OwnMore
namespace Go.Proofs.Ytajadfoannmaiaa.Keys
open Go Go.RowKit Go.YtajadfoannmaiaaMem Go.YtajadfoannmaiaaLex
set_option linter.unusedVariables false
set_option linter.unusedSimpArgs false

theorem i8_info : (Try.prog.info? 83).map (fun i => (i.zero, i.size, i.bytes)) = some (some (.int .i8 0), 1, 1) := by kernel_rfl
theorem i32_info : (Try.prog.info? 21).map (fun i => (i.zero, i.size, i.bytes)) = some (some (.int .i32 0), 1, 4) := by kernel_rfl
theorem u8_info' : (Try.prog.info? 5).map (fun i => (i.zero, i.size, i.bytes)) = some (some (.int .u8 0), 1, 1) := by kernel_rfl
/-- A store in the making: the places from k on are laid. -/
structure Half (w : World) (g b1 b2 b3 n k : Nat) (bs : List UInt8) (zs nx : List Int) : Prop where
  blk : Blk w g 82 [.slice (some ⟨b1, 0, none⟩) (n * 64) (n * 64), .slice (some ⟨b2, 0, none⟩) n n, .slice (some ⟨b3, 0, none⟩) n n, .int .i32 (headOf ((List.range n).drop k)), .int .i64 0]
  bytes : Blk w b1 5 (vb bs)
  sizes : Blk w b2 83 (zs.map fun z => .int .i8 z)
  nexts : Blk w b3 21 (nxs nx)
  len : bs.length = 64 * n ∧ zs.length = n ∧ nx.length = n
  done : ∀ i, k ≤ i → i < n → zs[i]? = some (-1) ∧ nx[i]? = some (headOf ((List.range n).drop (i + 1)))
  ne : g ≠ b1 ∧ g ≠ b2 ∧ g ≠ b3 ∧ b1 ≠ b2 ∧ b1 ≠ b3 ∧ b2 ≠ b3
theorem Half.sto {w : World} {g b1 b2 b3 n : Nat} {bs : List UInt8} {zs nx : List Int} (h : Half w g b1 b2 b3 n 0 bs zs nx) (hn : n ≤ 2000) : Sto w g b1 b2 b3 (List.replicate n none) (List.range n) bs nx := by
  have hz : (zs.map fun z => Value.int .i8 z) = szs (List.replicate n none) := by
    unfold szs
    rw [List.map_replicate]
    apply List.ext_getElem?
    intro i
    by_cases hi : i < n
    · rw [List.getElem?_map, (h.done i (by omega) hi).1, List.getElem?_replicate]; simp [hi, szOf]
    · rw [List.getElem?_map, List.getElem?_eq_none (by rw [h.len.2.1]; omega), List.getElem?_eq_none (by simp; omega)]; rfl
  have hu : used (List.replicate n (none : Option (List UInt8))) = 0 := by unfold used; rw [List.countP_eq_zero]; intro x hx; rw [List.eq_of_mem_replicate hx]; simp
  refine ⟨?_, h.bytes, ?_, h.nexts, ?_, ?_, ?_, ?_, ?_, List.nodup_range, ?_, h.ne⟩
  · rw [List.length_replicate, hu, show 64 * n = n * 64 by omega]
    have := h.blk; rw [List.drop_zero] at this; exact this
  · rw [← hz]; exact h.sizes
  · rw [List.length_replicate]; exact h.len.1
  · rw [List.length_replicate]; exact h.len.2.2
  · rw [List.length_replicate]; exact hn
  · intro i k hk; rw [List.getElem?_replicate] at hk; split at hk <;> simp at hk
  · intro j i hj
    have hjn : j < n := by have := (List.getElem?_eq_some_iff.1 hj).1; simpa using this
    rw [List.getElem?_range hjn] at hj
    simp at hj; subst hj
    exact ⟨by rw [List.getElem?_replicate]; simp [hjn], (h.done j (by omega) hjn).2⟩
  · intro i hi
    rw [List.getElem?_replicate] at hi
    split at hi
    · rename_i hlt; exact List.mem_range.2 hlt
    · simp at hi
theorem range_drop {n k : Nat} (h : k < n) : (List.range n).drop k = k :: (List.range n).drop (k + 1) := by
  rw [List.drop_eq_getElem_cons (by simpa using h)]; simp
theorem Half.next {w w' : World} {g b1 b2 b3 n k : Nat} {bs : List UInt8} {zs nx : List Int} (h : Half w g b1 b2 b3 n (k + 1) bs zs nx) (hk : k < n)
    (Bg : Blk w' g 82 [.slice (some ⟨b1, 0, none⟩) (n * 64) (n * 64), .slice (some ⟨b2, 0, none⟩) n n, .slice (some ⟨b3, 0, none⟩) n n, .int .i32 (k : Int), .int .i64 0])
    (B1 : Blk w' b1 5 (vb bs)) (B2 : Blk w' b2 83 ((zs.map fun z => Value.int .i8 z).set k (.int .i8 (-1)))) (B3 : Blk w' b3 21 ((nxs nx).set k (.int .i32 (headOf ((List.range n).drop (k + 1)))))) :
    Half w' g b1 b2 b3 n k bs (zs.set k (-1)) (nx.set k (headOf ((List.range n).drop (k + 1)))) := by
  obtain ⟨l1, l2, l3⟩ := h.len
  refine ⟨?_, B1, ?_, ?_, ⟨l1, by rw [List.length_set]; exact l2, by rw [List.length_set]; exact l3⟩, fun i hi hin => ?_, h.ne⟩
  · rw [range_drop hk]; exact Bg
  · rw [List.map_set]; exact B2
  · unfold nxs at *; rw [List.map_set]; exact B3
  · by_cases e : k = i
    · subst e; exact ⟨List.getElem?_set_self (by omega), List.getElem?_set_self (by omega)⟩
    · rw [List.getElem?_set_ne e, List.getElem?_set_ne e]; exact h.done i (by omega) hin
theorem bk0 (w : World) (cs : List Value) (T : TypeId) (B C D : Obj) : Blk ((((w.alloc (.cells cs.toArray T)).alloc B).alloc C).alloc D).drew w.heap.size T cs := ((((Blk.new w cs T).alloc B).alloc C).alloc D).drew
theorem bk1 (w : World) (cs : List Value) (T : TypeId) (A C D : Obj) : Blk ((((w.alloc A).alloc (.cells cs.toArray T)).alloc C).alloc D).drew (w.heap.size + 1) T cs := by
  have h := (((Blk.new (w.alloc A) cs T).alloc C).alloc D).drew
  rw [show (w.alloc A).heap.size = w.heap.size + 1 by simp] at h
  exact h
theorem bk2 (w : World) (cs : List Value) (T : TypeId) (A B D : Obj) : Blk ((((w.alloc A).alloc B).alloc (.cells cs.toArray T)).alloc D).drew (w.heap.size + 1 + 1) T cs := by
  have h := ((Blk.new ((w.alloc A).alloc B) cs T).alloc D).drew
  rw [show ((w.alloc A).alloc B).heap.size = w.heap.size + 1 + 1 by simp] at h
  exact h
theorem bk3 (w : World) (cs : List Value) (T : TypeId) (A B C : Obj) : Blk ((((w.alloc A).alloc B).alloc C).alloc (.cells cs.toArray T)).drew (w.heap.size + 1 + 1 + 1) T cs := by
  have h := (Blk.new (((w.alloc A).alloc B).alloc C) cs T).drew
  rw [show (((w.alloc A).alloc B).alloc C).heap.size = w.heap.size + 1 + 1 + 1 by simp] at h
  exact h
theorem half_start {w : World} {g b1 b2 b3 n : Nat} {L1 L2 L3 : List Value} (h1 : vb (List.replicate (64 * n) 0) = L1) (h2 : (List.replicate n (0 : Int)).map (fun z => Value.int .i8 z) = L2) (h3 : nxs (List.replicate n 0) = L3)
    (Bg : Blk w g 82 [.slice (some ⟨b1, 0, none⟩) (n * 64) (n * 64), .slice (some ⟨b2, 0, none⟩) n n, .slice (some ⟨b3, 0, none⟩) n n, .int .i32 (-1), .int .i64 0])
    (B1 : Blk w b1 5 L1) (B2 : Blk w b2 83 L2) (B3 : Blk w b3 21 L3) (hne : g ≠ b1 ∧ g ≠ b2 ∧ g ≠ b3 ∧ b1 ≠ b2 ∧ b1 ≠ b3 ∧ b2 ≠ b3) :
    Half w g b1 b2 b3 n n (List.replicate (64 * n) 0) (List.replicate n 0) (List.replicate n 0) := by
  subst h1 h2 h3
  exact ⟨by rw [List.drop_eq_nil_of_le (by simp)]; exact Bg, B1, B2, B3, by simp, fun i h1 h2 => by omega, hne⟩
def NewPost (n : Nat) (w : World) (e : Ending) (w' : World) : Prop :=
  ∃ g b1 b2 b3 bs nx, e = .returned (.pointer (some ⟨g, 0, none⟩)) ∧ Sto w' g b1 b2 b3 (List.replicate n none) (List.range n) bs nx ∧ w.heap.size ≤ g ∧ w.heap.size ≤ b1 ∧ w.heap.size ≤ b2 ∧ w.heap.size ≤ b3 ∧ Mod [] w w'
set_option maxRecDepth 4000 in
set_option maxHeartbeats 3200000 in
theorem new_any (n : Nat) (hn : n ≤ 2000) (w : World) : Calls Try.prog 20 #[.int .i64 n] w (NewPost n w) := by
  have d1 : decide ((n : Int) < 0) = false := by simp
  have d2 : decide ((65536 : Int) < n) = false := by simp; omega
  have m1 := run_make_row' (P := Try.prog) 30 5 (.int .u8 0) 1 Try.underlying30 u8_info' rfl .i64 .i64 (n * 64) (by omega) (by omega)
  have m2 := run_make_row' (P := Try.prog) 79 83 (.int .i8 0) 1 Try.underlying79 i8_info rfl .i64 .i64 n (by omega) (by omega)
  have m3 := run_make_row' (P := Try.prog) 80 21 (.int .i32 0) 4 Try.underlying80 i32_info rfl .i64 .i64 n (by omega) (by omega)
  rw [show ((n * 64 : Nat) : Int) = (n : Int) * 64 by simp] at m1
  obtain ⟨L1, h1⟩ : ∃ L1, vb (List.replicate (64 * n) 0) = L1 := ⟨_, rfl⟩
  obtain ⟨L2, h2⟩ : ∃ L2, (List.replicate n (0 : Int)).map (fun z => Value.int .i8 z) = L2 := ⟨_, rfl⟩
  obtain ⟨L3, h3⟩ : ∃ L3, nxs (List.replicate n 0) = L3 := ⟨_, rfl⟩
  have q1 : madeCells #[.int .u8 0] (n * 64) = L1.toArray := by
    rw [← Array.toArray_toList (xs := madeCells _ _), toList_madeCells_one, ← h1]; unfold vb; rw [List.map_replicate, Nat.mul_comm]; rfl
  have q2 : madeCells #[.int .i8 0] n = L2.toArray := by
    rw [← Array.toArray_toList (xs := madeCells _ _), toList_madeCells_one, ← h2, List.map_replicate]
  have q3 : madeCells #[.int .i32 0] n = L3.toArray := by
    rw [← Array.toArray_toList (xs := madeCells _ _), toList_madeCells_one, ← h3]; unfold nxs; rw [List.map_replicate]
  rw [q1] at m1
  rw [q2] at m2
  rw [q3] at m3
  have H1 := Lib.hid h1
  have H2 := Lib.hid h2
  have H3 := Lib.hid h3
  clear h1 h2 h3 q1 q2 q3
  go_enter Try.func20, Try.ntmps20
  go_wp2_with fail
  go_region
  all_goals (go_wp2_with fail)
  all_goals (go_loopw [4] (fun i wr => ∃ (k b1 b2 b3 : Nat) (bs : List UInt8) (zs nx : List Int), k ≤ n ∧ (∃ z : Int, z = (k : Int) - 1 ∧ i = .int .i64 z) ∧ Half wr (w.heap.size + 1 + 1 + 1) b1 b2 b3 n k bs zs nx ∧ (w.heap.size ≤ b1 ∧ w.heap.size ≤ b2 ∧ w.heap.size ≤ b3) ∧ Mod [] w wr) (fun i _ => (intOf i + 1).toNat))
  all_goals first
    | exact ⟨n, w.heap.size, w.heap.size + 1, w.heap.size + 1 + 1, _, _, _, Nat.le_refl _, ⟨_, rfl, rfl⟩, half_start H1.out H2.out H3.out (bk3 _ _ _ _ _ _) (bk0 _ _ _ _ _ _) (bk1 _ _ _ _ _ _) (bk2 _ _ _ _ _ _) (by omega), (by omega), (((((Mod.refl [] w).alloc _).alloc _).alloc _).alloc _).drew⟩
    | exact ⟨n, w.heap.size, w.heap.size + 1 + 1, w.heap.size + 1, _, _, _, Nat.le_refl _, ⟨_, rfl, rfl⟩, half_start H1.out H2.out H3.out (bk3 _ _ _ _ _ _) (bk0 _ _ _ _ _ _) (bk2 _ _ _ _ _ _) (bk1 _ _ _ _ _ _) (by omega), (by omega), (((((Mod.refl [] w).alloc _).alloc _).alloc _).alloc _).drew⟩
    | exact ⟨n, w.heap.size + 1, w.heap.size, w.heap.size + 1 + 1, _, _, _, Nat.le_refl _, ⟨_, rfl, rfl⟩, half_start H1.out H2.out H3.out (bk3 _ _ _ _ _ _) (bk1 _ _ _ _ _ _) (bk0 _ _ _ _ _ _) (bk2 _ _ _ _ _ _) (by omega), (by omega), (((((Mod.refl [] w).alloc _).alloc _).alloc _).alloc _).drew⟩
    | exact ⟨n, w.heap.size + 1, w.heap.size + 1 + 1, w.heap.size, _, _, _, Nat.le_refl _, ⟨_, rfl, rfl⟩, half_start H1.out H2.out H3.out (bk3 _ _ _ _ _ _) (bk1 _ _ _ _ _ _) (bk2 _ _ _ _ _ _) (bk0 _ _ _ _ _ _) (by omega), (by omega), (((((Mod.refl [] w).alloc _).alloc _).alloc _).alloc _).drew⟩
    | exact ⟨n, w.heap.size + 1 + 1, w.heap.size, w.heap.size + 1, _, _, _, Nat.le_refl _, ⟨_, rfl, rfl⟩, half_start H1.out H2.out H3.out (bk3 _ _ _ _ _ _) (bk2 _ _ _ _ _ _) (bk0 _ _ _ _ _ _) (bk1 _ _ _ _ _ _) (by omega), (by omega), (((((Mod.refl [] w).alloc _).alloc _).alloc _).alloc _).drew⟩
    | exact ⟨n, w.heap.size + 1 + 1, w.heap.size + 1, w.heap.size, _, _, _, Nat.le_refl _, ⟨_, rfl, rfl⟩, half_start H1.out H2.out H3.out (bk3 _ _ _ _ _ _) (bk2 _ _ _ _ _ _) (bk1 _ _ _ _ _ _) (bk0 _ _ _ _ _ _) (by omega), (by omega), (((((Mod.refl [] w).alloc _).alloc _).alloc _).alloc _).drew⟩
    | (obtain ⟨k, b1, b2, b3, bs, zs, nx, hk, ⟨z, hz, rfl⟩, hH, hbb, hM⟩ := hrel
       cases k with
       | zero =>
         obtain rfl : z = -1 := by omega
         have HH := Lib.hid hH
         have MR := Lib.hid hM
         clear hH hM hz hk
         go_wp2_with fail
         go_ret
         exact ⟨_, b1, b2, b3, bs, nx, rfl, HH.out.sto hn, (by omega), hbb.1, hbb.2.1, hbb.2.2, MR.out⟩
       | succ k =>
         obtain rfl : z = k := by omega
         have hkn : k < n := by omega
         obtain ⟨n1, n2, n3, n4, n5, n6⟩ := hH.ne
         obtain ⟨l1, l2, l3⟩ := hH.len
         obtain ⟨hf, hhf⟩ : ∃ hf, headOf ((List.range n).drop (k + 1)) = hf := ⟨_, rfl⟩
         have c1 := hH.blk.cell (i := 1) rfl
         have c2 := hH.blk.cell (i := 2) rfl
         have c3 : wr.cell? ⟨w.heap.size + 1 + 1 + 1, 3, none⟩ = some (.int .i32 hf) := by rw [← hhf]; exact hH.blk.cell (i := 3) rfl
         have f3 := hH.blk.free 3
         have fz := hH.sizes.free k
         have fx := hH.nexts.free k
         have cz := hH.sizes.cell (i := k) (v := .int .i8 (zs[k]'(by omega))) (by simp [List.getElem?_eq_getElem (show k < zs.length by omega)])
         have cx := hH.nexts.cell (i := k) (v := .int .i32 (nx[k]'(by omega))) (by simp [nxs, List.getElem?_eq_getElem (show k < nx.length by omega)])
         generalize zs[k]'(by omega) = z0 at cz
         generalize nx[k]'(by omega) = x0 at cx
         have HF := Lib.hid hhf
         have HH := Lib.hid hH
         have MR := Lib.hid hM
         clear hH hM hhf hz
         go_wp2_with fail
         refine wp_region_lex (by kernel_rfl) (by kernel_rfl) ?_
         go_wp2_with fail
         refine ⟨by kernel_rfl, ?_⟩
         go_wp2_with fail
         have hfe := HF.out
         subst hfe
         refine ⟨⟨k, b1, b2, b3, bs, zs.set k (-1), _, by omega, ⟨_, rfl, by go_num⟩, HH.out.next hkn ?_ ?_ ?_ ?_, hbb, ?_⟩, by first | (simp [intOf]; done) | (simp [intOf]; omega)⟩
         · first | exact (((HH.out.blk.other (a := ⟨b2, k, none⟩) n2 _).other (a := ⟨b3, k, none⟩) n3 _).set 3 _).drew | exact ((HH.out.blk.drew.other (a := ⟨b2, k, none⟩) n2 _).other (a := ⟨b3, k, none⟩) n3 _).set 3 _
         · exact (((HH.out.bytes.other (a := ⟨b2, k, none⟩) n4 _).other (a := ⟨b3, k, none⟩) n5 _).other (a := ⟨w.heap.size + 1 + 1 + 1, 3, none⟩) (Ne.symm n1) _).drew
         · exact (((HH.out.sizes.set k _).other (a := ⟨b3, k, none⟩) n6 _).other (a := ⟨w.heap.size + 1 + 1 + 1, 3, none⟩) (Ne.symm n2) _).drew
         · exact (((HH.out.nexts.other (a := ⟨b2, k, none⟩) (Ne.symm n6) _).set k _).other (a := ⟨w.heap.size + 1 + 1 + 1, 3, none⟩) (Ne.symm n3) _).drew
         · exact (((MR.out.setCell (p := ⟨b2, k, none⟩) (.inr hbb.2.1) _).setCell (p := ⟨b3, k, none⟩) (.inr hbb.2.2) _).setCell (p := ⟨w.heap.size + 1 + 1 + 1, 3, none⟩) (.inr (by show w.heap.size ≤ w.heap.size + 1 + 1 + 1; omega)) _).drew)
end Go.Proofs.Ytajadfoannmaiaa.Keys
