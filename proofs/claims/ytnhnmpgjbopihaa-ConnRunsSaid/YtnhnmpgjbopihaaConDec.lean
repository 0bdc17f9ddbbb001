/- decode: what a decoder does with a byte. -/
import Derived.Test.YtnhnmpgjbopihaaParse3
import Derived.Test.YtnhnmpgjbopihaaConReq
namespace Go.Proofs.Ytnhnmpgjbopihaa.Frame
open Go Go.RowKit Go.YtnhnmpgjbopihaaMem Go.YtnhnmpgjbopihaaLex
set_option linter.unusedVariables false
set_option linter.unusedSimpArgs false
variable {T : TypeId} {rest : List Value}

/-- A decoder's block. -/
structure Raw (T : TypeId) (rest : List Value) (w : World) (g : Nat) (bytes : List UInt8) (n rules err : Int) : Prop where
  blk : Blk w g T (vb bytes ++ ([.int .i64 n, .int .i64 rules, .int .i64 err] ++ rest))
  len : bytes.length = 75
theorem Raw.mod {w w' : World} {g : Nat} {bytes : List UInt8} {n rules err : Int} {S : List Nat} (h : Raw T rest w g bytes n rules err) (hm : Mod S w w') (hn : g ∉ S) : Raw T rest w' g bytes n rules err := ⟨hm.blk h.blk hn, h.len⟩
theorem Raw.cells {w : World} {g : Nat} {bytes : List UInt8} {n rules err : Int} (h : Raw T rest w g bytes n rules err) :
    w.cell? ⟨g, 75, none⟩ = some (.int .i64 n) ∧ w.cell? ⟨g, 76, none⟩ = some (.int .i64 rules) ∧ w.cell? ⟨g, 77, none⟩ = some (.int .i64 err) := by
  have hl : (vb bytes).length = 75 := by rw [vb_length]; exact h.len
  refine ⟨h.blk.cell ?_, h.blk.cell ?_, h.blk.cell ?_⟩
  · rw [List.getElem?_append_right (by omega), hl]; rfl
  · rw [List.getElem?_append_right (by omega), hl]; rfl
  · rw [List.getElem?_append_right (by omega), hl]; rfl
theorem Raw.byte {w : World} {g : Nat} {bytes : List UInt8} {n rules err : Int} (h : Raw T rest w g bytes n rules err) {i : Nat} {u : Value} (hi : (vb bytes)[i]? = some u) : w.cell? ⟨g, i, none⟩ = some u := by
  refine h.blk.cell ?_
  rw [List.getElem?_append_left (List.getElem?_eq_some_iff.1 hi).1]; exact hi
theorem Raw.set {w : World} {g : Nat} {bytes : List UInt8} {n rules err : Int} (h : Raw T rest w g bytes n rules err) (i : Nat) (hi : i < 75) (c : UInt8) : Raw T rest (w.setCell ⟨g, i, none⟩ (.int .u8 c.toNat)) g (bytes.set i c) n rules err := by
  refine ⟨?_, by rw [List.length_set]; exact h.len⟩
  have := h.blk.set i (.int .u8 c.toNat)
  have hl : (vb bytes).length = 75 := by rw [vb_length]; exact h.len
  rw [List.set_append_left _ _ (by omega)] at this
  have e : (vb bytes).set i (.int .u8 c.toNat) = vb (bytes.set i c) := by simp [vb, List.map_set]
  rw [e] at this; exact this
theorem Raw.setN {w : World} {g : Nat} {bytes : List UInt8} {n rules err : Int} (h : Raw T rest w g bytes n rules err) (m : Int) : Raw T rest (w.setCell ⟨g, 75, none⟩ (.int .i64 m)) g bytes m rules err := by
  refine ⟨?_, h.len⟩
  have := h.blk.set 75 (.int .i64 m)
  have hl : (vb bytes).length = 75 := by rw [vb_length]; exact h.len
  rw [List.set_append_right _ _ (by omega), hl] at this; exact this
theorem Raw.setE {w : World} {g : Nat} {bytes : List UInt8} {n rules err : Int} (h : Raw T rest w g bytes n rules err) (m : Int) : Raw T rest (w.setCell ⟨g, 77, none⟩ (.int .i64 m)) g bytes n rules m := by
  refine ⟨?_, h.len⟩
  have := h.blk.set 77 (.int .i64 m)
  have hl : (vb bytes).length = 75 := by rw [vb_length]; exact h.len
  rw [List.set_append_right _ _ (by omega), hl] at this; exact this
theorem Raw.other {w : World} {g : Nat} {bytes : List UInt8} {n rules err : Int} (h : Raw T rest w g bytes n rules err) {a : Addr} (hne : g ≠ a.block) (v : Value) : Raw T rest (w.setCell a v) g bytes n rules err := ⟨h.blk.other hne v, h.len⟩
theorem Raw.alloc {w : World} {g : Nat} {bytes : List UInt8} {n rules err : Int} (h : Raw T rest w g bytes n rules err) (o : Obj) : Raw T rest (w.alloc o) g bytes n rules err := ⟨h.blk.alloc o, h.len⟩
theorem Raw.drew {w : World} {g : Nat} {bytes : List UInt8} {n rules err : Int} (h : Raw T rest w g bytes n rules err) : Raw T rest w.drew g bytes n rules err := ⟨h.blk, h.len⟩
/-- A request laid over another one. -/
def put5 (w : World) (b : Nat) (q : Req) : World :=
  ((((w.setCell ⟨b, 0, none⟩ (.int .i64 q.op)).setCell ⟨b, 1, none⟩ (.int .i64 q.rule)).setCell ⟨b, 2, none⟩ (.int .u32 q.cost)).setCell ⟨b, 3, none⟩ (.string ⟨q.key.toArray⟩)).setCell ⟨b, 4, none⟩ (.int .i64 q.k)
theorem mod_put5 {S : List Nat} {a w : World} (h : Mod S a w) {b : Nat} (hb : b ∈ S ∨ a.heap.size ≤ b) (q : Req) : Mod S a (put5 w b q) :=
  ((((h.setCell hb _).setCell hb _).setCell hb _).setCell hb _).setCell hb _
theorem Raw.put5 {w : World} {g : Nat} {bytes : List UInt8} {n rules err : Int} (h : Raw T rest w g bytes n rules err) {b : Nat} (hne : g ≠ b) (q : Req) : Raw T rest (put5 w b q) g bytes n rules err :=
  ((((h.other hne _).other hne _).other hne _).other hne _).other hne _
/-- A decoder that has these bytes of a frame. -/
def Dec (T : TypeId) (rest : List Value) (w : World) (g : Nat) (pend : List UInt8) (rules : Int) (err : Nat) : Prop := ∃ bytes, Raw T rest w g bytes pend.length rules err ∧ bytes.take pend.length = pend ∧ pend.length < 75
theorem Dec.mod {w w' : World} {g : Nat} {pend : List UInt8} {rules : Int} {err : Nat} {S : List Nat} (h : Dec T rest w g pend rules err) (hm : Mod S w w') (hn : g ∉ S) : Dec T rest w' g pend rules err := by
  obtain ⟨t, h, h'⟩ := h; exact ⟨t, h.mod hm hn, h'⟩
theorem Mod.restore {w w' : World} {g : Nat} (h : Mod [g] w w') (hg : w'.heap[g]? = w.heap[g]?) : Mod [] w w' :=
  ⟨h.os, h.tape, h.output, h.size, fun k hk _ => by
    by_cases e : k = g
    · subst e; exact hg
    · exact h.block k hk (by simpa using e)⟩
theorem Raw.same {w w' : World} {g : Nat} {bytes : List UInt8} {n rules err : Int} (h : Raw T rest w g bytes n rules err) (h' : Raw T rest w' g bytes n rules err) : w'.heap[g]? = w.heap[g]? := by
  have a := h.blk; have b := h'.blk; unfold Blk at a b; rw [a, b]

/-- What a try gives: the request that the bytes with this one tell, whether it is whole, the fault. -/
def tried (pend : List UInt8) (rules : Int) (err : Nat) (c : UInt8) : Req × Bool × Nat :=
  if err ≠ 0 then (Req.none, false, err) else ((parse (pend ++ [c]) rules).1, decide (0 < (parse (pend ++ [c]) rules).2.1), (parse (pend ++ [c]) rules).2.2)
def TryPost (pend : List UInt8) (rules : Int) (err : Nat) (c : UInt8) (w : World) (e : Ending) (w' : World) : Prop :=
  e = .returned (.tuple #[(tried pend rules err c).1.val, .bool (tried pend rules err c).2.1, .int .i64 (tried pend rules err c).2.2]) ∧ Mod [] w w'

theorem try_err {w : World} {g : Nat} {bytes : List UInt8} {pend : List UInt8} {n rules : Int} {err : Nat} (h : Raw T rest w g bytes n rules err) (he : err ≠ 0) (c : UInt8) :
    Calls Try.prog 27 #[.pointer (some ⟨g, 0, none⟩), .int .u8 c.toNat] w (TryPost pend rules err c w) := by
  obtain ⟨c1, c2, c3⟩ := h.cells
  have hg := h.blk.lt
  have isc : IsC (w.alloc (.cells Req.none.cells.toArray 50)) g := isC_of_cell (((Mod.refl [] w).alloc (.cells Req.none.cells.toArray 50)).cell hg (by simp) |>.trans c1)
  have de : ((err : Int) != 0) = true := by simp; omega
  have het : tried pend rules err c = (Req.none, false, err) := by unfold tried; rw [if_pos he]
  have HT := Lib.hid het
  clear h he het
  go_enter Try.func27, Try.ntmps27
  go_wp2_with fail
  refine wp_region_held [6] [4] [] (by kernel_rfl) (by kernel_rfl) ?_
  simp only [wpCut, List.take_succ_cons, List.take_zero, List.drop_succ_cons, List.drop_zero]
  go_wp2_with fail
  refine ⟨Mod.refl _ _, ?_⟩
  go_wp2_with fail
  refine ⟨by kernel_rfl, ⟨⟨by simp, isc⟩, trivial⟩, ?_⟩
  go_wp2_with fail
  refine bodyPost_ret (v := .tuple #[Req.none.val, .bool false, .int .i64 err]) (by simp [results, Try.results27, go_sem, Req.none, Req.val]) rfl ⟨?_, ((Mod.refl [] w).alloc _).drew⟩
  rw [HT.out]

theorem parse_at' {w : World} {v : Value} {bs : List UInt8} (hv : Sl w v (vb bs)) (hc : bs.length ≤ 1000000) (rules : Int) {op rule k : Int} {cost : Nat} {key : List UInt8} {n e : Nat} (h : parse bs rules = (⟨op, rule, cost, key, k⟩, n, e)) :
    Calls Try.prog 35 #[v, .int .i64 rules] w fun x w' => x = .returned (.tuple #[.agg #[.int .i64 op, .int .i64 rule, .int .u32 cost, .string ⟨key.toArray⟩, .int .i64 k], .int .i64 n, .int .i64 e]) ∧ Mod [] w w' := by
  have := parse_any hv hc rules
  unfold ParsePost at this
  rw [h] at this
  exact this

/-- The world behind a try, where the block of what is told was made ahead of the call. -/
def tryEnd (w w2 : World) (g n : Nat) (old : UInt8) (q : Req) : World :=
  (put5 ((put5 w2 (w.heap.size + 1) q).setCell ⟨g, n, none⟩ (.int .u8 old.toNat)) w.heap.size q).drew
theorem try_mod {w w2 : World} {g n : Nat} {x : Value} {o o' : Obj} (old : UInt8) (q : Req) (h : Mod [] (((w.setCell ⟨g, n, none⟩ x).alloc o).alloc o').drew.drew.drew w2) : Mod [g] w (tryEnd w w2 g n old q) := by
  have h1 : Mod [g] w (((w.setCell ⟨g, n, none⟩ x).alloc o).alloc o').drew.drew.drew := ((((Mod.refl [g] w).setCell (p := ⟨g, n, none⟩) (.inl (by simp)) x).alloc o).alloc o').drew.drew.drew
  have h2 : Mod [g] w w2 := h1.trans (h.mono (by simp))
  have h3 := mod_put5 h2 (b := w.heap.size + 1) (.inr (Nat.le_succ _)) q
  have h4 := h3.setCell (p := ⟨g, n, none⟩) (.inl (by simp)) (.int .u8 old.toNat)
  exact (mod_put5 h4 (b := w.heap.size) (.inr (Nat.le_refl _)) q).drew
theorem try_raw {w w2 : World} {g : Nat} {bytes : List UInt8} {c : UInt8} {m : Nat} {n rules err : Int} (old : UInt8) (q : Req) (hm : m < 75) (hne : g ≠ w.heap.size) (hne1 : g ≠ w.heap.size + 1) (hb : (bytes.set m c).set m old = bytes)
    (h : Raw T rest w2 g (bytes.set m c) n rules err) : Raw T rest (tryEnd w w2 g m old q) g bytes n rules err := by
  have h1 := (h.put5 hne1 q).set m hm old
  rw [hb] at h1
  exact (h1.put5 hne q).drew

set_option maxRecDepth 4000 in
set_option maxHeartbeats 1600000 in
theorem try_go {w : World} {g : Nat} {bytes pend : List UInt8} {rules : Int} (h : Raw T rest w g bytes pend.length rules 0) (ht : bytes.take pend.length = pend) (hp : pend.length < 75) (c : UInt8) :
    Calls Try.prog 27 #[.pointer (some ⟨g, 0, none⟩), .int .u8 c.toNat] w (TryPost pend rules 0 c w) := by
  obtain ⟨c1, c2, c3⟩ := h.cells
  have hg := h.blk.lt
  have hlen := h.len
  obtain ⟨old, hold⟩ : ∃ old, bytes[pend.length]? = some old := ⟨_, List.getElem?_eq_getElem (by omega)⟩
  have co : w.cell? ⟨g, pend.length, none⟩ = some (.int .u8 old.toNat) := h.byte (vb_get hold)
  have hback : (bytes.set pend.length c).set pend.length old = bytes := by
    rw [List.set_set]
    apply List.ext_getElem?
    intro i
    by_cases e : i = pend.length
    · subst e; rw [List.getElem?_set_self (by omega), hold]
    · rw [List.getElem?_set_ne (Ne.symm e)]
  have htk : (bytes.set pend.length c).take (pend.length + 1) = pend ++ [c] := by
    rw [List.take_succ_eq_append_getElem (by rw [List.length_set]; omega), List.take_set_of_le (Nat.le_refl _), ht]; simp
  have isc : IsC (w.alloc (.cells Req.none.cells.toArray 50)) g := isC_of_cell (((Mod.refl [] w).alloc (.cells Req.none.cells.toArray 50)).cell hg (by simp) |>.trans c1)
  obtain ⟨q, n, e, hP⟩ : ∃ q n e, parse (pend ++ [c]) rules = (q, n, e) := ⟨_, _, _, rfl⟩
  have het : tried pend rules 0 c = (q, decide (0 < n), e) := by unfold tried; rw [if_neg (by simp), hP]
  have hf := h.blk.free pend.length
  have hr1 := h.set pend.length hp c
  have H := Lib.hid h
  have R1 := Lib.hid hr1
  have HT := Lib.hid het
  have HP := Lib.hid hP
  have HB := Lib.hid hback
  have HTK := Lib.hid htk
  clear h het hP hr1 hold hback htk ht
  obtain ⟨op, rule, cost, key, k⟩ := q
  have hal : Try.prog.arrayLen 37 = 75 := by kernel_rfl
  have hsl : ∀ W, (Instr.sliceAt 37 (.pointer (some ⟨g, 0, none⟩)) none (some (.int .i64 ((pend.length : Int) + 1))) (some (.int .i64 ((pend.length : Int) + 1)))).run Try.prog W = .ok (.slice (some ⟨g, 0, none⟩) (pend.length + 1) (pend.length + 1)) W := fun W => by
    rw [run_sliceAt_array_hm W 37 ⟨g, 0, none⟩ (by kernel_rfl) .i64 .i64 ((pend.length : Int) + 1) ((pend.length : Int) + 1) (by omega) (by omega) (by rw [hal]; omega)]
    go_simp
  go_enter Try.func27, Try.ntmps27
  go_wp2_with fail
  refine wp_region_lex (by kernel_rfl) (by kernel_rfl) ?_
  go_wp2_with fail
  refine ⟨by kernel_rfl, ?_⟩
  go_wp2_with fail
  refine wp_region_lex (by kernel_rfl) (by kernel_rfl) ?_
  go_wp2_with fail
  refine ⟨by kernel_rfl, ?_⟩
  go_wp2_with fail
  refine wp_region_sched (by kernel_rfl) fun S => ?_
  rcases before_or 18 23 S with q | q
  · refine ⟨[(18, 23)], by simp, by simpa using q, any_of_walk (L := [0, 1, 2, 3, 4, 5, 6, 7, 8, 9, 10, 11, 12, 13, 14, 15, 16, 17, 18, 19, 20, 21, 22, 23, 24, 25, 26]) (by kernel_rfl) ?_⟩
    simp only [edges, edge, pick, List.drop_succ_cons, List.drop_zero, List.take_succ_cons, List.take_zero, List.cons_append, List.nil_append]
    go_wp2_with fail
    have hr := R1.out.mod (((Mod.refl [] _).alloc (.cells Req.none.cells.toArray 50)).drew.drew.drew) (by simp)
    have hsp := Sl.part (b := g) (off := 0) (c := pend.length + 1) (i := 0) (m := pend.length + 1) (bs := bytes.set pend.length c) hr.blk.lt (fun i u hu => by rw [Nat.zero_add]; exact hr.byte hu) (by have := hr.len; omega) (Nat.le_refl _) (by unfold maxLen; omega)
    rw [Nat.add_zero, List.drop_zero, HTK.out] at hsp
    refine (parse_at' hsp (by simp; omega) _ HP.out).mono ?_
    rintro e2 w2 ⟨rfl, hM2⟩
    have hr2 := hr.mod hM2 (by simp)
    obtain ⟨c1', c2', c3'⟩ := hr2.cells
    have co' : w2.cell? ⟨g, pend.length, none⟩ = some (.int .u8 c.toNat) := hr2.byte (vb_get (by rw [List.getElem?_set_self (by omega)]))
    have hf' := hr2.blk.free pend.length
    have hbx : Box w2 w.heap.size Req.none := Box.mod (w := ((w.setCell ⟨g, pend.length, none⟩ (.int .u8 c.toNat)).alloc (.cells Req.none.cells.toArray 50)).drew.drew.drew) (Box.new _ Req.none (by simp)) hM2
    have hg2 : g < w2.heap.size := hr2.blk.lt
    have hR2 : w.heap.size < w2.heap.size := Blk.lt hbx
    obtain ⟨p0, p1, p2, p3, p4⟩ := Box.facts hbx
    have z0 := Blk.free hbx 0
    have z1 := Blk.free hbx 1
    have z2 := Blk.free hbx 2
    have z3 := Blk.free hbx 3
    have z4 := Blk.free hbx 4
    have M2 := Lib.hid hM2
    have R2 := Lib.hid hr2
    clear hM2 hr2 hr hbx hsp
    go_wp2_with fail
    refine ⟨by kernel_rfl, ?_⟩
    go_wp2_with fail
    refine wp_region_lex (by kernel_rfl) (by kernel_rfl) ?_
    go_wp2_with fail
    refine ⟨by kernel_rfl, ?_⟩
    go_wp2_with fail
    have hne : g ≠ w.heap.size := by omega
    refine bodyPost_ret (v := .tuple #[.agg #[.int .i64 op, .int .i64 rule, .int .u32 cost, .string ⟨key.toArray⟩, .int .i64 k], .bool (decide (0 < n)), .int .i64 e]) (by simp [results, Try.results27, go_sem, p0, p1, p2, p3, p4, z0, z1, z2, z3, z4, hR2]) rfl ⟨by rw [HT.out]; rfl, Mod.restore (g := g) ?_ (H.out.same (bytes := bytes) ?_)⟩
    · exact ((((((((((Mod.refl [g] w).setCell (.inl (by simp)) _).alloc _).drew.drew.drew.trans (M2.out.mono (by simp))).setCell (.inl (by simp)) _).setCell (.inr (Nat.le_refl _)) _).setCell (.inr (Nat.le_refl _)) _).setCell (.inr (Nat.le_refl _)) _).setCell (.inr (Nat.le_refl _)) _).setCell (.inr (Nat.le_refl _)) _).alloc _ |>.drew
    · have := R2.out.set pend.length hp old
      rw [HB.out] at this
      exact ((((((this.other hne _).other hne _).other hne _).other hne _).other hne _).alloc _).drew
  · rcases before_or 6 23 S with q6 | q6 <;> rcases before_or 11 23 S with q11 | q11 <;> rcases before_or 17 23 S with q17 | q17
    case' inl.inl.inl => refine ⟨[(23, 18), (6, 23), (11, 23), (17, 23)], by simp, by simp [q, q6, q11, q17], any_of_walk (L := [0, 1, 2, 3, 4, 5, 8, 9, 10, 14, 15, 16, 6, 11, 17, 23, 7, 12, 13, 18, 19, 20, 21, 22, 24, 25, 26]) (by kernel_rfl) ?_⟩
    case' inl.inl.inr => refine ⟨[(23, 18), (6, 23), (11, 23), (23, 17)], by simp, by simp [q, q6, q11, q17], any_of_walk (L := [0, 1, 2, 3, 4, 5, 8, 9, 10, 14, 15, 16, 6, 11, 23, 17, 7, 12, 13, 18, 19, 20, 21, 22, 24, 25, 26]) (by kernel_rfl) ?_⟩
    case' inl.inr.inl => refine ⟨[(23, 18), (6, 23), (23, 11), (17, 23)], by simp, by simp [q, q6, q11, q17], any_of_walk (L := [0, 1, 2, 3, 4, 5, 8, 9, 10, 14, 15, 16, 6, 17, 23, 11, 7, 12, 13, 18, 19, 20, 21, 22, 24, 25, 26]) (by kernel_rfl) ?_⟩
    case' inl.inr.inr => refine ⟨[(23, 18), (6, 23), (23, 11), (23, 17)], by simp, by simp [q, q6, q11, q17], any_of_walk (L := [0, 1, 2, 3, 4, 5, 8, 9, 10, 14, 15, 16, 6, 23, 11, 17, 7, 12, 13, 18, 19, 20, 21, 22, 24, 25, 26]) (by kernel_rfl) ?_⟩
    case' inr.inl.inl => refine ⟨[(23, 18), (23, 6), (11, 23), (17, 23)], by simp, by simp [q, q6, q11, q17], any_of_walk (L := [0, 1, 2, 3, 4, 5, 8, 9, 10, 14, 15, 16, 11, 17, 23, 6, 7, 12, 13, 18, 19, 20, 21, 22, 24, 25, 26]) (by kernel_rfl) ?_⟩
    case' inr.inl.inr => refine ⟨[(23, 18), (23, 6), (11, 23), (23, 17)], by simp, by simp [q, q6, q11, q17], any_of_walk (L := [0, 1, 2, 3, 4, 5, 8, 9, 10, 14, 15, 16, 11, 23, 6, 17, 7, 12, 13, 18, 19, 20, 21, 22, 24, 25, 26]) (by kernel_rfl) ?_⟩
    case' inr.inr.inl => refine ⟨[(23, 18), (23, 6), (23, 11), (17, 23)], by simp, by simp [q, q6, q11, q17], any_of_walk (L := [0, 1, 2, 3, 4, 5, 8, 9, 10, 14, 15, 16, 17, 23, 6, 11, 7, 12, 13, 18, 19, 20, 21, 22, 24, 25, 26]) (by kernel_rfl) ?_⟩
    case' inr.inr.inr => refine ⟨[(23, 18), (23, 6), (23, 11), (23, 17)], by simp, by simp [q, q6, q11, q17], any_of_walk (L := [0, 1, 2, 3, 4, 5, 8, 9, 10, 14, 15, 16, 23, 6, 11, 17, 7, 12, 13, 18, 19, 20, 21, 22, 24, 25, 26]) (by kernel_rfl) ?_⟩
    all_goals simp only [edges, edge, pick, List.drop_succ_cons, List.drop_zero, List.take_succ_cons, List.take_zero, List.cons_append, List.nil_append]
    all_goals go_wp2_with fail
    all_goals have hr := R1.out.mod ((((Mod.refl [] _).alloc (.cells Req.none.cells.toArray 50)).alloc (.cells Req.none.cells.toArray 50)).drew.drew.drew) (by simp)
    all_goals have hsp := Sl.part (b := g) (off := 0) (c := pend.length + 1) (i := 0) (m := pend.length + 1) (bs := bytes.set pend.length c) hr.blk.lt (fun i u hu => by rw [Nat.zero_add]; exact hr.byte hu) (by have := hr.len; omega) (Nat.le_refl _) (by unfold maxLen; omega)
    all_goals rw [Nat.add_zero, List.drop_zero, HTK.out] at hsp
    all_goals refine (parse_at' hsp (by simp; omega) _ HP.out).mono ?_
    all_goals rintro e2 w2 ⟨rfl, hM2⟩
    all_goals have hr2 := hr.mod hM2 (by simp)
    all_goals obtain ⟨c1', c2', c3'⟩ := hr2.cells
    all_goals have co' : w2.cell? ⟨g, pend.length, none⟩ = some (.int .u8 c.toNat) := hr2.byte (vb_get (by rw [List.getElem?_set_self (by omega)]))
    all_goals have hf' := hr2.blk.free pend.length
    all_goals have hbx : Box w2 w.heap.size Req.none := Box.mod (w := (((w.setCell ⟨g, pend.length, none⟩ (.int .u8 c.toNat)).alloc (.cells Req.none.cells.toArray 50)).alloc (.cells Req.none.cells.toArray 50)).drew.drew.drew) (Blk.alloc (Box.new _ Req.none (by simp)) _) hM2
    all_goals have hby : Box w2 (w.heap.size + 1) Req.none := Box.mod (w := (((w.setCell ⟨g, pend.length, none⟩ (.int .u8 c.toNat)).alloc (.cells Req.none.cells.toArray 50)).alloc (.cells Req.none.cells.toArray 50)).drew.drew.drew) (Box.new _ Req.none (by simp)) hM2
    all_goals have hg2 : g < w2.heap.size := hr2.blk.lt
    all_goals have hR2 : w.heap.size + 1 < w2.heap.size := Blk.lt hby
    all_goals obtain ⟨p0, p1, p2, p3, p4⟩ := Box.facts hbx
    all_goals obtain ⟨q0, q1, q2, q3, q4⟩ := Box.facts hby
    all_goals have z0 := Blk.free hbx 0
    all_goals have z1 := Blk.free hbx 1
    all_goals have z2 := Blk.free hbx 2
    all_goals have z3 := Blk.free hbx 3
    all_goals have z4 := Blk.free hbx 4
    all_goals have y0 := Blk.free hby 0
    all_goals have y1 := Blk.free hby 1
    all_goals have y2 := Blk.free hby 2
    all_goals have y3 := Blk.free hby 3
    all_goals have y4 := Blk.free hby 4
    all_goals have hne : g ≠ w.heap.size := by omega
    all_goals have hne1 : g ≠ w.heap.size + 1 := by omega
    all_goals have M2 := Lib.hid hM2
    all_goals have R2 := Lib.hid hr2
    all_goals clear hM2 hr2 hr hbx hby hsp
    all_goals go_wp2_with fail
    all_goals refine ⟨by kernel_rfl, ?_⟩
    all_goals go_wp2_with fail
    all_goals refine wp_region_lex (by kernel_rfl) (by kernel_rfl) ?_
    all_goals go_wp2_with fail
    all_goals refine ⟨by kernel_rfl, ?_⟩
    all_goals go_wp2_with fail
    all_goals refine bodyPost_ret (v := .tuple #[.agg #[.int .i64 op, .int .i64 rule, .int .u32 cost, .string ⟨key.toArray⟩, .int .i64 k], .bool (decide (0 < n)), .int .i64 e]) (by simp [results, Try.results27, go_sem, p0, p1, p2, p3, p4, z0, z1, z2, z3, z4, hR2]) rfl ⟨by rw [HT.out]; rfl, Mod.restore (g := g) ?_ (H.out.same (bytes := bytes) ?_)⟩
    all_goals first
      | exact try_mod old ⟨op, rule, cost, key, k⟩ M2.out
      | exact try_raw old ⟨op, rule, cost, key, k⟩ hp hne hne1 HB.out R2.out
end Go.Proofs.Ytnhnmpgjbopihaa.Frame
