/- ring.Ring: New. -/
import Derived.Test.YtndekdafiaogmaaZRing
import Derived.Test.YtndekdafiaogmaaZLow
import Derived.Test.YtndekdafiaogmaaZCell
set_option linter.unusedSimpArgs false
set_option linter.unusedVariables false
section
namespace Go.Proofs.Ytndekdafiaogmaa.Ring
open Go Go.RowKit Go.YtndekdafiaogmaaMem Go.YtndekdafiaogmaaLex Go.YtndekdafiaogmaaLex Go.Proofs.Ytndekdafiaogmaa.Hash Go.Proofs.Ytndekdafiaogmaa.Arith Go.Proofs.Ytndekdafiaogmaa.Slot
open Go.Proofs.Ytndekdafiaogmaa.Sum (i64s i64s_get i64s_set)
open Go.Proofs.Ytndekdafiaogmaa.Cell (Rule)
def ring0 (r : Rule) (R : List Row) (wd : Nat) : Rs :=
 ⟨r.window.toNat / r.slots.toNat, r.limit, r.smooth, 0, List.replicate (r.slots.toNat + 1) 0, List.replicate (r.slots.toNat + 1) (List.replicate (R.length * wd) 0)⟩
def RNewPost (rb rc : Nat) (R : List Row) (wd : Nat) (x : Rs) (w : World) (e : Ending) (w' : World) : Prop :=
 ∃ B : RiB, e = .returned (.pointer (some ⟨B.p, 0, none⟩)) ∧ B.rb = rb ∧ RingAt w' B R wd x ∧ (∀ b, b ∈ B.own → w.heap.size ≤ b) ∧ Mod [] w w'
theorem ptr_info : (Try.prog.info? 124).map (fun i => (i.zero, i.size, i.bytes)) = some (some (.pointer none), 1, 8) := by kernel_rfl
theorem make_ptrs (n : Nat) (hn : n ≤ 2000) (w : World) : (Instr.makeSlice 120 (.int .i64 (n : Int)) (.int .i64 (n : Int))).run Try.prog w = .ok (.slice (some ⟨w.heap.size, 0, none⟩) n n) (w.alloc (.cells (List.replicate n (Value.pointer none)).toArray 124)) := by
 have h := run_make_row' (P := Try.prog) 120 124 (.pointer none) 8 Try.underlying120 ptr_info rfl .i64 .i64 n (by omega) (by omega)
 have e : madeCells #[.pointer none] n = (List.replicate n (Value.pointer none)).toArray := by
  rw [← Array.toArray_toList (xs := madeCells _ _), toList_madeCells_one]
 rw [e] at h
 exact h w
def RRing (b0 n wi q : Nat) (lim : Int) (sm : Bool) (rows : Value) (u : Nat) : Nat → Value → List Nat → World → Prop
 | 0, v, bs, w => v = .pointer (some ⟨b0, 3, none⟩) ∧ bs = []
 | 1, v, bs, w => v = .int .i64 n ∧ bs = []
 | 2, v, bs, w => v = .int .i64 ((n : Int) + 1) ∧ bs = []
 | 3, v, bs, w => ∃ b, v = .slice (some ⟨b, 0, none⟩) (n + 1) (n + 1) ∧ Blk w b 124 (List.replicate (n + 1) (Value.pointer none)) ∧ bs = [b]
 | 4, v, bs, w => v = .pointer (some ⟨b0, 3, none⟩) ∧ bs = []
 | 5, v, bs, w => v = .int .i64 n ∧ bs = []
 | 6, v, bs, w => v = .int .i64 ((n : Int) + 1) ∧ bs = []
 | 7, v, bs, w => ∃ b, v = .slice (some ⟨b, 0, none⟩) (n + 1) (n + 1) ∧ Blk w b 2 (i64s (List.replicate (n + 1) 0)) ∧ bs = [b]
 | 8, v, bs, w => v = .pointer (some ⟨b0, 1, none⟩) ∧ bs = []
 | 9, v, bs, w => v = .int .i64 wi ∧ bs = []
 | 10, v, bs, w => v = .pointer (some ⟨b0, 3, none⟩) ∧ bs = []
 | 11, v, bs, w => v = .int .i64 n ∧ bs = []
 | 12, v, bs, w => v = .int .i64 q ∧ bs = []
 | 13, v, bs, w => v = rows ∧ bs = []
 | 14, v, bs, w => v = .int .i64 u ∧ bs = []
 | 15, v, bs, w => v = .pointer (some ⟨b0, 0, none⟩) ∧ bs = []
 | 16, v, bs, w => v = .int .i64 lim ∧ bs = []
 | 17, v, bs, w => v = .pointer (some ⟨b0, 8, none⟩) ∧ bs = []
 | _, v, bs, w => v = .bool sm ∧ bs = []
theorem rring_mod (b0 n wi q : Nat) (lim : Int) (sm : Bool) (rows : Value) (u : Nat) : ∀ k v bs w w', RRing b0 n wi q lim sm rows u k v bs w → Mod [] w w' → RRing b0 n wi q lim sm rows u k v bs w' := by
 intro k v bs w w' h hM
 unfold RRing at *
 split at h <;> first | exact h | (obtain ⟨b, h1, h2, h3⟩ := h; exact ⟨b, h1, hM.blk h2 (by simp), h3⟩)
theorem nz {n : Nat} (h : 1 ≤ n) : ¬ (n : Int) = 0 ∧ ¬ n = 0 ∧ ¬ (n : Int) = -1 := by omega
theorem wr {z : Int} (h0 : 0 ≤ z) (h1 : z ≤ 1099511627777) : IntKind.i64.wrap z = z ∧ wrap64 z = z := ⟨by rw [IntKind.wrap_i64]; omega, by unfold wrap64; omega⟩
theorem lt_one {n : Nat} (h : 1 ≤ n) : decide ((n : Int) < 1) = false := by simp; omega
theorem lt_64 {n : Nat} (h : n ≤ 64) : decide ((64 : Int) < (n : Int)) = false := by simp; omega
theorem eq_no {n : Nat} (h : 1 ≤ n) : ((n : Int) == 0) = false := by simp; omega
theorem n64 {n : Nat} (h : n ≤ 64) : 0 ≤ (n : Int) + 1 ∧ (n : Int) + 1 ≤ 1099511627777 := by omega
theorem q40 {q wi : Nat} (h : wi ≤ 1099511627776) (h2 : q ≤ wi) : (q : Int) ≤ 1099511627777 := by omega
def ptrs (S : List (Nat × Nat)) : List Value := S.map fun q => Value.pointer (some ⟨q.1, 0, none⟩)
structure RMade (w W : World) (p sb tb rb rc m : Nat) (R : List Row) (wd : Nat) (cs : List Value) (S : List (Nat × Nat)) : Prop where
 bp : Blk W p 123 cs
 bs : Blk W sb 124 (ptrs S ++ List.replicate (m - S.length) (Value.pointer none))
 bt : Blk W tb 2 (i64s (List.replicate m 0))
 each : ∀ q, q ∈ S → SlotAt W ⟨q.1, q.2, rb, rc⟩ R wd (List.replicate (R.length * wd) 0)
 nd : (p :: sb :: tb :: S.flatMap fun q => [q.1, q.2]).Nodup
 new : ∀ b, b ∈ (p :: sb :: tb :: S.flatMap fun q => [q.1, q.2]) → w.heap.size ≤ b ∧ b < W.heap.size
 mod : Mod [] w W
theorem flat_mem {S : List (Nat × Nat)} {q : Nat × Nat} (h : q ∈ S) : q.1 ∈ (S.flatMap fun q => [q.1, q.2]) ∧ q.2 ∈ (S.flatMap fun q => [q.1, q.2]) :=
 ⟨List.mem_flatMap.2 ⟨q, h, by simp⟩, List.mem_flatMap.2 ⟨q, h, by simp⟩⟩
theorem RMade.next {w W W' : World} {p sb tb rb rc m : Nat} {R : List Row} {wd : Nat} {cs : List Value} {S : List (Nat × Nat)} {s nb : Nat} (h : RMade w W p sb tb rb rc m R wd cs S) (hrb : rb < w.heap.size) (hk : S.length < m)
  (hs : SlotAt W' ⟨s, nb, rb, rc⟩ R wd (List.replicate (R.length * wd) 0)) (h1 : W.heap.size ≤ s) (h2 : W.heap.size ≤ nb) (hM : Mod [] W W') :
  RMade w (W'.setCell ⟨sb, S.length, none⟩ (.pointer (some ⟨s, 0, none⟩))) p sb tb rb rc m R wd cs (S ++ [(s, nb)]) := by
 have MS := (Mod.refl [sb] W').setCell (p := ⟨sb, S.length, none⟩) (.inl (by simp)) (.pointer (some ⟨s, 0, none⟩))
 have hnd := h.nd
 have hnew := h.new
 have hsz := hM.size
 have e : (S ++ [(s, nb)]).flatMap (fun q => [q.1, q.2]) = S.flatMap (fun q => [q.1, q.2]) ++ [s, nb] := by simp
 have hsl := hs.blk.lt
 have hnl := hs.cnt.lt
 simp only at hsl hnl
 have hz : (W'.setCell ⟨sb, S.length, none⟩ (.pointer (some ⟨s, 0, none⟩))).heap.size = W'.heap.size := by simp [World.setCell]
 have hsb := hnew sb (by simp)
 have hp := hnew p (by simp)
 have ht := hnew tb (by simp)
 have hn1 : p ≠ sb ∧ p ≠ tb ∧ sb ≠ tb ∧ p ∉ S.flatMap (fun q => [q.1, q.2]) ∧ sb ∉ S.flatMap (fun q => [q.1, q.2]) ∧ tb ∉ S.flatMap (fun q => [q.1, q.2]) ∧ (S.flatMap fun q => [q.1, q.2]).Nodup := by
  simp only [List.nodup_cons, List.mem_cons, not_or] at hnd
  exact ⟨hnd.1.1, hnd.1.2.1, hnd.2.1.1, hnd.1.2.2, hnd.2.1.2, hnd.2.2.1, hnd.2.2.2⟩
 obtain ⟨n1, n2, n3, n4, n5, n6, n7⟩ := hn1
 refine ⟨MS.blk (hM.blk h.bp (by simp)) (by simpa using n1), ?_, MS.blk (hM.blk h.bt (by simp)) (by simp; omega), fun q hq => ?_, ?_, fun b hb => ?_, h.mod.trans' ((hM.mono (S' := [sb]) (by simp)).trans MS) (fun b hb => .inr (by simp at hb; omega))⟩
 ·have hb := (hM.blk h.bs (by simp)).set S.length (.pointer (some ⟨s, 0, none⟩))
  have hl : (ptrs S).length = S.length := by simp [ptrs]
  rw [List.set_append, if_neg (by omega), hl, Nat.sub_self] at hb
  obtain ⟨j, hj⟩ : ∃ j, m - S.length = j + 1 := ⟨m - S.length - 1, by omega⟩
  rw [hj, List.replicate_succ, List.set_cons_zero] at hb
  have e2 : ptrs (S ++ [(s, nb)]) ++ List.replicate (m - (S ++ [(s, nb)]).length) (Value.pointer none) = ptrs S ++ Value.pointer (some ⟨s, 0, none⟩) :: List.replicate j (Value.pointer none) := by
   rw [List.length_append, show m - (S.length + [(s, nb)].length) = j by simp; omega]
   simp [ptrs]
  rw [e2]; exact hb
 ·rcases List.mem_append.1 hq with hq | hq
  ·have hf := flat_mem hq
   exact ((h.each q hq).mod hM (by simp) (by simp) (by simp)).mod MS (by simp; exact fun e => n5 (e ▸ hf.1)) (by simp; exact fun e => n5 (e ▸ hf.2)) (by simp; omega)
  ·simp at hq; subst hq
   exact hs.mod MS (by simp; omega) (by simp; omega) (by simp; omega)
 ·rw [e]
  have hne : s ≠ nb := hs.ne.1
  have hfl : ∀ b, b ∈ S.flatMap (fun q => [q.1, q.2]) → b < W.heap.size := fun b hb => (hnew b (by simp only [List.mem_cons]; exact .inr (.inr (.inr hb)))).2
  simp only [List.nodup_cons, List.mem_cons, List.mem_append, List.not_mem_nil, or_false, not_or, List.nodup_append, List.nodup_nil, and_true, not_false_eq_true]
  refine ⟨⟨n1, n2, n4, by omega, by omega⟩, ⟨n3, n5, by omega, by omega⟩, ⟨n6, by omega, by omega⟩, n7, hne, fun a ha b hb => ?_⟩
  have := hfl a ha
  rcases hb with rfl | rfl <;> omega
 ·rw [e] at hb
  rw [hz]
  simp only [List.mem_cons, List.mem_append, List.not_mem_nil, or_false] at hb
  rcases hb with rfl | rfl | rfl | hb | rfl | rfl
  ·omega
  ·omega
  ·omega
  ·have := hnew b (by simp only [List.mem_cons]; exact .inr (.inr (.inr hb))); omega
  ·have := h.mod.size; omega
  ·have := h.mod.size; omega
set_option maxRecDepth 8000 in
set_option maxHeartbeats 3200000 in
theorem new_any {w : World} {rb rc : Nat} {R : List Row} {wd : Nat} (hr : RowsAt w rb R) (hg : Slot.Good R wd) (r : Rule) (n wi : Nat) (h1 : r.slots = (n : Int)) (h2 : r.window = (wi : Int)) (h3 : r.width = (wd : Int)) (hn : 1 ≤ n ∧ n ≤ 64) (hwi : 1 ≤ wi / n ∧ wi ≤ 1099511627776) (hl : 0 ≤ r.limit ∧ r.limit ≤ 4294967296) :
  Calls Try.prog 32 #[r.val, .slice (some ⟨rb, 0, none⟩) R.length rc] w (RNewPost rb rc R wd (ring0 r R wd) w) := by
 have hr0 : ring0 r R wd = ⟨wi / n, r.limit, r.smooth, 0, List.replicate (n + 1) 0, List.replicate (n + 1) (List.replicate (R.length * wd) 0)⟩ := by unfold ring0; rw [h1, h2]; rfl
 rw [hr0]
 have NS := Lib.hid (fun (W : World) (hM : Mod [] w W) => Slot.new_any (rc := rc) (hr.mod hM (by simp)) hg)
 have hrb := hr.1
 have hfew := hg.few
 have hwd := hg.wide
 have m1 := Lib.hid (make_ptrs (n + 1) (by omega))
 have m2 := Lib.hid (make_many (n + 1) (by omega))
 rw [show ((n + 1 : Nat) : Int) = (n : Int) + 1 by omega] at m1 m2
 obtain ⟨lim, window, burst, slots, cells, rows, width, track, smooth⟩ := r
 simp only at h1 h2 h3 hl
 subst h1 h2 h3
 have HL := Lib.hid hl
 have HWI := Lib.hid hwi
 have HG := Lib.hid hg
 have HR := Lib.hid hr
 simp only [Rule.val]
 have hn0 : ¬ (n : Int) = 0 := (nz hn.1).1
 have hn2 : ¬ n = 0 := (nz hn.1).2.1
 have hnm : ¬ (n : Int) = -1 := (nz hn.1).2.2
 obtain ⟨q, hq⟩ : ∃ q, wi / n = q := ⟨_, rfl⟩
 have hqe : (wi : Int) / (n : Int) = (q : Int) := by rw [← hq]; exact (Int.natCast_ediv wi n).symm
 have hqd : (wi : Int).tdiv (n : Int) = (q : Int) := by rw [Int.tdiv_eq_ediv_of_nonneg (Int.natCast_nonneg _)]; exact hqe
 rw [hq] at hwi HWI ⊢
 have hqw : q ≤ wi := by rw [← hq]; exact Nat.div_le_self _ _
 have hwq : wrap64 (q : Int) = (q : Int) := (wr (Int.natCast_nonneg _) (q40 hwi.2 hqw)).2
 have hk1 : Hid (IntKind.i64.wrap ((n : Int) + 1) = (n : Int) + 1) := Lib.hid (wr (n64 hn.2).1 (n64 hn.2).2).1
 have hkq : Hid (IntKind.i64.wrap (q : Int) = (q : Int)) := Lib.hid (wr (Int.natCast_nonneg _) (q40 hwi.2 hqw)).1
 obtain ⟨u, hu⟩ : ∃ u, R.length = u := ⟨_, rfl⟩
 have HU := Lib.hid hu
 rw [hu] at NS hfew ⊢
 have d1 : decide ((n : Int) < 1) = false := lt_one hn.1
 have d2 : decide ((64 : Int) < (n : Int)) = false := lt_64 hn.2
 have d3 : decide ((q : Int) < 1) = false := lt_one hwi.1
 have d4 : ((u : Int) == 0) = false := eq_no hfew.1
 have d5 : decide ((wd : Int) < 1) = false := lt_one hwd.1
 have RB := Lib.hid (Blk.new w [.int .i64 lim, .int .i64 (wi : Int), .int .i64 burst, .int .i64 (n : Int), .int .i64 cells, .int .i64 rows, .int .i64 (wd : Int), .int .i64 track, .bool smooth] 29)
 clear hr hg hq hu hl hr0
 go_enter Try.func32, Try.ntmps32
 go_wp2_with fail
 obtain ⟨w0, hw0⟩ : ∃ w0, w.alloc (.cells #[.int .i64 lim, .int .i64 (wi : Int), .int .i64 burst, .int .i64 (n : Int), .int .i64 cells, .int .i64 rows, .int .i64 (wd : Int), .int .i64 track, .bool smooth] 29) = w0 := ⟨_, rfl⟩
 have hs0 : w0.heap.size = w.heap.size + 1 := by rw [← hw0]; simp
 have M0 : Hid (Mod [] w w0) := Lib.hid (by rw [← hw0]; exact (Mod.refl [] w).alloc _)
 have R0 : Hid (Blk w0 w.heap.size 29 [.int .i64 lim, .int .i64 (wi : Int), .int .i64 burst, .int .i64 (n : Int), .int .i64 cells, .int .i64 rows, .int .i64 (wd : Int), .int .i64 track, .bool smooth]) := Lib.hid (by rw [← hw0]; exact RB.out)
 rw [hw0]
 clear RB hw0
 refine wp_region_makers' 19 74 (RRing w.heap.size n wi q lim smooth (.slice (some ⟨rb, 0, none⟩) u rc) u) (by kernel_rfl) (by kernel_rfl) (by simp) (rring_mod _ _ _ _ _ _ _ _) ?step ?done
 case step =>
  intro k o a W hk ho hM h1 h2 K hK
  have t1 := (h1 1 (by kernel_rfl)).trans (show _ = some (Value.slice (some ⟨rb, 0, none⟩) u rc) by simp)
  have t2 := (h1 2 (by kernel_rfl)).trans (show _ = some (Value.pointer (some ⟨w.heap.size, 0, none⟩)) by simp)
  have bl := hM.blk R0.out.drew (by simp)
  have c0 := bl.cell (i := 0) rfl
  have c1 := bl.cell (i := 1) rfl
  have c3 := bl.cell (i := 3) rfl
  have c8 := bl.cell (i := 8) rfl
  match k, hk with
  | 0, _ =>
    obtain rfl := Option.some.inj ho
    exact value_step (by simp [execOp, t2, go_sem]) (hK _ [] W ⟨rfl, rfl⟩ (Mod.refl _ _) (by simp))
  | 1, _ =>
    obtain rfl := Option.some.inj ho
    obtain ⟨v, bs, e1, rfl, _⟩ := h2 0 33 (by kernel_rfl)
    exact value_step (by simp [execOp, e1, go_sem, c3]) (hK _ [] W ⟨rfl, rfl⟩ (Mod.refl _ _) (by simp))
  | 2, _ =>
    obtain rfl := Option.some.inj ho
    obtain ⟨v, bs, e1, rfl, _⟩ := h2 1 34 (by kernel_rfl)
    exact value_step (v := .int .i64 ((n : Int) + 1)) (by simp [execOp, e1, go_sem, hk1.out]) (hK _ [] W ⟨rfl, rfl⟩ (Mod.refl _ _) (by simp))
  | 3, _ =>
    obtain rfl := Option.some.inj ho
    obtain ⟨v, bs, e1, rfl, _⟩ := h2 2 35 (by kernel_rfl)
    exact value_step (by simp [execOp, e1, go_sem, m1.out W]) (hK _ [W.heap.size] _ ⟨_, rfl, Blk.new W _ _, rfl⟩ ((Mod.refl [] W).alloc _) (by simp))
  | 4, _ =>
    obtain rfl := Option.some.inj ho
    exact value_step (by simp [execOp, t2, go_sem]) (hK _ [] W ⟨rfl, rfl⟩ (Mod.refl _ _) (by simp))
  | 5, _ =>
    obtain rfl := Option.some.inj ho
    obtain ⟨v, bs, e1, rfl, _⟩ := h2 4 37 (by kernel_rfl)
    exact value_step (by simp [execOp, e1, go_sem, c3]) (hK _ [] W ⟨rfl, rfl⟩ (Mod.refl _ _) (by simp))
  | 6, _ =>
    obtain rfl := Option.some.inj ho
    obtain ⟨v, bs, e1, rfl, _⟩ := h2 5 38 (by kernel_rfl)
    exact value_step (v := .int .i64 ((n : Int) + 1)) (by simp [execOp, e1, go_sem, hk1.out]) (hK _ [] W ⟨rfl, rfl⟩ (Mod.refl _ _) (by simp))
  | 7, _ =>
    obtain rfl := Option.some.inj ho
    obtain ⟨v, bs, e1, rfl, _⟩ := h2 6 39 (by kernel_rfl)
    exact value_step (by simp [execOp, e1, go_sem, m2.out W]) (hK _ [W.heap.size] _ ⟨_, rfl, Blk.new W _ _, rfl⟩ ((Mod.refl [] W).alloc _) (by simp))
  | 8, _ =>
    obtain rfl := Option.some.inj ho
    exact value_step (by simp [execOp, t2, go_sem]) (hK _ [] W ⟨rfl, rfl⟩ (Mod.refl _ _) (by simp))
  | 9, _ =>
    obtain rfl := Option.some.inj ho
    obtain ⟨v, bs, e1, rfl, _⟩ := h2 8 41 (by kernel_rfl)
    exact value_step (by simp [execOp, e1, go_sem, c1]) (hK _ [] W ⟨rfl, rfl⟩ (Mod.refl _ _) (by simp))
  | 10, _ =>
    obtain rfl := Option.some.inj ho
    exact value_step (by simp [execOp, t2, go_sem]) (hK _ [] W ⟨rfl, rfl⟩ (Mod.refl _ _) (by simp))
  | 11, _ =>
    obtain rfl := Option.some.inj ho
    obtain ⟨v, bs, e1, rfl, _⟩ := h2 10 43 (by kernel_rfl)
    exact value_step (by simp [execOp, e1, go_sem, c3]) (hK _ [] W ⟨rfl, rfl⟩ (Mod.refl _ _) (by simp))
  | 12, _ =>
    obtain rfl := Option.some.inj ho
    obtain ⟨v, bs, e1, rfl, _⟩ := h2 9 42 (by kernel_rfl)
    obtain ⟨v, bs, e2, rfl, _⟩ := h2 11 44 (by kernel_rfl)
    exact value_step (v := .int .i64 (q : Int)) (by simp [execOp, e1, e2, go_sem, hn0, hn2, hnm, hqd, hqe, hkq.out]) (hK _ [] W ⟨rfl, rfl⟩ (Mod.refl _ _) (by simp))
  | 13, _ =>
    obtain rfl := Option.some.inj ho
    exact value_step (by simp [execOp, t1, go_sem]) (hK _ [] W ⟨rfl, rfl⟩ (Mod.refl _ _) (by simp))
  | 14, _ =>
    obtain rfl := Option.some.inj ho
    obtain ⟨v, bs, e1, rfl, _⟩ := h2 13 46 (by kernel_rfl)
    exact value_step (v := .int .i64 (u : Int)) (by simp [execOp, e1, go_sem]) (hK _ [] W ⟨rfl, rfl⟩ (Mod.refl _ _) (by simp))
  | 15, _ =>
    obtain rfl := Option.some.inj ho
    exact value_step (by simp [execOp, t2, go_sem]) (hK _ [] W ⟨rfl, rfl⟩ (Mod.refl _ _) (by simp))
  | 16, _ =>
    obtain rfl := Option.some.inj ho
    obtain ⟨v, bs, e1, rfl, _⟩ := h2 15 48 (by kernel_rfl)
    exact value_step (by simp [execOp, e1, go_sem, c0]) (hK _ [] W ⟨rfl, rfl⟩ (Mod.refl _ _) (by simp))
  | 17, _ =>
    obtain rfl := Option.some.inj ho
    exact value_step (by simp [execOp, t2, go_sem]) (hK _ [] W ⟨rfl, rfl⟩ (Mod.refl _ _) (by simp))
  | 18, _ =>
    obtain rfl := Option.some.inj ho
    obtain ⟨v, bs, e1, rfl, _⟩ := h2 17 50 (by kernel_rfl)
    exact value_step (by simp [execOp, e1, go_sem, c8]) (hK _ [] W ⟨rfl, rfl⟩ (Mod.refl _ _) (by simp))
  | k + 19, hk => exact absurd hk (by omega)
 case done =>
  intro V Bs W hM hRV hAp
  obtain ⟨⟨e0, _⟩, _⟩ := hRV 0 (by omega)
  obtain ⟨⟨e1, _⟩, _⟩ := hRV 1 (by omega)
  obtain ⟨⟨e2, _⟩, _⟩ := hRV 2 (by omega)
  obtain ⟨⟨sb, e3, hS, s3⟩, f3⟩ := hRV 3 (by omega)
  obtain ⟨⟨e4, _⟩, _⟩ := hRV 4 (by omega)
  obtain ⟨⟨e5, _⟩, _⟩ := hRV 5 (by omega)
  obtain ⟨⟨e6, _⟩, _⟩ := hRV 6 (by omega)
  obtain ⟨⟨tb, e7, hT, s7⟩, f7⟩ := hRV 7 (by omega)
  obtain ⟨⟨e8, _⟩, _⟩ := hRV 8 (by omega)
  obtain ⟨⟨e9, _⟩, _⟩ := hRV 9 (by omega)
  obtain ⟨⟨e10, _⟩, _⟩ := hRV 10 (by omega)
  obtain ⟨⟨e11, _⟩, _⟩ := hRV 11 (by omega)
  obtain ⟨⟨e12, _⟩, _⟩ := hRV 12 (by omega)
  obtain ⟨⟨e13, _⟩, _⟩ := hRV 13 (by omega)
  obtain ⟨⟨e14, _⟩, _⟩ := hRV 14 (by omega)
  obtain ⟨⟨e15, _⟩, _⟩ := hRV 15 (by omega)
  obtain ⟨⟨e16, _⟩, _⟩ := hRV 16 (by omega)
  obtain ⟨⟨e17, _⟩, _⟩ := hRV 17 (by omega)
  obtain ⟨⟨e18, _⟩, _⟩ := hRV 18 (by omega)
  simp only [putAll, List.take_succ_cons, List.take_zero, List.drop_succ_cons, List.drop_zero, Nat.reduceAdd, e0, e1, e2, e3, e4, e5, e6, e7, e8, e9, e10, e11, e12, e13, e14, e15, e16, e17, e18]
  have hwW := hM.size
  have hdr : w0.drew.heap.size = w0.heap.size := rfl
  have A1 := hAp 3 7 (by omega) (by omega) (by omega)
  rw [s3] at A1 f3
  rw [s7] at A1 f7
  have hst : sb ≠ tb := fun h => A1 sb (by simp) (by simp [h])
  have hsf := f3 sb (by simp)
  have htf := f7 tb (by simp)
  have HSB : Hid (sb ≠ w.heap.size) := Lib.hid (by omega)
  have M1 := Lib.hid (M0.out.trans (((Mod.refl [] w0).drew.trans (show Mod [] w0.drew W from hM))))
  have R1 := Lib.hid (hM.blk R0.out.drew (by simp))
  have cs : List Value := []
  have MD : Hid (RMade w (W.alloc (.cells #[.slice (some ⟨sb, 0, none⟩) (n + 1) (n + 1), .slice (some ⟨tb, 0, none⟩) (n + 1) (n + 1), .int .i64 (q : Int), .int .i64 (u : Int), .int .i64 lim, .bool smooth, .int .i64 0] 123)) W.heap.size sb tb rb rc (n + 1) R wd [.slice (some ⟨sb, 0, none⟩) (n + 1) (n + 1), .slice (some ⟨tb, 0, none⟩) (n + 1) (n + 1), .int .i64 (q : Int), .int .i64 (u : Int), .int .i64 lim, .bool smooth, .int .i64 0] []) := by
   refine Lib.hid ⟨Blk.new W _ _, ?_, hT.alloc _, fun q hq => by simp at hq, ?_, fun b hb => ?_, M1.out.alloc _⟩
   ·simpa [ptrs] using hS.alloc _
   ·simp; omega
   ·simp at hb
    have : (W.alloc (.cells #[.slice (some ⟨sb, 0, none⟩) (n + 1) (n + 1), .slice (some ⟨tb, 0, none⟩) (n + 1) (n + 1), .int .i64 (q : Int), .int .i64 (u : Int), .int .i64 lim, .bool smooth, .int .i64 0] 123)).heap.size = W.heap.size + 1 := by simp
    rw [this]
    rcases hb with rfl | rfl | rfl <;> omega
  have RA := Lib.hid (R1.out.alloc (.cells #[.slice (some ⟨sb, 0, none⟩) (n + 1) (n + 1), .slice (some ⟨tb, 0, none⟩) (n + 1) (n + 1), .int .i64 (q : Int), .int .i64 (u : Int), .int .i64 lim, .bool smooth, .int .i64 0] 123))
  clear A1 s3 s7 e0 e1 e2 e3 e4 e5 e6 e7 e8 e9 e10 e11 e12 e13 e14 e15 e16 e17 e18 hRV hAp f3 f7 hS hT hM hdr cs
  go_wp2_with fail
  go_loopw [59] (fun i W2 => ∃ S : List (Nat × Nat), S.length ≤ n + 1 ∧ i = .int .i64 (S.length : Int) ∧ RMade w W2 W.heap.size sb tb rb rc (n + 1) R wd [.slice (some ⟨sb, 0, none⟩) (n + 1) (n + 1), .slice (some ⟨tb, 0, none⟩) (n + 1) (n + 1), .int .i64 (q : Int), .int .i64 (u : Int), .int .i64 lim, .bool smooth, .int .i64 0] S ∧ Blk W2 w.heap.size 29 [.int .i64 lim, .int .i64 (wi : Int), .int .i64 burst, .int .i64 (n : Int), .int .i64 cells, .int .i64 rows, .int .i64 (wd : Int), .int .i64 track, .bool smooth]) (fun i _ => n + 1 - (intOf i).toNat)
  case atStart => exact ⟨[], by simp, rfl, MD.out, RA.out⟩
  case round =>
   obtain ⟨S, hk, rfl, hMd, hRb⟩ := hrel
   have MD := Lib.hid hMd
   have RB := Lib.hid hRb
   by_cases hlt : S.length < n + 1
   ·have c0 := hMd.bp.cell (i := 0) rfl
    have r6 := hRb.cell (i := 6) rfl
    have IS := Lib.hid (show IsC wr.drew W.heap.size from isC_of_cell (w := wr) c0)
    have N1 := Lib.hid (NS.out wr.drew hMd.mod.drew)
    have NX : Hid (∀ W' s nb, SlotAt W' ⟨s, nb, rb, rc⟩ R wd (List.replicate (R.length * wd) 0) → wr.heap.size ≤ s → wr.heap.size ≤ nb → Mod [] wr W' → W'.cell? ⟨sb, S.length, none⟩ = some (.pointer none) ∧ W'.frozen? ⟨sb, S.length, none⟩ = false ∧ RMade w (W'.setCell ⟨sb, S.length, none⟩ (.pointer (some ⟨s, 0, none⟩))) W.heap.size sb tb rb rc (n + 1) R wd [.slice (some ⟨sb, 0, none⟩) (n + 1) (n + 1), .slice (some ⟨tb, 0, none⟩) (n + 1) (n + 1), .int .i64 (q : Int), .int .i64 (u : Int), .int .i64 lim, .bool smooth, .int .i64 0] (S ++ [(s, nb)])) := Lib.hid fun W' s nb a1 a2 a3 a4 => by
     have hb := a4.blk hMd.bs (by simp)
     refine ⟨hb.cell ?_, hb.free _, hMd.next hrb hlt a1 a2 a3 a4⟩
     have e : (ptrs S).length = S.length := by simp [ptrs]
     rw [List.getElem?_append_right (by rw [e]; exact Nat.le_refl _), e, Nat.sub_self, List.getElem?_replicate, if_pos (by exact Nat.sub_pos_of_lt hlt)]
    have hM0 := hMd.mod.size
    obtain ⟨k, hkk⟩ : ∃ k, S.length = k := ⟨_, rfl⟩
    have HKK := Lib.hid hkk
    rw [hkk] at NX hlt ⊢
    have dk : decide ((k : Int) < (n : Int) + 1) = true := by simp; omega
    clear hMd hRb hkk
    go_wp2_with fail
    refine Go.YtndekdafiaogmaaLex.wp_region_held [9] [3] [] (by kernel_rfl) (by kernel_rfl) ?_
    simp only [wpCut, List.take_succ_cons, List.take_zero, List.drop_succ_cons, List.drop_zero, List.cons_append, List.nil_append]
    go_wp2_with fail
    refine N1.out.mono ?_
    rintro e1 w1 ⟨s, nb, rfl, hS1, hb1, hb2, hM1⟩
    obtain ⟨k1, k2, hN1⟩ := NX.out w1 s nb hS1 hb1 hb2 ((Mod.refl [] wr).drew.trans hM1)
    have N2 := Lib.hid hN1
    have M1 := Lib.hid hM1
    have RB1 := Lib.hid (hM1.blk RB.out.drew (by simp))
    clear hS1 hb1 hb2 hM1 hN1
    go_wp2_with fail
    refine ⟨M1.out, ?_⟩
    go_wp2_with fail
    refine ⟨by kernel_rfl, ⟨⟨by simp, IS.out⟩, trivial⟩, ?_⟩
    go_wp2_with fail
    go_roundw
    case rel => exact ⟨S ++ [(s, nb)], by simp; have := HKK.out; omega, by simp; have := HKK.out; omega, N2.out, RB1.out.other (by simpa using HSB.out.symm) _⟩
    case measure => simp [intOf]; omega
   ·have hkn : S.length = n + 1 := by omega
    have HKN := Lib.hid hkn
    have dk : decide ((S.length : Int) < (n : Int) + 1) = false := by simp; omega
    clear hMd hRb
    go_wp2_with fail
    go_ret
    have hm := MD.out
    have hl : ∀ {α : Type} (z : α), (List.replicate (n + 1) z).length = n + 1 := fun z => List.length_replicate
    have hu := HU.out
    have hs := hm.bs
    rw [HKN.out, Nat.sub_self, List.replicate_zero, List.append_nil] at hs
    refine ⟨⟨W.heap.size, sb, tb, rb, rc, S⟩, rfl, rfl, ⟨?_, hs, hm.bt, by rw [hl]; exact HKN.out, by rw [hl, hl], fun i hi => ?_, hm.nd, fun h => ?_, ?_, ⟨HWI.out.1, Nat.le_trans hqw HWI.out.2⟩, HL.out, (by show (0 : Nat) < 4611686018427387904; decide)⟩, fun b hb => (hm.new b hb).1, hm.mod⟩
    ·rw [hl, hu]; exact hm.bp
    ·rw [hl] at hi
     have hi2 : i < S.length := by rw [HKN.out]; exact hi
     have e : (List.replicate (n + 1) (List.replicate (u * wd) (0 : Int))).getD i [] = List.replicate (u * wd) 0 := by
      rw [List.getD_eq_getElem?_getD, List.getElem?_replicate, if_pos hi]; rfl
     rw [e, ← hu]
     rw [sl_get (B := ⟨W.heap.size, sb, tb, rb, rc, S⟩) (List.getElem?_eq_getElem hi2)]
     exact hm.each _ (List.getElem_mem hi2)
    ·have := (hm.new rb h).1; omega
    ·rw [hl]; have := hn; omega
end Go.Proofs.Ytndekdafiaogmaa.Ring
end
