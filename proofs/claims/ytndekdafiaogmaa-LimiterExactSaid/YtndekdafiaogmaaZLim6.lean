/- limiter: plain facts for Check; a pool with one cell turned. -/
import Derived.Test.YtndekdafiaogmaaZLim5
set_option linter.unusedSimpArgs false
set_option linter.unusedVariables false
section
namespace Go.Proofs.Ytndekdafiaogmaa.Lim
open Go Go.RowKit Go.YtndekdafiaogmaaMem Go.YtndekdafiaogmaaLex Go.Proofs.Ytndekdafiaogmaa.Hash Go.Proofs.Ytndekdafiaogmaa.Arith Go.Proofs.Ytndekdafiaogmaa.Index Go.Proofs.Ytndekdafiaogmaa.Cell Go.Proofs.Ytndekdafiaogmaa.Slot
open Go.Proofs.Ytndekdafiaogmaa.Pool (PS putP remP pairs PB PoolAt firstIdle cellsV cellsV_get cellsV_set)
open Go.Proofs.Ytndekdafiaogmaa.Ring (Rs RiB RingAt estS addR waitS massS Small small_get leastV leastV_small)
open Go.Proofs.Ytndekdafiaogmaa.Sum (Ent OkE SB SumAt countE leastOf)
theorem putP_lt {s : PS} {key : List UInt8} {x : Cell} {i : Nat} (hfl : ∀ j ∈ s.fl, j < s.C.length) (h : (putP s key x).1 = some i) : i < (putP s key x).2.C.length := by
 unfold putP at *
 split at h
 ·rename_i j fl' hp hf
  split at h
  ·rename_i hk
   simp only at h
   cases h
   rw [if_pos hk]
   simp only [List.length_set]
   exact hfl i (by rw [hf]; simp)
  ·cases h
 ·cases h
theorem remP_fl {s : PS} {key : List UInt8} (hlen : s.C.length = s.S.length) (hfl : ∀ j ∈ s.fl, j < s.C.length) : ∀ j ∈ (remP s key).2.2.fl, j < (remP s key).2.2.C.length := by
 unfold remP
 split
 ·rename_i i hp
  intro j hj
  have hi : i < s.S.length := (List.getElem?_eq_some_iff.1 (placeOf_get hp)).1
  simp only [List.mem_cons] at hj
  rcases hj with rfl | hj
  ·show j < s.C.length; omega
  ·exact hfl j hj
 ·exact hfl
theorem settle_lt {c : Cf} {s : Lm} {now : Int} {key : List UInt8} {i : Nat} (hlen : s.pool.C.length = s.pool.S.length) (hfl : ∀ j ∈ s.pool.fl, j < s.pool.C.length) (h : (settle c s now key).1 = some i) : i < (settle c s now key).2.2.pool.C.length := by
 unfold settle at *
 split at h
 ·rename_i k hp
  have hi : k < s.pool.S.length := (List.getElem?_eq_some_iff.1 (placeOf_get hp)).1
  simp only at h ⊢
  cases h
  show i < s.pool.C.length
  omega
 ·split at h
  ·rename_i hf
   rw [if_pos hf]
   split at h
   ·cases h
   ·rename_i out hv
    exact putP_lt (remP_fl hlen hfl) h
  ·rename_i hf
   rw [if_neg hf]
   exact putP_lt hfl h
theorem set_same {α : Type} {l : List α} {i : Nat} {v : α} (h : l[i]? = some v) : l.set i v = l := by
 apply List.ext_getElem?
 intro j
 rw [List.getElem?_set]
 split
 ·rename_i e
  subst e
  have := (List.getElem?_eq_some_iff.1 h).1
  rw [if_pos this, h]
 ·rfl
section
variable {w : World}
theorem PoolAt.poke {B : PB} {S : List (Option (List UInt8))} {fl : List Nat} {C : List Cell} {i : Nat} {x : Cell} (h : PoolAt w B S fl C) (hx : C[i]? = some x) {z u : Int} (hok : ({ x with full := z, used := u } : Cell).ok) :
  PoolAt ((w.setCell ⟨B.cb, i * 4, none⟩ (.int .i64 z)).setCell ⟨B.cb, i * 4 + 3, none⟩ (.int .i64 u)) B S fl (C.set i { x with full := z, used := u }) := by
 have hi := (List.getElem?_eq_some_iff.1 hx).1
 have MS := ((Mod.refl [B.cb] w).setCell (p := ⟨B.cb, i * 4, none⟩) (.inl (by simp)) (.int .i64 z)).setCell (p := ⟨B.cb, i * 4 + 3, none⟩) (.inl (by simp)) (.int .i64 u)
 refine ⟨MS.blk h.blk (by simpa using h.ne.1), h.idx.mod MS (fun b hb hb' => by simp at hb'; subst hb'; exact h.ne.2.2 hb), ?_, by rw [List.length_set]; exact h.len, fun y hy => ?_, h.whole, h.ne⟩
 ·have h1 := (h.cel.set (i * 4) (.int .i64 z)).set (i * 4 + 3) (.int .i64 u)
  rw [cellsV_set C i _ hi]
  have g1 : ((cellsV C).set (i * 4) (Value.int .i64 z))[i * 4 + 1]? = some (.int .i64 x.since) := by
   rw [List.getElem?_set_ne (by omega), cellsV_get C i x hx 1 (by omega)]; rfl
  have g2 : ((cellsV C).set (i * 4) (Value.int .i64 z))[i * 4 + 2]? = some (.int .i64 x.carry) := by
   rw [List.getElem?_set_ne (by omega), cellsV_get C i x hx 2 (by omega)]; rfl
  simp only
  rw [set_same g1, set_same g2]
  exact h1
 ·rcases List.mem_or_eq_of_mem_set hy with hy | rfl
  ·exact h.ok y hy
  ·exact hok
variable {B : LB} {c : Cf} {s : Lm}
theorem fl_lt (h : LimAt w B c s) : ∀ j ∈ s.pool.fl, j < s.pool.C.length := by
 intro j hj
 obtain ⟨k, hk⟩ := List.getElem?_of_mem hj
 have h0 := h.pool.len
 obtain ⟨b1, b2, b3, t, bs, nx, T, rfl', hI⟩ := h.pool.idx
 have := (List.getElem?_eq_some_iff.1 (hI.sto.free k j hk).1).1
 omega
theorem OwnE.base {w : World} {A B : Nat} {v : Value} {l : List Ev} (h : OwnE w B v l) (hA : A ≤ B) : OwnE w A v l := by
 unfold OwnE World.ownsRow at *
 refine ⟨h.1, ?_⟩
 rcases h.2 with h2 | ⟨g, cap, cur, h2, h3, h4⟩
 ·exact .inl h2
 ·exact .inr ⟨g, cap, cur, h2, by omega, h4⟩
def CheckPost (B : LB) (c : Cf) (q : Ans × List Ev × Lm) (w : World) (e : Ending) (w' : World) : Prop :=
 ∃ v, e = .returned (.tuple #[q.1.val, v]) ∧ OwnE w' w.heap.size v q.2.1 ∧ LimAt w' B c q.2.2 ∧ Mod B.all w w'
theorem Inv.few {K : Nat} (h : Inv c s K) : Few s := by
 have h0 := h.big
 have h1 := h.al
 have h2 := h.de
 have h3 := h.bad
 exact ⟨by omega, by omega, by omega⟩
set_option maxRecDepth 8000 in
set_option maxHeartbeats 3200000 in
theorem check_refused {K : Nat} (h : LimAt w B c s) (hi : Inv c s K) (now held cost : Int) (key : List UInt8) (a : Ans) (ha : refuse c.r now held cost = some a) :
  Calls Try.prog 20 #[.pointer (some ⟨B.p, 0, none⟩), .int .i64 now, .int .i64 held, .string ⟨key.toArray⟩, .int .i64 cost] w (CheckPost B c (a, [], s.count a.verdict) w) := by
 have RE := Lib.hid (refuse_any (h.mod0 ((Mod.refl [] w).alloc (.cells #[.int .i64 0, .int .i64 0, .int .i64 0] 39))) now held cost)
 rw [ha] at RE
 have HH := Lib.hid h
 have HF := Lib.hid hi.few
 have hp := h.blk.lt
 have BX := Lib.hid (Blk.new w [.int .i64 0, .int .i64 0, .int .i64 0] 39)
 have M0 := Lib.hid ((Mod.refl [] w).alloc (.cells #[.int .i64 0, .int .i64 0, .int .i64 0] 39))
 obtain ⟨av, ar, at_⟩ := a
 simp only [ansO, Option.getD_some, Ans.val, Option.isSome_some] at RE ⊢
 clear h hi ha
 go_enter Try.func20, Try.ntmps20
 go_wp2_with fail
 refine RE.out.mono ?_
 rintro e1 w1 ⟨rfl, hM1⟩
 have M1 := Lib.hid (M0.out.trans hM1)
 have BX1 := Lib.hid (hM1.blk BX.out (by simp))
 have AB := Lib.hid (Blk.new w1 [.int .i64 av, .int .i64 ar, .int .i64 at_] 39)
 have A1 := Lib.hid ((Mod.refl [] w1).alloc (.cells #[.int .i64 av, .int .i64 ar, .int .i64 at_] 39))
 have CT := Lib.hid (tally_any (HH.out.mod0 (M1.out.trans A1.out)) HF.out av)
 have hz1 := M1.out.size
 have hbl := BX1.out.lt
 clear hM1
 go_wp2_with fail
 refine CT.out.mono ?_
 rintro e2 w2 ⟨⟨v2, rfl⟩, hL2, hM2⟩
 have L2 := Lib.hid hL2
 have AB2 := Lib.hid (hM2.blk AB.out (by simp; omega))
 have BX2 := Lib.hid (hM2.blk (A1.out.blk BX1.out (by simp)) (by simp; omega))
 have M2 : Hid (Mod B.all w w2) := Lib.hid (((M1.out.trans A1.out).mono (by simp)).trans (hM2.mono (fun b hb => .inl (by simp at hb; subst hb; exact all_p B))))
 have a0 := AB2.out.cell (i := 0) rfl
 have a1 := AB2.out.cell (i := 1) rfl
 have a2 := AB2.out.cell (i := 2) rfl
 have x0 := BX2.out.cell (i := 0) rfl
 have x1 := BX2.out.cell (i := 1) rfl
 have x2 := BX2.out.cell (i := 2) rfl
 have f0 := BX2.out.free 0
 have f1 := BX2.out.free 1
 have f2 := BX2.out.free 2
 have hne : ¬ w1.heap.size = w.heap.size := by omega
 clear hL2 hM2
 go_wp2_with fail
 have MF := ((((Mod.refl [w.heap.size] w2).setCell (p := ⟨w.heap.size, 0, none⟩) (.inl (by simp)) (.int .i64 av)).setCell (p := ⟨w.heap.size, 1, none⟩) (.inl (by simp)) (.int .i64 ar)).setCell (p := ⟨w.heap.size, 2, none⟩) (.inl (by simp)) (.int .i64 at_))
 refine bodyPost_ret (v := .tuple #[.agg #[.int .i64 av, .int .i64 ar, .int .i64 at_], .slice none 0 0]) (Pool.results_row_tmp (p := 10) (u := 11) (ty := 39) rfl _ _ w.heap.size 39 #[.int .i64 av, .int .i64 ar, .int .i64 at_] (0, 0) _ rfl (((BX2.out.set 0 (.int .i64 av)).set 1 (.int .i64 ar)).set 2 (.int .i64 at_)) Try.underlying39 rfl (info_size ans_info)) rfl ⟨_, rfl, OwnE.nil _ _, L2.out.mod MF (fun b hb hb' => ?_) (fun hb' => ?_), M2.out.trans' MF (fun b hb => .inr (by simp at hb; omega))⟩
 ·have := HH.out.lt b hb; simp at hb'; omega
 ·have := (HH.out.ring.each 0 (by have := HH.out.ring.few.1; omega)).rows.1; simp at hb'; rw [← hb'] at this; exact absurd this (Nat.lt_irrefl _)
end
end Go.Proofs.Ytndekdafiaogmaa.Lim
end
