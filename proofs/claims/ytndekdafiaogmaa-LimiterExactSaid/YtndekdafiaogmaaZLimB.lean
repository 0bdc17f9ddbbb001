/- limiter: Check. | limiter: Peek. (written by wip/tools/gpeek.py) | limiter: New. | limiter's laws: plans, calls, gaps, costs. | limiter's laws: Light, Gap, cost; plans and calls as arguments. | limiter's laws: plain facts of a check and a peek. -/
import Derived.Test.YtndekdafiaogmaaZLim7
import Derived.Deep.Cut
import Derived.Test.YtndekdafiaogmaaZRing6
import Derived.Test.YtndekdafiaogmaaZSlot
import Derived.Test.YtndekdafiaogmaaZPool
import Derived.Test.YtndekdafiaogmaaZSum
import Derived.Test.YtndekdafiaogmaaZArg
import Derived.Test.YtndekdafiaogmaaZLow
set_option linter.unusedSimpArgs false
set_option linter.unusedVariables false
section
namespace Go.Proofs.Ytndekdafiaogmaa.Lim
open Go Go.RowKit Go.YtndekdafiaogmaaMem Go.YtndekdafiaogmaaLex Go.Proofs.Ytndekdafiaogmaa.Hash Go.Proofs.Ytndekdafiaogmaa.Arith Go.Proofs.Ytndekdafiaogmaa.Index Go.Proofs.Ytndekdafiaogmaa.Cell Go.Proofs.Ytndekdafiaogmaa.Slot
open Go.Proofs.Ytndekdafiaogmaa.Pool (PS putP remP pairs PB PoolAt firstIdle)
open Go.Proofs.Ytndekdafiaogmaa.Ring (Rs RiB RingAt estS addR waitS massS Small small_get leastV leastV_small)
open Go.Proofs.Ytndekdafiaogmaa.Sum (Ent OkE SB SumAt countE leastOf)
theorem refuse_none {r : Rule} {now held cost : Int} (h : refuse r now held cost = none) : (1 ≤ cost ∧ cost ≤ r.burst) ∧ now < 4611686018427387904 ∧ held ≤ 0 := by
 unfold refuse at h
 split at h
 ·cases h
 ·split at h
  ·cases h
  ·split at h
   ·cases h
   ·omega
section
variable {w : World} {B : LB} {c : Cf} {s : Lm}
theorem check_any {K : Nat} (h : LimAt w B c s) (hi : Inv c s K) (hc : c.Ok) (hK : K + c.step ≤ 4194304) {now : Nat} (hn : s.ring.now ≤ now) (held : Int) (key : List UInt8) (hl : key.length ≤ 1000000) (cost : Int) :
  Calls Try.prog 20 #[.pointer (some ⟨B.p, 0, none⟩), .int .i64 (now : Int), .int .i64 held, .string ⟨key.toArray⟩, .int .i64 cost] w (CheckPost B c (check c s now held key cost) w) := by
 cases hr : refuse c.r now held cost with
 | some a =>
   have e : check c s now held key cost = (a, [], s.count a.verdict) := by unfold check; rw [hr]
   rw [e]
   exact check_refused h hi now held cost key a hr
 | none =>
   obtain ⟨hcost, hnow, _⟩ := refuse_none hr
   have hnow' : now < 4611686018427387904 := by omega
   have e : check c s now held key cost = ((answer c (settle c ((s.to (now : Int)).offered c key cost) now key).1 (settle c ((s.to (now : Int)).offered c key cost) now key).2.2 now key cost).1, (settle c ((s.to (now : Int)).offered c key cost) now key).2.1, (answer c (settle c ((s.to (now : Int)).offered c key cost) now key).1 (settle c ((s.to (now : Int)).offered c key cost) now key).2.2 now key cost).2.count (answer c (settle c ((s.to (now : Int)).offered c key cost) now key).1 (settle c ((s.to (now : Int)).offered c key cost) now key).2.2 now key cost).1.verdict) := by unfold check; rw [hr]
   rw [e]
   have hlt0 := fun i => settle_lt (i := i) (c := c) (s := (s.to (now : Int)).offered c key cost) (now := now) (key := key) hi.len (show ∀ j ∈ s.pool.fl, j < s.pool.C.length from fl_lt h)
   rcases hq : settle c ((s.to (now : Int)).offered c key cost) now key with ⟨o, ev, s4⟩
   rw [hq] at hlt0
   simp only
   cases o with
   | none =>
     by_cases hlt : sum (estS c.R c.wd s4.ring key) cost ≤ c.r.limit
     ·have e2 : answer c none s4 now key cost = (⟨1, bounded c.r (c.r.limit - estS c.R c.wd (addR c.R c.wd s4.ring key cost) key), 0⟩, { s4 with ring := addR c.R c.wd s4.ring key cost }) := by
       unfold answer ringAsk; simp only; rw [if_pos hlt]
      rw [e2]
      exact check_ring_yes h hi hc hK hn hnow' held key hl cost hcost hr hq hlt
     ·have e2 : answer c none s4 now key cost = (⟨2, bounded c.r (c.r.limit - estS c.R c.wd s4.ring key), waitS c.R c.wd s4.ring key cost⟩, s4) := by
       unfold answer ringAsk; simp only; rw [if_neg hlt]
      rw [e2]
      exact check_ring_no h hi hc hK hn hnow' held key hl cost hcost hr hq (by omega)
   | some i =>
     by_cases hlt : cost ≤ (s4.pool.C.getD i .zero).room c.r.pace now
     ·have e2 := fun y (hy : y = { s4.pool.C.getD i .zero with full := max (s4.pool.C.getD i .zero).full now + cost * c.r.pace.unit, used := (s4.pool.C.getD i .zero).used + cost }) => show answer c (some i) s4 now key cost = (⟨1, y.room c.r.pace now, 0⟩, { s4 with pool := { s4.pool with C := s4.pool.C.set i y } }) by
       rw [hy]; unfold answer cellAsk; simp only; rw [if_pos hlt]
      rw [e2 _ rfl]
      exact check_take h hi hc hK hn hnow' held key hl cost hcost hr hq rfl hlt
     ·have hil := hlt0 i rfl
      have hx : s4.pool.C[i]? = some (s4.pool.C.getD i .zero) := by rw [List.getD_eq_getElem?_getD, List.getElem?_eq_getElem hil]; rfl
      have e2 : answer c (some i) s4 now key cost = (⟨2, (s4.pool.C.getD i .zero).room c.r.pace now, (s4.pool.C.getD i .zero).wait c.r.pace now cost⟩, s4) := by
       unfold answer cellAsk; simp only; rw [if_neg hlt, set_same hx]
      rw [e2]
      exact check_deny h hi hc hK hn hnow' held key hl cost hcost hr hq rfl (by omega)
end
end Go.Proofs.Ytndekdafiaogmaa.Lim
end
section
namespace Go.Proofs.Ytndekdafiaogmaa.Lim
open Go Go.RowKit Go.YtndekdafiaogmaaMem Go.YtndekdafiaogmaaLex Go.Proofs.Ytndekdafiaogmaa.Hash Go.Proofs.Ytndekdafiaogmaa.Arith Go.Proofs.Ytndekdafiaogmaa.Index Go.Proofs.Ytndekdafiaogmaa.Cell Go.Proofs.Ytndekdafiaogmaa.Slot
open Go.Proofs.Ytndekdafiaogmaa.Pool (PS putP remP pairs PB PoolAt firstIdle)
open Go.Proofs.Ytndekdafiaogmaa.Ring (Rs RiB RingAt estS addR waitS massS Small small_get leastV leastV_small)
open Go.Proofs.Ytndekdafiaogmaa.Sum (Ent OkE SB SumAt countE leastOf)
theorem cellMod {S : List Nat} {w w' : World} {g o : Nat} {x : Cell} (h : CellAt w g o x) (hm : Mod S w w') (hg : g ∉ S) : CellAt w' g o x := by
 obtain ⟨c0, c1, c2, c3, f0, f3⟩ := h
 have hl : g < w.heap.size := cell_lt c0
 exact ⟨(hm.cell (a := ⟨g, o, none⟩) hl hg).trans c0, (hm.cell (a := ⟨g, o + 1, none⟩) hl hg).trans c1, (hm.cell (a := ⟨g, o + 2, none⟩) hl hg).trans c2, (hm.cell (a := ⟨g, o + 3, none⟩) hl hg).trans c3, (hm.frozen (a := ⟨g, o, none⟩) hl hg).trans f0, (hm.frozen (a := ⟨g, o + 3, none⟩) hl hg).trans f3⟩
def PeekPost (B : LB) (c : Cf) (a : Ans) (s : Lm) (w : World) (e : Ending) (w' : World) : Prop := e = .returned a.val ∧ LimAt w' B c s ∧ Mod B.all w w'
section
variable {w : World} {B : LB} {c : Cf} {s : Lm}
set_option maxRecDepth 8000 in
set_option maxHeartbeats 6400000 in
theorem peek_own {K : Nat} (h : LimAt w B c s) (hi : Inv c s K) (hc : c.Ok) {now : Nat} (hn : s.ring.now ≤ now) (hnow : now < 4611686018427387904) (held : Int) (key : List UInt8) (hl : key.length ≤ 1000000) (cost : Int) (hcost : 1 ≤ cost ∧ cost ≤ c.r.burst) (hr : refuse c.r now held cost = none) {i : Nat} {x : Cell} (hpo : placeOf s.pool.S key = some i) (hx : s.pool.C.getD i .zero = x) :
  Calls Try.prog 25 #[.pointer (some ⟨B.p, 0, none⟩), .int .i64 (now : Int), .int .i64 held, .string ⟨key.toArray⟩, .int .i64 cost] w (PeekPost B c ⟨if 0 < x.wait c.r.pace now cost then 2 else 1, x.room c.r.pace now, x.wait c.r.pace now cost⟩ (s.to now) w) := by
 have RE := Lib.hid (refuse_any (h.mod0 ((Mod.refl [] w).alloc (.cells #[.int .i64 0, .int .i64 0, .int .i64 0] 39))) now held cost)
 rw [hr] at RE
 simp only [ansO, Option.getD_none, Ans.val, Option.isSome_none] at RE
 obtain ⟨it, et⟩ := hi.to hn hnow
 have hst : s.ring.st.length ≤ 65 := h.ring.few.2
 have hlim := hc.limit
 have hbur := hc.burst
 have hbig := hi.big
 have htame := hc.tame (now := (now : Int)) (by omega)
 have TM := Lib.hid htame
 have HSM := Lib.hid it.small
 have TO := Lib.hid (fun W (hM : Mod [] w W) => Ring.to_any (h.ring.mod hM (by simp) (by simp)) now hnow)
 have FI := Lib.hid (fun W (hL : LimAt W B c (s.to now)) => Pool.find_any hL.pool key hl)
 have ID := Lib.hid (fun W (hL : LimAt W B c (s.to now)) => Pool.idle_any hL.pool c.r.pace (now : Int) htame.ok (by have h1 := htame.window; unfold I64; omega))
 have FU := Lib.hid (fun W (hL : LimAt W B c (s.to now)) => Pool.full_any hL.pool)
 have hfi : firstIdle c.r.pace (now : Int) (pairs (s.to now).pool.S (s.to now).pool.C) = (match (pairs s.pool.S s.pool.C).find? (fun x => x.2.idle c.r.pace now) with | some x => (Value.string ⟨x.1.toArray⟩, true) | none => (.string ⟨#[]⟩, false)) := rfl
 unfold Pool.IdlePost at ID
 have HLT := Lib.hid h.lt
 have NB : Hid (∀ b, w.heap.size ≤ b → b ∉ B.all) := Lib.hid fun b hb hb' => by have := h.lt b hb'; omega
 have HRB := Lib.hid (show B.Q.rb < w.heap.size from (h.ring.each 0 (by have := h.ring.few.1; omega)).rows.1)
 have HH := Lib.hid h
 have hp := h.blk.lt
 have hpn : ¬ B.p = w.heap.size := by omega
 have BX := Lib.hid (Blk.new w [.int .i64 0, .int .i64 0, .int .i64 0] 39)
 have M0 := Lib.hid ((Mod.refl [] w).alloc (.cells #[.int .i64 0, .int .i64 0, .int .i64 0] 39))
 obtain ⟨iv, hiv⟩ : ∃ iv, (firstIdle c.r.pace (now : Int) (pairs (s.to now).pool.S (s.to now).pool.C)).1 = iv := ⟨_, rfl⟩
 obtain ⟨ib, hib⟩ : ∃ ib, (firstIdle c.r.pace (now : Int) (pairs (s.to now).pool.S (s.to now).pool.C)).2 = ib := ⟨_, rfl⟩
 rw [hiv, hib] at ID
 have hik : (idleK c.r (now : Int) (pairs s.pool.S s.pool.C)).isNone = !ib := by
  unfold idleK
  rw [hfi] at hib
  cases hfd : (pairs s.pool.S s.pool.C).find? (fun x => x.2.idle c.r.pace now) with
  | none => rw [hfd] at hib; simp only at hib; subst hib; rfl
  | some x => rw [hfd] at hib; simp only at hib; subst hib; rfl
 have hil : i < s.pool.C.length := by
  have h1 : i < s.pool.S.length := (List.getElem?_eq_some_iff.1 (placeOf_get hpo)).1
  rw [hi.len]; exact h1
 have hxg : s.pool.C[i]? = some x := by rw [← hx, List.getD_eq_getElem?_getD, List.getElem?_eq_getElem hil]; rfl
 have hxi : CellIn c.r.pace K now x := by have := it.cells x (List.mem_of_getElem? hxg); rw [et] at this; exact this
 have HMI := hxi.mild htame (by omega)
 have HXG := Lib.hid hxg
 have HPO := Lib.hid hpo
 have RMy := Lib.hid (fun W : World => Cell.room_any x c.r.pace now HMI TM.out W)
 have WTy := Lib.hid (fun W : World => Cell.wait_any x c.r.pace now cost HMI TM.out ⟨hcost.1, hcost.2⟩ W)
 obtain ⟨rm, hrm⟩ : ∃ rm, x.room c.r.pace now = rm := ⟨_, rfl⟩
 rw [hrm] at RMy ⊢
 obtain ⟨wt, hwt⟩ : ∃ wt, x.wait c.r.pace now cost = wt := ⟨_, rfl⟩
 rw [hwt] at WTy ⊢
 obtain ⟨vd, hvd⟩ : ∃ vd : Int, (if 0 < wt then (2 : Int) else 1) = vd := ⟨_, rfl⟩
 have HVD := Lib.hid hvd
 rw [hvd]
 clear hvd
 have RM := Lib.hid RMy.out
 have WT := Lib.hid WTy.out
 simp only [Cell.val, Pace.val] at RM WT
 clear h hi hc hn hl hr it et hst hlim hbur hbig htame hfi hiv hcost hpo hx hil hxg hxi HMI RMy WTy hrm hwt hik hib
 go_enter Try.func25, Try.ntmps25
 go_wp2_with fail
 refine RE.out.mono ?_
 rintro e1 w1 ⟨rfl, hM1⟩
 have M1 := Lib.hid ((M0.out.trans hM1).alloc (.cells #[.int .i64 0, .int .i64 0, .int .i64 0] 39))
 have BX1 := Lib.hid ((hM1.blk BX.out (by simp)).alloc (.cells #[.int .i64 0, .int .i64 0, .int .i64 0] 39))
 have k14 := (HH.out.mod0 M1.out).blk.cell (i := 14) rfl
 clear hM1
 go_wp2_with fail
 refine (TO.out _ M1.out).mono ?_
 rintro e2 w2 ⟨⟨v2, rfl⟩, hR2, hM2⟩
 have L2 : Hid (LimAt w2 B c (s.to now)) := Lib.hid ((HH.out.mod0 M1.out).setRing hR2 hM2 (fun b hb => by simp at hb; subst hb; simp [RiB.own]))
 have hM2' : Mod B.all _ w2 := hM2.mono (fun b hb => .inl (by simp at hb; subst hb; exact all_Q B (by simp [RiB.own])))
 have M2 := Lib.hid ((M1.out.mono (S' := B.all) (by simp)).trans hM2')
 have BX2 := Lib.hid (hM2'.blk BX1.out (NB.out _ (Nat.le_refl _)))
 have k13 := L2.out.blk.cell (i := 13) rfl
 clear hR2 hM2 hM2' k14
 go_wp2_with fail
 refine (FI.out w2 L2.out).mono ?_
 rintro e3 w3 ⟨rfl, hM3⟩
 have L3 := Lib.hid (L2.out.mod0 hM3)
 have M3 := Lib.hid (M2.out.trans (hM3.mono (by simp)))
 have BX3 := Lib.hid (hM3.blk BX2.out (by simp))
 clear hM3 k13
 rw [show Pool.cellAt B.P (placeOf (s.to (now : Int)).pool.S key) = .pointer (some ⟨B.P.cb, i * 4, none⟩) from by have e := HPO.out; show Pool.cellAt B.P (placeOf s.pool.S key) = _; rw [e]; rfl]
 have k13 := L3.out.blk.cell (i := 13) rfl
 have j9 := L3.out.blk.cell (i := 9) rfl
 have j10 := L3.out.blk.cell (i := 10) rfl
 have j11 := L3.out.blk.cell (i := 11) rfl
 have j12 := L3.out.blk.cell (i := 12) rfl
 go_wp2_with fail
 refine Go.YtndekdafiaogmaaLex.wp_region_lex (by kernel_rfl) (by kernel_rfl) ?_
 go_wp2_with fail
 refine (ID.out _ (L3.out.mod0 (Mod.refl [] w3).drew)).mono ?_
 rintro e4 w40 ⟨rfl, hM4a⟩
 have hM40 := (Mod.refl [] w3).drew.trans hM4a
 have L40 := Lib.hid (L3.out.mod0 hM40)
 have M40 := Lib.hid (M3.out.trans (hM40.mono (by simp)))
 have BX40 := Lib.hid (hM40.blk BX3.out (by simp))
 clear hM40 hM4a k13 j9 j10 j11 j12
 have k13 := L40.out.blk.cell (i := 13) rfl
 go_wp2_with fail
 refine ⟨by kernel_rfl, ?_⟩
 go_upto_region 10 with (fail)
 obtain ⟨w4, hw4⟩ : ∃ w4, w40 = w4 := ⟨_, rfl⟩
 subst hw4
 have L4 := Lib.hid L40.out
 have M4 := Lib.hid M40.out
 have BX4 := Lib.hid BX40.out
 have CA4 := Lib.hid (PoolAt.cellAt' L4.out.pool HXG.out).1
 have HGN : Hid (B.P.cb ≠ w40.heap.size) := Lib.hid (by have := cell_lt CA4.out.c0; simp only at this; omega)
 have hs16lt : Hid (w.heap.size < w40.heap.size) := Lib.hid BX4.out.lt
 have hs16 : Hid (w.heap.size ≤ w40.heap.size) := Lib.hid (by have := hs16lt.out; omega)
 have A4 := Lib.hid ((Mod.refl [] w40).alloc (.cells #[.int .i64 1, .int .i64 0, .int .i64 0] 39))
 have AB5 := Lib.hid (Blk.new w40 [.int .i64 1, .int .i64 0, .int .i64 0] 39)
 have L5 := Lib.hid (L4.out.mod0 A4.out)
 have BX5 := Lib.hid (A4.out.blk BX4.out (by simp))
 have N5 := Lib.hid (A4.out.mono (S' := B.all) (by simp))
 have CA5 := Lib.hid (cellMod CA4.out A4.out (by simp))
 have j9 := L5.out.blk.cell (i := 9) rfl
 have j10 := L5.out.blk.cell (i := 10) rfl
 have j11 := L5.out.blk.cell (i := 11) rfl
 have j12 := L5.out.blk.cell (i := 12) rfl
 have y0 := CA5.out.c0
 have y1 := CA5.out.c1
 have y2 := CA5.out.c2
 have y3 := CA5.out.c3
 go_wp2_with fail
 refine Go.YtndekdafiaogmaaLex.wp_region_lex (by kernel_rfl) (by kernel_rfl) ?_
 go_wp2_with fail
 refine (RM.out _).mono ?_
 rintro e6 w6 ⟨rfl, hM6a⟩
 have hM6 := (Mod.refl [] (w40.alloc (.cells #[.int .i64 1, .int .i64 0, .int .i64 0] 39))).drew.trans hM6a
 have CA6 := Lib.hid (cellMod CA5.out hM6 (by simp))
 have Q6 := Lib.hid hM6
 have AB6 := Lib.hid (hM6.blk AB5.out (by simp))
 have L6 := Lib.hid (L5.out.mod0 hM6)
 have BX6 := Lib.hid (hM6.blk BX5.out (by simp))
 have N6 := Lib.hid (N5.out.trans (hM6.mono (S' := B.all) (by simp)))
 clear hM6 hM6a
 clear j9 j10 j11 j12 y0 y1 y2 y3
 have b1 := AB6.out.cell (i := 1) rfl
 have g1 := AB6.out.free 1
 go_wp2_with fail
 refine ⟨by kernel_rfl, ?_⟩
 go_upto_region 13 with (fail)
 have MS7 := Lib.hid ((Mod.refl [w40.heap.size] w6).setCell (p := ⟨w40.heap.size, 1, none⟩) (.inl (by simp)) (.int .i64 rm))
 have AB7 := Lib.hid (AB6.out.set 1 (.int .i64 rm))
 have L7 := Lib.hid (L6.out.mod MS7.out (fun b hb hb' => NB.out w40.heap.size hs16.out (by simp at hb'; rw [← hb']; exact hb)) (fun hb' => by have := HRB.out; have := hs16.out; simp at hb'; omega))
 have BX7 := Lib.hid (MS7.out.blk BX6.out (by have := hs16lt.out; simp; omega))
 have N7 := Lib.hid (N6.out.trans' MS7.out (fun b hb => .inr (by simp at hb; omega)))
 obtain ⟨w7, hw7⟩ : ∃ w7, w6.setCell ⟨w40.heap.size, 1, none⟩ (.int .i64 rm) = w7 := ⟨_, rfl⟩
 rw [hw7] at MS7 AB7 L7 BX7 N7
 simp only [List.set_cons_zero, List.set_cons_succ] at AB7
 have CA7 := Lib.hid (cellMod CA6.out MS7.out (by have := HGN.out; simp; omega))
 rw [hw7]
 clear hw7 b1 g1
 have j9 := L7.out.blk.cell (i := 9) rfl
 have j10 := L7.out.blk.cell (i := 10) rfl
 have j11 := L7.out.blk.cell (i := 11) rfl
 have j12 := L7.out.blk.cell (i := 12) rfl
 have y0 := CA7.out.c0
 have y1 := CA7.out.c1
 have y2 := CA7.out.c2
 have y3 := CA7.out.c3
 refine Go.YtndekdafiaogmaaLex.wp_region_lex (by kernel_rfl) (by kernel_rfl) ?_
 go_wp2_with fail
 refine (WT.out _).mono ?_
 rintro e8 w8 ⟨rfl, hM8a⟩
 have hM8 := (Mod.refl [] w7).drew.trans hM8a
 have Q8 := Lib.hid hM8
 have AB8 := Lib.hid (hM8.blk AB7.out (by simp))
 have L8 := Lib.hid (L7.out.mod0 hM8)
 have BX8 := Lib.hid (hM8.blk BX7.out (by simp))
 have N8 := Lib.hid (N7.out.trans (hM8.mono (S' := B.all) (by simp)))
 clear hM8 hM8a
 clear j9 j10 j11 j12 y0 y1 y2 y3
 have b2 := AB8.out.cell (i := 2) rfl
 have g2 := AB8.out.free 2
 go_wp2_with fail
 refine ⟨by kernel_rfl, ?_⟩
 go_upto_region 16 with (fail)
 have MS9 := Lib.hid ((Mod.refl [w40.heap.size] w8).setCell (p := ⟨w40.heap.size, 2, none⟩) (.inl (by simp)) (.int .i64 wt))
 have AB9 := Lib.hid (AB8.out.set 2 (.int .i64 wt))
 have L9 := Lib.hid (L8.out.mod MS9.out (fun b hb hb' => NB.out w40.heap.size hs16.out (by simp at hb'; rw [← hb']; exact hb)) (fun hb' => by have := HRB.out; have := hs16.out; simp at hb'; omega))
 have BX9 := Lib.hid (MS9.out.blk BX8.out (by have := hs16lt.out; simp; omega))
 have N9 := Lib.hid (N8.out.trans' MS9.out (fun b hb => .inr (by simp at hb; omega)))
 obtain ⟨w9, hw9⟩ : ∃ w9, w8.setCell ⟨w40.heap.size, 2, none⟩ (.int .i64 wt) = w9 := ⟨_, rfl⟩
 rw [hw9] at MS9 AB9 L9 BX9 N9
 simp only [List.set_cons_zero, List.set_cons_succ] at AB9
 rw [hw9]
 clear hw9 b2 g2
 have b0 := AB9.out.cell (i := 0) rfl
 have b1 := AB9.out.cell (i := 1) rfl
 have b2 := AB9.out.cell (i := 2) rfl
 have g0 := AB9.out.free 0
 have x0 := BX9.out.cell (i := 0) rfl
 have x1 := BX9.out.cell (i := 1) rfl
 have x2 := BX9.out.cell (i := 2) rfl
 have f0 := BX9.out.free 0
 have f1 := BX9.out.free 1
 have f2 := BX9.out.free 2
 have hne16 : ¬ w40.heap.size = w.heap.size := by have := hs16lt.out; omega
 by_cases hwp : 0 < wt
 ·have d0 : decide (0 < wt) = true := by simp [hwp]
  go_upto_region 18 with (fail)
  have MS91 := Lib.hid ((Mod.refl [w40.heap.size] w9).setCell (p := ⟨w40.heap.size, 0, none⟩) (.inl (by simp)) (.int .i64 2))
  have AB91 := Lib.hid (AB9.out.set 0 (.int .i64 2))
  have L91 := Lib.hid (L9.out.mod MS91.out (fun b hb hb' => NB.out w40.heap.size hs16.out (by simp at hb'; rw [← hb']; exact hb)) (fun hb' => by have := HRB.out; have := hs16.out; simp at hb'; omega))
  have BX91 := Lib.hid (MS91.out.blk BX9.out (by have := hs16lt.out; simp; omega))
  have N91 := Lib.hid (N9.out.trans' MS91.out (fun b hb => .inr (by simp at hb; omega)))
  obtain ⟨w91, hw91⟩ : ∃ w91, w9.setCell ⟨w40.heap.size, 0, none⟩ (.int .i64 2) = w91 := ⟨_, rfl⟩
  rw [hw91] at MS91 AB91 L91 BX91 N91
  simp only [List.set_cons_zero, List.set_cons_succ] at AB91
  rw [hw91]
  clear hw91 b0 b1 b2 x0 x1 x2 f0 f1 f2
  have b0 := AB91.out.cell (i := 0) rfl
  have b1 := AB91.out.cell (i := 1) rfl
  have b2 := AB91.out.cell (i := 2) rfl
  have x0 := BX91.out.cell (i := 0) rfl
  have x1 := BX91.out.cell (i := 1) rfl
  have x2 := BX91.out.cell (i := 2) rfl
  have f0 := BX91.out.free 0
  have f1 := BX91.out.free 1
  have f2 := BX91.out.free 2
  go_wp2_with fail
  have MF := ((((Mod.refl [w.heap.size] w91).setCell (p := ⟨w.heap.size, 0, none⟩) (.inl (by simp)) (.int .i64 2)).setCell (p := ⟨w.heap.size, 1, none⟩) (.inl (by simp)) (.int .i64 rm)).setCell (p := ⟨w.heap.size, 2, none⟩) (.inl (by simp)) (.int .i64 wt))
  refine bodyPost_ret (v := .agg #[.int .i64 2, .int .i64 rm, .int .i64 wt]) (results_cell_row (p := 10) (ty := 39) rfl _ _ w.heap.size 39 #[.int .i64 2, .int .i64 rm, .int .i64 wt] (0, 0) _ rfl (((BX91.out.set 0 (.int .i64 2)).set 1 (.int .i64 rm)).set 2 (.int .i64 wt)) Try.underlying39 rfl (info_size ans_info)) rfl ⟨by rw [← HVD.out, if_pos hwp], L91.out.mod MF (fun b hb hb' => NB.out w.heap.size (Nat.le_refl _) (by simp at hb'; rw [← hb']; exact hb)) (fun hb' => by have := HRB.out; simp at hb'; omega), (M4.out.trans N91.out).trans' MF (fun b hb => .inr (by simp at hb; omega))⟩
 ·have d0 : decide (0 < wt) = false := by simp; omega
  go_wp2_with fail
  have MF := ((((Mod.refl [w.heap.size] w9).setCell (p := ⟨w.heap.size, 0, none⟩) (.inl (by simp)) (.int .i64 1)).setCell (p := ⟨w.heap.size, 1, none⟩) (.inl (by simp)) (.int .i64 rm)).setCell (p := ⟨w.heap.size, 2, none⟩) (.inl (by simp)) (.int .i64 wt))
  refine bodyPost_ret (v := .agg #[.int .i64 1, .int .i64 rm, .int .i64 wt]) (results_cell_row (p := 10) (ty := 39) rfl _ _ w.heap.size 39 #[.int .i64 1, .int .i64 rm, .int .i64 wt] (0, 0) _ rfl (((BX9.out.set 0 (.int .i64 1)).set 1 (.int .i64 rm)).set 2 (.int .i64 wt)) Try.underlying39 rfl (info_size ans_info)) rfl ⟨by rw [← HVD.out, if_neg (by omega)], L9.out.mod MF (fun b hb hb' => NB.out w.heap.size (Nat.le_refl _) (by simp at hb'; rw [← hb']; exact hb)) (fun hb' => by have := HRB.out; simp at hb'; omega), (M4.out.trans N9.out).trans' MF (fun b hb => .inr (by simp at hb; omega))⟩
set_option maxRecDepth 8000 in
set_option maxHeartbeats 6400000 in
theorem peek_free {K : Nat} (h : LimAt w B c s) (hi : Inv c s K) (hc : c.Ok) {now : Nat} (hn : s.ring.now ≤ now) (hnow : now < 4611686018427387904) (held : Int) (key : List UInt8) (hl : key.length ≤ 1000000) (cost : Int) (hcost : 1 ≤ cost ∧ cost ≤ c.r.burst) (hr : refuse c.r now held cost = none) (hpo : placeOf s.pool.S key = none) (hf : s.pool.fl ≠ []) :
  Calls Try.prog 25 #[.pointer (some ⟨B.p, 0, none⟩), .int .i64 (now : Int), .int .i64 held, .string ⟨key.toArray⟩, .int .i64 cost] w (PeekPost B c ⟨if 0 < (fresh (now : Int) (estS c.R c.wd (s.to (now : Int)).ring key)).wait c.r.pace now cost then 2 else 1, (fresh (now : Int) (estS c.R c.wd (s.to (now : Int)).ring key)).room c.r.pace now, (fresh (now : Int) (estS c.R c.wd (s.to (now : Int)).ring key)).wait c.r.pace now cost⟩ (s.to now) w) := by
 have RE := Lib.hid (refuse_any (h.mod0 ((Mod.refl [] w).alloc (.cells #[.int .i64 0, .int .i64 0, .int .i64 0] 39))) now held cost)
 rw [hr] at RE
 simp only [ansO, Option.getD_none, Ans.val, Option.isSome_none] at RE
 obtain ⟨it, et⟩ := hi.to hn hnow
 have hst : s.ring.st.length ≤ 65 := h.ring.few.2
 have hlim := hc.limit
 have hbur := hc.burst
 have hbig := hi.big
 have htame := hc.tame (now := (now : Int)) (by omega)
 have TM := Lib.hid htame
 have HSM := Lib.hid it.small
 have TO := Lib.hid (fun W (hM : Mod [] w W) => Ring.to_any (h.ring.mod hM (by simp) (by simp)) now hnow)
 have FI := Lib.hid (fun W (hL : LimAt W B c (s.to now)) => Pool.find_any hL.pool key hl)
 have ID := Lib.hid (fun W (hL : LimAt W B c (s.to now)) => Pool.idle_any hL.pool c.r.pace (now : Int) htame.ok (by have h1 := htame.window; unfold I64; omega))
 have FU := Lib.hid (fun W (hL : LimAt W B c (s.to now)) => Pool.full_any hL.pool)
 have hfi : firstIdle c.r.pace (now : Int) (pairs (s.to now).pool.S (s.to now).pool.C) = (match (pairs s.pool.S s.pool.C).find? (fun x => x.2.idle c.r.pace now) with | some x => (Value.string ⟨x.1.toArray⟩, true) | none => (.string ⟨#[]⟩, false)) := rfl
 unfold Pool.IdlePost at ID
 have HLT := Lib.hid h.lt
 have NB : Hid (∀ b, w.heap.size ≤ b → b ∉ B.all) := Lib.hid fun b hb hb' => by have := h.lt b hb'; omega
 have HRB := Lib.hid (show B.Q.rb < w.heap.size from (h.ring.each 0 (by have := h.ring.few.1; omega)).rows.1)
 have HH := Lib.hid h
 have hp := h.blk.lt
 have hpn : ¬ B.p = w.heap.size := by omega
 have BX := Lib.hid (Blk.new w [.int .i64 0, .int .i64 0, .int .i64 0] 39)
 have M0 := Lib.hid ((Mod.refl [] w).alloc (.cells #[.int .i64 0, .int .i64 0, .int .i64 0] 39))
 obtain ⟨iv, hiv⟩ : ∃ iv, (firstIdle c.r.pace (now : Int) (pairs (s.to now).pool.S (s.to now).pool.C)).1 = iv := ⟨_, rfl⟩
 obtain ⟨ib, hib⟩ : ∃ ib, (firstIdle c.r.pace (now : Int) (pairs (s.to now).pool.S (s.to now).pool.C)).2 = ib := ⟨_, rfl⟩
 rw [hiv, hib] at ID
 have hik : (idleK c.r (now : Int) (pairs s.pool.S s.pool.C)).isNone = !ib := by
  unfold idleK
  rw [hfi] at hib
  cases hfd : (pairs s.pool.S s.pool.C).find? (fun x => x.2.idle c.r.pace now) with
  | none => rw [hfd] at hib; simp only at hib; subst hib; rfl
  | some x => rw [hfd] at hib; simp only at hib; subst hib; rfl
 have hcr := fresh_in it hc hst key
 rw [et] at hcr
 obtain ⟨es, hes⟩ : ∃ es, estS c.R c.wd (s.to (now : Int)).ring key = es := ⟨_, rfl⟩
 rw [hes] at hcr ⊢
 have HMI := hcr.mild htame (by omega)
 have ES := Lib.hid (fun W (hL : LimAt W B c (s.to now)) => Ring.estimate_any hL.ring HSM.out key hl)
 rw [hes] at ES
 have NW := Lib.hid (fun W : World => Cell.new_any (now : Int) es W)
 have HPO := Lib.hid hpo
 obtain ⟨x, hx⟩ : ∃ x, fresh (now : Int) es = x := ⟨_, rfl⟩
 rw [hx] at HMI ⊢
 have HX := Lib.hid hx
 have RMy := Lib.hid (fun W : World => Cell.room_any x c.r.pace now HMI TM.out W)
 have WTy := Lib.hid (fun W : World => Cell.wait_any x c.r.pace now cost HMI TM.out ⟨hcost.1, hcost.2⟩ W)
 obtain ⟨rm, hrm⟩ : ∃ rm, x.room c.r.pace now = rm := ⟨_, rfl⟩
 rw [hrm] at RMy ⊢
 obtain ⟨wt, hwt⟩ : ∃ wt, x.wait c.r.pace now cost = wt := ⟨_, rfl⟩
 rw [hwt] at WTy ⊢
 obtain ⟨vd, hvd⟩ : ∃ vd : Int, (if 0 < wt then (2 : Int) else 1) = vd := ⟨_, rfl⟩
 have HVD := Lib.hid hvd
 rw [hvd]
 clear hvd
 have RM := Lib.hid RMy.out
 have WT := Lib.hid WTy.out
 simp only [Cell.val, Pace.val] at RM WT
 simp only [fresh, Cell.val] at NW
 rw [show decide ((s.to (now : Int)).pool.fl = []) = false by simp [Lm.to, hf]] at FU
 clear h hi hc hn hl hr it et hst hlim hbur hbig htame hfi hiv hcost hpo hcr hes hx HMI RMy WTy hrm hwt hf hik hib
 go_enter Try.func25, Try.ntmps25
 go_wp2_with fail
 refine RE.out.mono ?_
 rintro e1 w1 ⟨rfl, hM1⟩
 have M1 := Lib.hid ((M0.out.trans hM1).alloc (.cells #[.int .i64 0, .int .i64 0, .int .i64 0] 39))
 have BX1 := Lib.hid ((hM1.blk BX.out (by simp)).alloc (.cells #[.int .i64 0, .int .i64 0, .int .i64 0] 39))
 have k14 := (HH.out.mod0 M1.out).blk.cell (i := 14) rfl
 clear hM1
 go_wp2_with fail
 refine (TO.out _ M1.out).mono ?_
 rintro e2 w2 ⟨⟨v2, rfl⟩, hR2, hM2⟩
 have L2 : Hid (LimAt w2 B c (s.to now)) := Lib.hid ((HH.out.mod0 M1.out).setRing hR2 hM2 (fun b hb => by simp at hb; subst hb; simp [RiB.own]))
 have hM2' : Mod B.all _ w2 := hM2.mono (fun b hb => .inl (by simp at hb; subst hb; exact all_Q B (by simp [RiB.own])))
 have M2 := Lib.hid ((M1.out.mono (S' := B.all) (by simp)).trans hM2')
 have BX2 := Lib.hid (hM2'.blk BX1.out (NB.out _ (Nat.le_refl _)))
 have k13 := L2.out.blk.cell (i := 13) rfl
 clear hR2 hM2 hM2' k14
 go_wp2_with fail
 refine (FI.out w2 L2.out).mono ?_
 rintro e3 w3 ⟨rfl, hM3⟩
 have L3 := Lib.hid (L2.out.mod0 hM3)
 have M3 := Lib.hid (M2.out.trans (hM3.mono (by simp)))
 have BX3 := Lib.hid (hM3.blk BX2.out (by simp))
 clear hM3 k13
 rw [show Pool.cellAt B.P (placeOf (s.to (now : Int)).pool.S key) = .pointer none from by have e := HPO.out; show Pool.cellAt B.P (placeOf s.pool.S key) = _; rw [e]; rfl]
 have k13 := L3.out.blk.cell (i := 13) rfl
 have j9 := L3.out.blk.cell (i := 9) rfl
 have j10 := L3.out.blk.cell (i := 10) rfl
 have j11 := L3.out.blk.cell (i := 11) rfl
 have j12 := L3.out.blk.cell (i := 12) rfl
 go_wp2_with fail
 refine Go.YtndekdafiaogmaaLex.wp_region_lex (by kernel_rfl) (by kernel_rfl) ?_
 go_wp2_with fail
 refine (ID.out _ (L3.out.mod0 (Mod.refl [] w3).drew)).mono ?_
 rintro e4 w40 ⟨rfl, hM4a⟩
 have hM40 := (Mod.refl [] w3).drew.trans hM4a
 have L40 := Lib.hid (L3.out.mod0 hM40)
 have M40 := Lib.hid (M3.out.trans (hM40.mono (by simp)))
 have BX40 := Lib.hid (hM40.blk BX3.out (by simp))
 clear hM40 hM4a k13 j9 j10 j11 j12
 have k13 := L40.out.blk.cell (i := 13) rfl
 go_wp2_with fail
 refine ⟨by kernel_rfl, ?_⟩
 go_wp2_with fail
 refine (FU.out _ L40.out).mono ?_
 rintro e41 w41 ⟨rfl, hM41⟩
 have L41 := Lib.hid (L40.out.mod0 hM41)
 have M41 := Lib.hid (M40.out.trans (hM41.mono (by simp)))
 have BX41 := Lib.hid (hM41.blk BX40.out (by simp))
 clear hM41 k13
 have k14 := L41.out.blk.cell (i := 14) rfl
 go_wp2_with fail
 refine (ES.out _ L41.out).mono ?_
 rintro e42 w42 ⟨rfl, hM42⟩
 have L42 := Lib.hid (L41.out.mod0 hM42)
 have M42 := Lib.hid (M41.out.trans (hM42.mono (by simp)))
 have BX42 := Lib.hid (hM42.blk BX41.out (by simp))
 clear hM42 k14
 go_wp2_with fail
 refine (NW.out _).mono ?_
 rintro e43 w43 ⟨rfl, hM43⟩
 have L43 := Lib.hid ((L42.out.mod0 hM43).mod0 ((Mod.refl [] w43).alloc (.cells #[.int .i64 now, .int .i64 now, .int .i64 es, .int .i64 0] 56)))
 have M43 := Lib.hid ((M42.out.trans (hM43.mono (S' := B.all) (by simp))).alloc (.cells #[.int .i64 now, .int .i64 now, .int .i64 es, .int .i64 0] 56))
 have BX43 := Lib.hid ((hM43.blk BX42.out (by simp)).alloc (.cells #[.int .i64 now, .int .i64 now, .int .i64 es, .int .i64 0] 56))
 have CB43 := Lib.hid (Blk.new w43 [.int .i64 now, .int .i64 now, .int .i64 es, .int .i64 0] 56)
 clear hM43
 simp only [fresh, Cell.val]
 go_upto_region 10 with (fail)
 obtain ⟨w4, hw4⟩ : ∃ w4, w43.alloc (.cells #[.int .i64 now, .int .i64 now, .int .i64 es, .int .i64 0] 56) = w4 := ⟨_, rfl⟩
 have L4 : Hid (LimAt w4 B c (s.to now)) := Lib.hid (by rw [← hw4]; exact L43.out)
 have M4 : Hid (Mod B.all w w4) := Lib.hid (by rw [← hw4]; exact M43.out)
 have BX4 : Hid (Blk w4 w.heap.size 39 [.int .i64 0, .int .i64 0, .int .i64 0]) := Lib.hid (by rw [← hw4]; exact BX43.out)
 have CB4 : Hid (Blk w4 w43.heap.size 56 [.int .i64 now, .int .i64 now, .int .i64 es, .int .i64 0]) := Lib.hid (by rw [← hw4]; exact CB43.out)
 rw [hw4]
 clear hw4
 have CA4 : Hid (CellAt w4 w43.heap.size 0 x) := Lib.hid (by rw [← HX.out]; exact ⟨CB4.out.cell (i := 0) rfl, CB4.out.cell (i := 1) rfl, CB4.out.cell (i := 2) rfl, CB4.out.cell (i := 3) rfl, CB4.out.free _, CB4.out.free _⟩)
 have HGN : Hid (w43.heap.size ≠ w4.heap.size) := Lib.hid (by have := CB4.out.lt; omega)
 have hs16lt : Hid (w.heap.size < w4.heap.size) := Lib.hid BX4.out.lt
 have hs16 : Hid (w.heap.size ≤ w4.heap.size) := Lib.hid (by have := hs16lt.out; omega)
 have A4 := Lib.hid ((Mod.refl [] w4).alloc (.cells #[.int .i64 1, .int .i64 0, .int .i64 0] 39))
 have AB5 := Lib.hid (Blk.new w4 [.int .i64 1, .int .i64 0, .int .i64 0] 39)
 have L5 := Lib.hid (L4.out.mod0 A4.out)
 have BX5 := Lib.hid (A4.out.blk BX4.out (by simp))
 have N5 := Lib.hid (A4.out.mono (S' := B.all) (by simp))
 have CA5 := Lib.hid (cellMod CA4.out A4.out (by simp))
 have j9 := L5.out.blk.cell (i := 9) rfl
 have j10 := L5.out.blk.cell (i := 10) rfl
 have j11 := L5.out.blk.cell (i := 11) rfl
 have j12 := L5.out.blk.cell (i := 12) rfl
 have y0 := CA5.out.c0
 have y1 := CA5.out.c1
 have y2 := CA5.out.c2
 have y3 := CA5.out.c3
 go_wp2_with fail
 refine Go.YtndekdafiaogmaaLex.wp_region_lex (by kernel_rfl) (by kernel_rfl) ?_
 go_wp2_with fail
 refine (RM.out _).mono ?_
 rintro e6 w6 ⟨rfl, hM6a⟩
 have hM6 := (Mod.refl [] (w4.alloc (.cells #[.int .i64 1, .int .i64 0, .int .i64 0] 39))).drew.trans hM6a
 have CA6 := Lib.hid (cellMod CA5.out hM6 (by simp))
 have Q6 := Lib.hid hM6
 have AB6 := Lib.hid (hM6.blk AB5.out (by simp))
 have L6 := Lib.hid (L5.out.mod0 hM6)
 have BX6 := Lib.hid (hM6.blk BX5.out (by simp))
 have N6 := Lib.hid (N5.out.trans (hM6.mono (S' := B.all) (by simp)))
 clear hM6 hM6a
 clear j9 j10 j11 j12 y0 y1 y2 y3
 have b1 := AB6.out.cell (i := 1) rfl
 have g1 := AB6.out.free 1
 go_wp2_with fail
 refine ⟨by kernel_rfl, ?_⟩
 go_upto_region 13 with (fail)
 have MS7 := Lib.hid ((Mod.refl [w4.heap.size] w6).setCell (p := ⟨w4.heap.size, 1, none⟩) (.inl (by simp)) (.int .i64 rm))
 have AB7 := Lib.hid (AB6.out.set 1 (.int .i64 rm))
 have L7 := Lib.hid (L6.out.mod MS7.out (fun b hb hb' => NB.out w4.heap.size hs16.out (by simp at hb'; rw [← hb']; exact hb)) (fun hb' => by have := HRB.out; have := hs16.out; simp at hb'; omega))
 have BX7 := Lib.hid (MS7.out.blk BX6.out (by have := hs16lt.out; simp; omega))
 have N7 := Lib.hid (N6.out.trans' MS7.out (fun b hb => .inr (by simp at hb; omega)))
 obtain ⟨w7, hw7⟩ : ∃ w7, w6.setCell ⟨w4.heap.size, 1, none⟩ (.int .i64 rm) = w7 := ⟨_, rfl⟩
 rw [hw7] at MS7 AB7 L7 BX7 N7
 simp only [List.set_cons_zero, List.set_cons_succ] at AB7
 have CA7 := Lib.hid (cellMod CA6.out MS7.out (by have := HGN.out; simp; omega))
 rw [hw7]
 clear hw7 b1 g1
 have j9 := L7.out.blk.cell (i := 9) rfl
 have j10 := L7.out.blk.cell (i := 10) rfl
 have j11 := L7.out.blk.cell (i := 11) rfl
 have j12 := L7.out.blk.cell (i := 12) rfl
 have y0 := CA7.out.c0
 have y1 := CA7.out.c1
 have y2 := CA7.out.c2
 have y3 := CA7.out.c3
 refine Go.YtndekdafiaogmaaLex.wp_region_lex (by kernel_rfl) (by kernel_rfl) ?_
 go_wp2_with fail
 refine (WT.out _).mono ?_
 rintro e8 w8 ⟨rfl, hM8a⟩
 have hM8 := (Mod.refl [] w7).drew.trans hM8a
 have Q8 := Lib.hid hM8
 have AB8 := Lib.hid (hM8.blk AB7.out (by simp))
 have L8 := Lib.hid (L7.out.mod0 hM8)
 have BX8 := Lib.hid (hM8.blk BX7.out (by simp))
 have N8 := Lib.hid (N7.out.trans (hM8.mono (S' := B.all) (by simp)))
 clear hM8 hM8a
 clear j9 j10 j11 j12 y0 y1 y2 y3
 have b2 := AB8.out.cell (i := 2) rfl
 have g2 := AB8.out.free 2
 go_wp2_with fail
 refine ⟨by kernel_rfl, ?_⟩
 go_upto_region 16 with (fail)
 have MS9 := Lib.hid ((Mod.refl [w4.heap.size] w8).setCell (p := ⟨w4.heap.size, 2, none⟩) (.inl (by simp)) (.int .i64 wt))
 have AB9 := Lib.hid (AB8.out.set 2 (.int .i64 wt))
 have L9 := Lib.hid (L8.out.mod MS9.out (fun b hb hb' => NB.out w4.heap.size hs16.out (by simp at hb'; rw [← hb']; exact hb)) (fun hb' => by have := HRB.out; have := hs16.out; simp at hb'; omega))
 have BX9 := Lib.hid (MS9.out.blk BX8.out (by have := hs16lt.out; simp; omega))
 have N9 := Lib.hid (N8.out.trans' MS9.out (fun b hb => .inr (by simp at hb; omega)))
 obtain ⟨w9, hw9⟩ : ∃ w9, w8.setCell ⟨w4.heap.size, 2, none⟩ (.int .i64 wt) = w9 := ⟨_, rfl⟩
 rw [hw9] at MS9 AB9 L9 BX9 N9
 simp only [List.set_cons_zero, List.set_cons_succ] at AB9
 rw [hw9]
 clear hw9 b2 g2
 have b0 := AB9.out.cell (i := 0) rfl
 have b1 := AB9.out.cell (i := 1) rfl
 have b2 := AB9.out.cell (i := 2) rfl
 have g0 := AB9.out.free 0
 have x0 := BX9.out.cell (i := 0) rfl
 have x1 := BX9.out.cell (i := 1) rfl
 have x2 := BX9.out.cell (i := 2) rfl
 have f0 := BX9.out.free 0
 have f1 := BX9.out.free 1
 have f2 := BX9.out.free 2
 have hne16 : ¬ w4.heap.size = w.heap.size := by have := hs16lt.out; omega
 by_cases hwp : 0 < wt
 ·have d0 : decide (0 < wt) = true := by simp [hwp]
  go_upto_region 18 with (fail)
  have MS91 := Lib.hid ((Mod.refl [w4.heap.size] w9).setCell (p := ⟨w4.heap.size, 0, none⟩) (.inl (by simp)) (.int .i64 2))
  have AB91 := Lib.hid (AB9.out.set 0 (.int .i64 2))
  have L91 := Lib.hid (L9.out.mod MS91.out (fun b hb hb' => NB.out w4.heap.size hs16.out (by simp at hb'; rw [← hb']; exact hb)) (fun hb' => by have := HRB.out; have := hs16.out; simp at hb'; omega))
  have BX91 := Lib.hid (MS91.out.blk BX9.out (by have := hs16lt.out; simp; omega))
  have N91 := Lib.hid (N9.out.trans' MS91.out (fun b hb => .inr (by simp at hb; omega)))
  obtain ⟨w91, hw91⟩ : ∃ w91, w9.setCell ⟨w4.heap.size, 0, none⟩ (.int .i64 2) = w91 := ⟨_, rfl⟩
  rw [hw91] at MS91 AB91 L91 BX91 N91
  simp only [List.set_cons_zero, List.set_cons_succ] at AB91
  rw [hw91]
  clear hw91 b0 b1 b2 x0 x1 x2 f0 f1 f2
  have b0 := AB91.out.cell (i := 0) rfl
  have b1 := AB91.out.cell (i := 1) rfl
  have b2 := AB91.out.cell (i := 2) rfl
  have x0 := BX91.out.cell (i := 0) rfl
  have x1 := BX91.out.cell (i := 1) rfl
  have x2 := BX91.out.cell (i := 2) rfl
  have f0 := BX91.out.free 0
  have f1 := BX91.out.free 1
  have f2 := BX91.out.free 2
  go_wp2_with fail
  have MF := ((((Mod.refl [w.heap.size] w91).setCell (p := ⟨w.heap.size, 0, none⟩) (.inl (by simp)) (.int .i64 2)).setCell (p := ⟨w.heap.size, 1, none⟩) (.inl (by simp)) (.int .i64 rm)).setCell (p := ⟨w.heap.size, 2, none⟩) (.inl (by simp)) (.int .i64 wt))
  refine bodyPost_ret (v := .agg #[.int .i64 2, .int .i64 rm, .int .i64 wt]) (results_cell_row (p := 10) (ty := 39) rfl _ _ w.heap.size 39 #[.int .i64 2, .int .i64 rm, .int .i64 wt] (0, 0) _ rfl (((BX91.out.set 0 (.int .i64 2)).set 1 (.int .i64 rm)).set 2 (.int .i64 wt)) Try.underlying39 rfl (info_size ans_info)) rfl ⟨by rw [← HVD.out, if_pos hwp], L91.out.mod MF (fun b hb hb' => NB.out w.heap.size (Nat.le_refl _) (by simp at hb'; rw [← hb']; exact hb)) (fun hb' => by have := HRB.out; simp at hb'; omega), (M4.out.trans N91.out).trans' MF (fun b hb => .inr (by simp at hb; omega))⟩
 ·have d0 : decide (0 < wt) = false := by simp; omega
  go_wp2_with fail
  have MF := ((((Mod.refl [w.heap.size] w9).setCell (p := ⟨w.heap.size, 0, none⟩) (.inl (by simp)) (.int .i64 1)).setCell (p := ⟨w.heap.size, 1, none⟩) (.inl (by simp)) (.int .i64 rm)).setCell (p := ⟨w.heap.size, 2, none⟩) (.inl (by simp)) (.int .i64 wt))
  refine bodyPost_ret (v := .agg #[.int .i64 1, .int .i64 rm, .int .i64 wt]) (results_cell_row (p := 10) (ty := 39) rfl _ _ w.heap.size 39 #[.int .i64 1, .int .i64 rm, .int .i64 wt] (0, 0) _ rfl (((BX9.out.set 0 (.int .i64 1)).set 1 (.int .i64 rm)).set 2 (.int .i64 wt)) Try.underlying39 rfl (info_size ans_info)) rfl ⟨by rw [← HVD.out, if_neg (by omega)], L9.out.mod MF (fun b hb hb' => NB.out w.heap.size (Nat.le_refl _) (by simp at hb'; rw [← hb']; exact hb)) (fun hb' => by have := HRB.out; simp at hb'; omega), (M4.out.trans N9.out).trans' MF (fun b hb => .inr (by simp at hb; omega))⟩
set_option maxRecDepth 8000 in
set_option maxHeartbeats 6400000 in
theorem peek_idle {K : Nat} (h : LimAt w B c s) (hi : Inv c s K) (hc : c.Ok) {now : Nat} (hn : s.ring.now ≤ now) (hnow : now < 4611686018427387904) (held : Int) (key : List UInt8) (hl : key.length ≤ 1000000) (cost : Int) (hcost : 1 ≤ cost ∧ cost ≤ c.r.burst) (hr : refuse c.r now held cost = none) (hpo : placeOf s.pool.S key = none) (hf : s.pool.fl = []) (hid : (idleK c.r (now : Int) (pairs s.pool.S s.pool.C)).isNone = false) :
  Calls Try.prog 25 #[.pointer (some ⟨B.p, 0, none⟩), .int .i64 (now : Int), .int .i64 held, .string ⟨key.toArray⟩, .int .i64 cost] w (PeekPost B c ⟨if 0 < (fresh (now : Int) (estS c.R c.wd (s.to (now : Int)).ring key)).wait c.r.pace now cost then 2 else 1, (fresh (now : Int) (estS c.R c.wd (s.to (now : Int)).ring key)).room c.r.pace now, (fresh (now : Int) (estS c.R c.wd (s.to (now : Int)).ring key)).wait c.r.pace now cost⟩ (s.to now) w) := by
 have RE := Lib.hid (refuse_any (h.mod0 ((Mod.refl [] w).alloc (.cells #[.int .i64 0, .int .i64 0, .int .i64 0] 39))) now held cost)
 rw [hr] at RE
 simp only [ansO, Option.getD_none, Ans.val, Option.isSome_none] at RE
 obtain ⟨it, et⟩ := hi.to hn hnow
 have hst : s.ring.st.length ≤ 65 := h.ring.few.2
 have hlim := hc.limit
 have hbur := hc.burst
 have hbig := hi.big
 have htame := hc.tame (now := (now : Int)) (by omega)
 have TM := Lib.hid htame
 have HSM := Lib.hid it.small
 have TO := Lib.hid (fun W (hM : Mod [] w W) => Ring.to_any (h.ring.mod hM (by simp) (by simp)) now hnow)
 have FI := Lib.hid (fun W (hL : LimAt W B c (s.to now)) => Pool.find_any hL.pool key hl)
 have ID := Lib.hid (fun W (hL : LimAt W B c (s.to now)) => Pool.idle_any hL.pool c.r.pace (now : Int) htame.ok (by have h1 := htame.window; unfold I64; omega))
 have FU := Lib.hid (fun W (hL : LimAt W B c (s.to now)) => Pool.full_any hL.pool)
 have hfi : firstIdle c.r.pace (now : Int) (pairs (s.to now).pool.S (s.to now).pool.C) = (match (pairs s.pool.S s.pool.C).find? (fun x => x.2.idle c.r.pace now) with | some x => (Value.string ⟨x.1.toArray⟩, true) | none => (.string ⟨#[]⟩, false)) := rfl
 unfold Pool.IdlePost at ID
 have HLT := Lib.hid h.lt
 have NB : Hid (∀ b, w.heap.size ≤ b → b ∉ B.all) := Lib.hid fun b hb hb' => by have := h.lt b hb'; omega
 have HRB := Lib.hid (show B.Q.rb < w.heap.size from (h.ring.each 0 (by have := h.ring.few.1; omega)).rows.1)
 have HH := Lib.hid h
 have hp := h.blk.lt
 have hpn : ¬ B.p = w.heap.size := by omega
 have BX := Lib.hid (Blk.new w [.int .i64 0, .int .i64 0, .int .i64 0] 39)
 have M0 := Lib.hid ((Mod.refl [] w).alloc (.cells #[.int .i64 0, .int .i64 0, .int .i64 0] 39))
 obtain ⟨iv, hiv⟩ : ∃ iv, (firstIdle c.r.pace (now : Int) (pairs (s.to now).pool.S (s.to now).pool.C)).1 = iv := ⟨_, rfl⟩
 obtain ⟨ib, hib⟩ : ∃ ib, (firstIdle c.r.pace (now : Int) (pairs (s.to now).pool.S (s.to now).pool.C)).2 = ib := ⟨_, rfl⟩
 rw [hiv, hib] at ID
 have hik : (idleK c.r (now : Int) (pairs s.pool.S s.pool.C)).isNone = !ib := by
  unfold idleK
  rw [hfi] at hib
  cases hfd : (pairs s.pool.S s.pool.C).find? (fun x => x.2.idle c.r.pace now) with
  | none => rw [hfd] at hib; simp only at hib; subst hib; rfl
  | some x => rw [hfd] at hib; simp only at hib; subst hib; rfl
 have hcr := fresh_in it hc hst key
 rw [et] at hcr
 obtain ⟨es, hes⟩ : ∃ es, estS c.R c.wd (s.to (now : Int)).ring key = es := ⟨_, rfl⟩
 rw [hes] at hcr ⊢
 have HMI := hcr.mild htame (by omega)
 have ES := Lib.hid (fun W (hL : LimAt W B c (s.to now)) => Ring.estimate_any hL.ring HSM.out key hl)
 rw [hes] at ES
 have NW := Lib.hid (fun W : World => Cell.new_any (now : Int) es W)
 have HPO := Lib.hid hpo
 obtain ⟨x, hx⟩ : ∃ x, fresh (now : Int) es = x := ⟨_, rfl⟩
 rw [hx] at HMI ⊢
 have HX := Lib.hid hx
 have RMy := Lib.hid (fun W : World => Cell.room_any x c.r.pace now HMI TM.out W)
 have WTy := Lib.hid (fun W : World => Cell.wait_any x c.r.pace now cost HMI TM.out ⟨hcost.1, hcost.2⟩ W)
 obtain ⟨rm, hrm⟩ : ∃ rm, x.room c.r.pace now = rm := ⟨_, rfl⟩
 rw [hrm] at RMy ⊢
 obtain ⟨wt, hwt⟩ : ∃ wt, x.wait c.r.pace now cost = wt := ⟨_, rfl⟩
 rw [hwt] at WTy ⊢
 obtain ⟨vd, hvd⟩ : ∃ vd : Int, (if 0 < wt then (2 : Int) else 1) = vd := ⟨_, rfl⟩
 have HVD := Lib.hid hvd
 rw [hvd]
 clear hvd
 have RM := Lib.hid RMy.out
 have WT := Lib.hid WTy.out
 simp only [Cell.val, Pace.val] at RM WT
 simp only [fresh, Cell.val] at NW
 rw [show decide ((s.to (now : Int)).pool.fl = []) = true by simp [Lm.to, hf]] at FU
 rw [hid] at hik
 obtain rfl : ib = true := by have h := hik; cases ib with | true => rfl | false => simp at h
 clear h hi hc hn hl hr it et hst hlim hbur hbig htame hfi hiv hcost hpo hcr hes hx HMI RMy WTy hrm hwt hf hik hib hid
 go_enter Try.func25, Try.ntmps25
 go_wp2_with fail
 refine RE.out.mono ?_
 rintro e1 w1 ⟨rfl, hM1⟩
 have M1 := Lib.hid ((M0.out.trans hM1).alloc (.cells #[.int .i64 0, .int .i64 0, .int .i64 0] 39))
 have BX1 := Lib.hid ((hM1.blk BX.out (by simp)).alloc (.cells #[.int .i64 0, .int .i64 0, .int .i64 0] 39))
 have k14 := (HH.out.mod0 M1.out).blk.cell (i := 14) rfl
 clear hM1
 go_wp2_with fail
 refine (TO.out _ M1.out).mono ?_
 rintro e2 w2 ⟨⟨v2, rfl⟩, hR2, hM2⟩
 have L2 : Hid (LimAt w2 B c (s.to now)) := Lib.hid ((HH.out.mod0 M1.out).setRing hR2 hM2 (fun b hb => by simp at hb; subst hb; simp [RiB.own]))
 have hM2' : Mod B.all _ w2 := hM2.mono (fun b hb => .inl (by simp at hb; subst hb; exact all_Q B (by simp [RiB.own])))
 have M2 := Lib.hid ((M1.out.mono (S' := B.all) (by simp)).trans hM2')
 have BX2 := Lib.hid (hM2'.blk BX1.out (NB.out _ (Nat.le_refl _)))
 have k13 := L2.out.blk.cell (i := 13) rfl
 clear hR2 hM2 hM2' k14
 go_wp2_with fail
 refine (FI.out w2 L2.out).mono ?_
 rintro e3 w3 ⟨rfl, hM3⟩
 have L3 := Lib.hid (L2.out.mod0 hM3)
 have M3 := Lib.hid (M2.out.trans (hM3.mono (by simp)))
 have BX3 := Lib.hid (hM3.blk BX2.out (by simp))
 clear hM3 k13
 rw [show Pool.cellAt B.P (placeOf (s.to (now : Int)).pool.S key) = .pointer none from by have e := HPO.out; show Pool.cellAt B.P (placeOf s.pool.S key) = _; rw [e]; rfl]
 have k13 := L3.out.blk.cell (i := 13) rfl
 have j9 := L3.out.blk.cell (i := 9) rfl
 have j10 := L3.out.blk.cell (i := 10) rfl
 have j11 := L3.out.blk.cell (i := 11) rfl
 have j12 := L3.out.blk.cell (i := 12) rfl
 go_wp2_with fail
 refine Go.YtndekdafiaogmaaLex.wp_region_lex (by kernel_rfl) (by kernel_rfl) ?_
 go_wp2_with fail
 refine (ID.out _ (L3.out.mod0 (Mod.refl [] w3).drew)).mono ?_
 rintro e4 w40 ⟨rfl, hM4a⟩
 have hM40 := (Mod.refl [] w3).drew.trans hM4a
 have L40 := Lib.hid (L3.out.mod0 hM40)
 have M40 := Lib.hid (M3.out.trans (hM40.mono (by simp)))
 have BX40 := Lib.hid (hM40.blk BX3.out (by simp))
 clear hM40 hM4a k13 j9 j10 j11 j12
 have k13 := L40.out.blk.cell (i := 13) rfl
 go_wp2_with fail
 refine ⟨by kernel_rfl, ?_⟩
 go_wp2_with fail
 refine (FU.out _ L40.out).mono ?_
 rintro e41 w41 ⟨rfl, hM41⟩
 have L41 := Lib.hid (L40.out.mod0 hM41)
 have M41 := Lib.hid (M40.out.trans (hM41.mono (by simp)))
 have BX41 := Lib.hid (hM41.blk BX40.out (by simp))
 clear hM41 k13
 have k14 := L41.out.blk.cell (i := 14) rfl
 go_wp2_with fail
 refine (ES.out _ L41.out).mono ?_
 rintro e42 w42 ⟨rfl, hM42⟩
 have L42 := Lib.hid (L41.out.mod0 hM42)
 have M42 := Lib.hid (M41.out.trans (hM42.mono (by simp)))
 have BX42 := Lib.hid (hM42.blk BX41.out (by simp))
 clear hM42 k14
 go_wp2_with fail
 refine (NW.out _).mono ?_
 rintro e43 w43 ⟨rfl, hM43⟩
 have L43 := Lib.hid ((L42.out.mod0 hM43).mod0 ((Mod.refl [] w43).alloc (.cells #[.int .i64 now, .int .i64 now, .int .i64 es, .int .i64 0] 56)))
 have M43 := Lib.hid ((M42.out.trans (hM43.mono (S' := B.all) (by simp))).alloc (.cells #[.int .i64 now, .int .i64 now, .int .i64 es, .int .i64 0] 56))
 have BX43 := Lib.hid ((hM43.blk BX42.out (by simp)).alloc (.cells #[.int .i64 now, .int .i64 now, .int .i64 es, .int .i64 0] 56))
 have CB43 := Lib.hid (Blk.new w43 [.int .i64 now, .int .i64 now, .int .i64 es, .int .i64 0] 56)
 clear hM43
 simp only [fresh, Cell.val]
 go_upto_region 10 with (fail)
 obtain ⟨w4, hw4⟩ : ∃ w4, w43.alloc (.cells #[.int .i64 now, .int .i64 now, .int .i64 es, .int .i64 0] 56) = w4 := ⟨_, rfl⟩
 have L4 : Hid (LimAt w4 B c (s.to now)) := Lib.hid (by rw [← hw4]; exact L43.out)
 have M4 : Hid (Mod B.all w w4) := Lib.hid (by rw [← hw4]; exact M43.out)
 have BX4 : Hid (Blk w4 w.heap.size 39 [.int .i64 0, .int .i64 0, .int .i64 0]) := Lib.hid (by rw [← hw4]; exact BX43.out)
 have CB4 : Hid (Blk w4 w43.heap.size 56 [.int .i64 now, .int .i64 now, .int .i64 es, .int .i64 0]) := Lib.hid (by rw [← hw4]; exact CB43.out)
 rw [hw4]
 clear hw4
 have CA4 : Hid (CellAt w4 w43.heap.size 0 x) := Lib.hid (by rw [← HX.out]; exact ⟨CB4.out.cell (i := 0) rfl, CB4.out.cell (i := 1) rfl, CB4.out.cell (i := 2) rfl, CB4.out.cell (i := 3) rfl, CB4.out.free _, CB4.out.free _⟩)
 have HGN : Hid (w43.heap.size ≠ w4.heap.size) := Lib.hid (by have := CB4.out.lt; omega)
 have hs16lt : Hid (w.heap.size < w4.heap.size) := Lib.hid BX4.out.lt
 have hs16 : Hid (w.heap.size ≤ w4.heap.size) := Lib.hid (by have := hs16lt.out; omega)
 have A4 := Lib.hid ((Mod.refl [] w4).alloc (.cells #[.int .i64 1, .int .i64 0, .int .i64 0] 39))
 have AB5 := Lib.hid (Blk.new w4 [.int .i64 1, .int .i64 0, .int .i64 0] 39)
 have L5 := Lib.hid (L4.out.mod0 A4.out)
 have BX5 := Lib.hid (A4.out.blk BX4.out (by simp))
 have N5 := Lib.hid (A4.out.mono (S' := B.all) (by simp))
 have CA5 := Lib.hid (cellMod CA4.out A4.out (by simp))
 have j9 := L5.out.blk.cell (i := 9) rfl
 have j10 := L5.out.blk.cell (i := 10) rfl
 have j11 := L5.out.blk.cell (i := 11) rfl
 have j12 := L5.out.blk.cell (i := 12) rfl
 have y0 := CA5.out.c0
 have y1 := CA5.out.c1
 have y2 := CA5.out.c2
 have y3 := CA5.out.c3
 go_wp2_with fail
 refine Go.YtndekdafiaogmaaLex.wp_region_lex (by kernel_rfl) (by kernel_rfl) ?_
 go_wp2_with fail
 refine (RM.out _).mono ?_
 rintro e6 w6 ⟨rfl, hM6a⟩
 have hM6 := (Mod.refl [] (w4.alloc (.cells #[.int .i64 1, .int .i64 0, .int .i64 0] 39))).drew.trans hM6a
 have CA6 := Lib.hid (cellMod CA5.out hM6 (by simp))
 have Q6 := Lib.hid hM6
 have AB6 := Lib.hid (hM6.blk AB5.out (by simp))
 have L6 := Lib.hid (L5.out.mod0 hM6)
 have BX6 := Lib.hid (hM6.blk BX5.out (by simp))
 have N6 := Lib.hid (N5.out.trans (hM6.mono (S' := B.all) (by simp)))
 clear hM6 hM6a
 clear j9 j10 j11 j12 y0 y1 y2 y3
 have b1 := AB6.out.cell (i := 1) rfl
 have g1 := AB6.out.free 1
 go_wp2_with fail
 refine ⟨by kernel_rfl, ?_⟩
 go_upto_region 13 with (fail)
 have MS7 := Lib.hid ((Mod.refl [w4.heap.size] w6).setCell (p := ⟨w4.heap.size, 1, none⟩) (.inl (by simp)) (.int .i64 rm))
 have AB7 := Lib.hid (AB6.out.set 1 (.int .i64 rm))
 have L7 := Lib.hid (L6.out.mod MS7.out (fun b hb hb' => NB.out w4.heap.size hs16.out (by simp at hb'; rw [← hb']; exact hb)) (fun hb' => by have := HRB.out; have := hs16.out; simp at hb'; omega))
 have BX7 := Lib.hid (MS7.out.blk BX6.out (by have := hs16lt.out; simp; omega))
 have N7 := Lib.hid (N6.out.trans' MS7.out (fun b hb => .inr (by simp at hb; omega)))
 obtain ⟨w7, hw7⟩ : ∃ w7, w6.setCell ⟨w4.heap.size, 1, none⟩ (.int .i64 rm) = w7 := ⟨_, rfl⟩
 rw [hw7] at MS7 AB7 L7 BX7 N7
 simp only [List.set_cons_zero, List.set_cons_succ] at AB7
 have CA7 := Lib.hid (cellMod CA6.out MS7.out (by have := HGN.out; simp; omega))
 rw [hw7]
 clear hw7 b1 g1
 have j9 := L7.out.blk.cell (i := 9) rfl
 have j10 := L7.out.blk.cell (i := 10) rfl
 have j11 := L7.out.blk.cell (i := 11) rfl
 have j12 := L7.out.blk.cell (i := 12) rfl
 have y0 := CA7.out.c0
 have y1 := CA7.out.c1
 have y2 := CA7.out.c2
 have y3 := CA7.out.c3
 refine Go.YtndekdafiaogmaaLex.wp_region_lex (by kernel_rfl) (by kernel_rfl) ?_
 go_wp2_with fail
 refine (WT.out _).mono ?_
 rintro e8 w8 ⟨rfl, hM8a⟩
 have hM8 := (Mod.refl [] w7).drew.trans hM8a
 have Q8 := Lib.hid hM8
 have AB8 := Lib.hid (hM8.blk AB7.out (by simp))
 have L8 := Lib.hid (L7.out.mod0 hM8)
 have BX8 := Lib.hid (hM8.blk BX7.out (by simp))
 have N8 := Lib.hid (N7.out.trans (hM8.mono (S' := B.all) (by simp)))
 clear hM8 hM8a
 clear j9 j10 j11 j12 y0 y1 y2 y3
 have b2 := AB8.out.cell (i := 2) rfl
 have g2 := AB8.out.free 2
 go_wp2_with fail
 refine ⟨by kernel_rfl, ?_⟩
 go_upto_region 16 with (fail)
 have MS9 := Lib.hid ((Mod.refl [w4.heap.size] w8).setCell (p := ⟨w4.heap.size, 2, none⟩) (.inl (by simp)) (.int .i64 wt))
 have AB9 := Lib.hid (AB8.out.set 2 (.int .i64 wt))
 have L9 := Lib.hid (L8.out.mod MS9.out (fun b hb hb' => NB.out w4.heap.size hs16.out (by simp at hb'; rw [← hb']; exact hb)) (fun hb' => by have := HRB.out; have := hs16.out; simp at hb'; omega))
 have BX9 := Lib.hid (MS9.out.blk BX8.out (by have := hs16lt.out; simp; omega))
 have N9 := Lib.hid (N8.out.trans' MS9.out (fun b hb => .inr (by simp at hb; omega)))
 obtain ⟨w9, hw9⟩ : ∃ w9, w8.setCell ⟨w4.heap.size, 2, none⟩ (.int .i64 wt) = w9 := ⟨_, rfl⟩
 rw [hw9] at MS9 AB9 L9 BX9 N9
 simp only [List.set_cons_zero, List.set_cons_succ] at AB9
 rw [hw9]
 clear hw9 b2 g2
 have b0 := AB9.out.cell (i := 0) rfl
 have b1 := AB9.out.cell (i := 1) rfl
 have b2 := AB9.out.cell (i := 2) rfl
 have g0 := AB9.out.free 0
 have x0 := BX9.out.cell (i := 0) rfl
 have x1 := BX9.out.cell (i := 1) rfl
 have x2 := BX9.out.cell (i := 2) rfl
 have f0 := BX9.out.free 0
 have f1 := BX9.out.free 1
 have f2 := BX9.out.free 2
 have hne16 : ¬ w4.heap.size = w.heap.size := by have := hs16lt.out; omega
 by_cases hwp : 0 < wt
 ·have d0 : decide (0 < wt) = true := by simp [hwp]
  go_upto_region 18 with (fail)
  have MS91 := Lib.hid ((Mod.refl [w4.heap.size] w9).setCell (p := ⟨w4.heap.size, 0, none⟩) (.inl (by simp)) (.int .i64 2))
  have AB91 := Lib.hid (AB9.out.set 0 (.int .i64 2))
  have L91 := Lib.hid (L9.out.mod MS91.out (fun b hb hb' => NB.out w4.heap.size hs16.out (by simp at hb'; rw [← hb']; exact hb)) (fun hb' => by have := HRB.out; have := hs16.out; simp at hb'; omega))
  have BX91 := Lib.hid (MS91.out.blk BX9.out (by have := hs16lt.out; simp; omega))
  have N91 := Lib.hid (N9.out.trans' MS91.out (fun b hb => .inr (by simp at hb; omega)))
  obtain ⟨w91, hw91⟩ : ∃ w91, w9.setCell ⟨w4.heap.size, 0, none⟩ (.int .i64 2) = w91 := ⟨_, rfl⟩
  rw [hw91] at MS91 AB91 L91 BX91 N91
  simp only [List.set_cons_zero, List.set_cons_succ] at AB91
  rw [hw91]
  clear hw91 b0 b1 b2 x0 x1 x2 f0 f1 f2
  have b0 := AB91.out.cell (i := 0) rfl
  have b1 := AB91.out.cell (i := 1) rfl
  have b2 := AB91.out.cell (i := 2) rfl
  have x0 := BX91.out.cell (i := 0) rfl
  have x1 := BX91.out.cell (i := 1) rfl
  have x2 := BX91.out.cell (i := 2) rfl
  have f0 := BX91.out.free 0
  have f1 := BX91.out.free 1
  have f2 := BX91.out.free 2
  go_wp2_with fail
  have MF := ((((Mod.refl [w.heap.size] w91).setCell (p := ⟨w.heap.size, 0, none⟩) (.inl (by simp)) (.int .i64 2)).setCell (p := ⟨w.heap.size, 1, none⟩) (.inl (by simp)) (.int .i64 rm)).setCell (p := ⟨w.heap.size, 2, none⟩) (.inl (by simp)) (.int .i64 wt))
  refine bodyPost_ret (v := .agg #[.int .i64 2, .int .i64 rm, .int .i64 wt]) (results_cell_row (p := 10) (ty := 39) rfl _ _ w.heap.size 39 #[.int .i64 2, .int .i64 rm, .int .i64 wt] (0, 0) _ rfl (((BX91.out.set 0 (.int .i64 2)).set 1 (.int .i64 rm)).set 2 (.int .i64 wt)) Try.underlying39 rfl (info_size ans_info)) rfl ⟨by rw [← HVD.out, if_pos hwp], L91.out.mod MF (fun b hb hb' => NB.out w.heap.size (Nat.le_refl _) (by simp at hb'; rw [← hb']; exact hb)) (fun hb' => by have := HRB.out; simp at hb'; omega), (M4.out.trans N91.out).trans' MF (fun b hb => .inr (by simp at hb; omega))⟩
 ·have d0 : decide (0 < wt) = false := by simp; omega
  go_wp2_with fail
  have MF := ((((Mod.refl [w.heap.size] w9).setCell (p := ⟨w.heap.size, 0, none⟩) (.inl (by simp)) (.int .i64 1)).setCell (p := ⟨w.heap.size, 1, none⟩) (.inl (by simp)) (.int .i64 rm)).setCell (p := ⟨w.heap.size, 2, none⟩) (.inl (by simp)) (.int .i64 wt))
  refine bodyPost_ret (v := .agg #[.int .i64 1, .int .i64 rm, .int .i64 wt]) (results_cell_row (p := 10) (ty := 39) rfl _ _ w.heap.size 39 #[.int .i64 1, .int .i64 rm, .int .i64 wt] (0, 0) _ rfl (((BX9.out.set 0 (.int .i64 1)).set 1 (.int .i64 rm)).set 2 (.int .i64 wt)) Try.underlying39 rfl (info_size ans_info)) rfl ⟨by rw [← HVD.out, if_neg (by omega)], L9.out.mod MF (fun b hb hb' => NB.out w.heap.size (Nat.le_refl _) (by simp at hb'; rw [← hb']; exact hb)) (fun hb' => by have := HRB.out; simp at hb'; omega), (M4.out.trans N9.out).trans' MF (fun b hb => .inr (by simp at hb; omega))⟩
set_option maxRecDepth 8000 in
set_option maxHeartbeats 6400000 in
theorem peek_ring {K : Nat} (h : LimAt w B c s) (hi : Inv c s K) (hc : c.Ok) {now : Nat} (hn : s.ring.now ≤ now) (hnow : now < 4611686018427387904) (held : Int) (key : List UInt8) (hl : key.length ≤ 1000000) (cost : Int) (hcost : 1 ≤ cost ∧ cost ≤ c.r.burst) (hr : refuse c.r now held cost = none) (hpo : placeOf s.pool.S key = none) (hf : s.pool.fl = []) (hid : (idleK c.r (now : Int) (pairs s.pool.S s.pool.C)).isNone = true) :
  Calls Try.prog 25 #[.pointer (some ⟨B.p, 0, none⟩), .int .i64 (now : Int), .int .i64 held, .string ⟨key.toArray⟩, .int .i64 cost] w (PeekPost B c ⟨if 0 < waitS c.R c.wd (s.to (now : Int)).ring key cost then 2 else 1, bounded c.r (c.r.limit - estS c.R c.wd (s.to (now : Int)).ring key), waitS c.R c.wd (s.to (now : Int)).ring key cost⟩ (s.to now) w) := by
 have RE := Lib.hid (refuse_any (h.mod0 ((Mod.refl [] w).alloc (.cells #[.int .i64 0, .int .i64 0, .int .i64 0] 39))) now held cost)
 rw [hr] at RE
 simp only [ansO, Option.getD_none, Ans.val, Option.isSome_none] at RE
 obtain ⟨it, et⟩ := hi.to hn hnow
 have hst : s.ring.st.length ≤ 65 := h.ring.few.2
 have hlim := hc.limit
 have hbur := hc.burst
 have hbig := hi.big
 have htame := hc.tame (now := (now : Int)) (by omega)
 have TM := Lib.hid htame
 have HSM := Lib.hid it.small
 have TO := Lib.hid (fun W (hM : Mod [] w W) => Ring.to_any (h.ring.mod hM (by simp) (by simp)) now hnow)
 have FI := Lib.hid (fun W (hL : LimAt W B c (s.to now)) => Pool.find_any hL.pool key hl)
 have ID := Lib.hid (fun W (hL : LimAt W B c (s.to now)) => Pool.idle_any hL.pool c.r.pace (now : Int) htame.ok (by have h1 := htame.window; unfold I64; omega))
 have FU := Lib.hid (fun W (hL : LimAt W B c (s.to now)) => Pool.full_any hL.pool)
 have hfi : firstIdle c.r.pace (now : Int) (pairs (s.to now).pool.S (s.to now).pool.C) = (match (pairs s.pool.S s.pool.C).find? (fun x => x.2.idle c.r.pace now) with | some x => (Value.string ⟨x.1.toArray⟩, true) | none => (.string ⟨#[]⟩, false)) := rfl
 unfold Pool.IdlePost at ID
 have HLT := Lib.hid h.lt
 have NB : Hid (∀ b, w.heap.size ≤ b → b ∉ B.all) := Lib.hid fun b hb hb' => by have := h.lt b hb'; omega
 have HRB := Lib.hid (show B.Q.rb < w.heap.size from (h.ring.each 0 (by have := h.ring.few.1; omega)).rows.1)
 have HH := Lib.hid h
 have hp := h.blk.lt
 have hpn : ¬ B.p = w.heap.size := by omega
 have BX := Lib.hid (Blk.new w [.int .i64 0, .int .i64 0, .int .i64 0] 39)
 have M0 := Lib.hid ((Mod.refl [] w).alloc (.cells #[.int .i64 0, .int .i64 0, .int .i64 0] 39))
 obtain ⟨iv, hiv⟩ : ∃ iv, (firstIdle c.r.pace (now : Int) (pairs (s.to now).pool.S (s.to now).pool.C)).1 = iv := ⟨_, rfl⟩
 obtain ⟨ib, hib⟩ : ∃ ib, (firstIdle c.r.pace (now : Int) (pairs (s.to now).pool.S (s.to now).pool.C)).2 = ib := ⟨_, rfl⟩
 rw [hiv, hib] at ID
 have hik : (idleK c.r (now : Int) (pairs s.pool.S s.pool.C)).isNone = !ib := by
  unfold idleK
  rw [hfi] at hib
  cases hfd : (pairs s.pool.S s.pool.C).find? (fun x => x.2.idle c.r.pace now) with
  | none => rw [hfd] at hib; simp only at hib; subst hib; rfl
  | some x => rw [hfd] at hib; simp only at hib; subst hib; rfl
 have hup := estS_upto (R := c.R) (wd := c.wd) it.cnt (by omega) (by exact hst) key
 have hscI : I64 cost := by unfold I64; omega
 have ES := Lib.hid (fun W (hL : LimAt W B c (s.to now)) => Ring.estimate_any hL.ring HSM.out key hl)
 have WTy := Lib.hid (fun W (hL : LimAt W B c (s.to now)) => Ring.wait_any hL.ring HSM.out key hl cost hscI)
 obtain ⟨es2, he2⟩ : ∃ es2, estS c.R c.wd (s.to (now : Int)).ring key = es2 := ⟨_, rfl⟩
 rw [he2] at ES hup ⊢
 obtain ⟨wt, hwt⟩ : ∃ wt, waitS c.R c.wd (s.to (now : Int)).ring key cost = wt := ⟨_, rfl⟩
 rw [hwt] at WTy ⊢
 obtain ⟨rm, hrm⟩ : ∃ rm, bounded c.r (c.r.limit - es2) = rm := ⟨_, rfl⟩
 have HRB2 := Lib.hid hrm
 rw [hrm]
 obtain ⟨vd, hvd⟩ : ∃ vd : Int, (if 0 < wt then (2 : Int) else 1) = vd := ⟨_, rfl⟩
 have HVD := Lib.hid hvd
 rw [hvd]
 clear hvd
 have HPO := Lib.hid hpo
 have hwr : wrap64 (c.r.limit - es2) = c.r.limit - es2 := by unfold wrap64; omega
 rw [show decide ((s.to (now : Int)).pool.fl = []) = true by simp [Lm.to, hf]] at FU
 rw [hid] at hik
 obtain rfl : ib = false := by have h := hik; cases ib with | false => rfl | true => simp at h
 clear h hi hc hn hl hr it et hst hlim hbur hbig htame hfi hiv hcost hpo hup hscI he2 hwt hrm hf hik hib hid
 go_enter Try.func25, Try.ntmps25
 go_wp2_with fail
 refine RE.out.mono ?_
 rintro e1 w1 ⟨rfl, hM1⟩
 have M1 := Lib.hid ((M0.out.trans hM1).alloc (.cells #[.int .i64 0, .int .i64 0, .int .i64 0] 39))
 have BX1 := Lib.hid ((hM1.blk BX.out (by simp)).alloc (.cells #[.int .i64 0, .int .i64 0, .int .i64 0] 39))
 have k14 := (HH.out.mod0 M1.out).blk.cell (i := 14) rfl
 clear hM1
 go_wp2_with fail
 refine (TO.out _ M1.out).mono ?_
 rintro e2 w2 ⟨⟨v2, rfl⟩, hR2, hM2⟩
 have L2 : Hid (LimAt w2 B c (s.to now)) := Lib.hid ((HH.out.mod0 M1.out).setRing hR2 hM2 (fun b hb => by simp at hb; subst hb; simp [RiB.own]))
 have hM2' : Mod B.all _ w2 := hM2.mono (fun b hb => .inl (by simp at hb; subst hb; exact all_Q B (by simp [RiB.own])))
 have M2 := Lib.hid ((M1.out.mono (S' := B.all) (by simp)).trans hM2')
 have BX2 := Lib.hid (hM2'.blk BX1.out (NB.out _ (Nat.le_refl _)))
 have k13 := L2.out.blk.cell (i := 13) rfl
 clear hR2 hM2 hM2' k14
 go_wp2_with fail
 refine (FI.out w2 L2.out).mono ?_
 rintro e3 w3 ⟨rfl, hM3⟩
 have L3 := Lib.hid (L2.out.mod0 hM3)
 have M3 := Lib.hid (M2.out.trans (hM3.mono (by simp)))
 have BX3 := Lib.hid (hM3.blk BX2.out (by simp))
 clear hM3 k13
 rw [show Pool.cellAt B.P (placeOf (s.to (now : Int)).pool.S key) = .pointer none from by have e := HPO.out; show Pool.cellAt B.P (placeOf s.pool.S key) = _; rw [e]; rfl]
 have k13 := L3.out.blk.cell (i := 13) rfl
 have j9 := L3.out.blk.cell (i := 9) rfl
 have j10 := L3.out.blk.cell (i := 10) rfl
 have j11 := L3.out.blk.cell (i := 11) rfl
 have j12 := L3.out.blk.cell (i := 12) rfl
 go_wp2_with fail
 refine Go.YtndekdafiaogmaaLex.wp_region_lex (by kernel_rfl) (by kernel_rfl) ?_
 go_wp2_with fail
 refine (ID.out _ (L3.out.mod0 (Mod.refl [] w3).drew)).mono ?_
 rintro e4 w40 ⟨rfl, hM4a⟩
 have hM40 := (Mod.refl [] w3).drew.trans hM4a
 have L40 := Lib.hid (L3.out.mod0 hM40)
 have M40 := Lib.hid (M3.out.trans (hM40.mono (by simp)))
 have BX40 := Lib.hid (hM40.blk BX3.out (by simp))
 clear hM40 hM4a k13 j9 j10 j11 j12
 have k13 := L40.out.blk.cell (i := 13) rfl
 go_wp2_with fail
 refine ⟨by kernel_rfl, ?_⟩
 go_wp2_with fail
 refine (FU.out _ L40.out).mono ?_
 rintro e41 w41 ⟨rfl, hM41⟩
 have L41 := Lib.hid (L40.out.mod0 hM41)
 have M41 := Lib.hid (M40.out.trans (hM41.mono (by simp)))
 have BX41 := Lib.hid (hM41.blk BX40.out (by simp))
 clear hM41 k13
 go_upto_region 10 with (fail)
 obtain ⟨w4, hw4⟩ : ∃ w4, w41 = w4 := ⟨_, rfl⟩
 subst hw4
 have L4 := Lib.hid L41.out
 have M4 := Lib.hid M41.out
 have BX4 := Lib.hid BX41.out
 have hs16lt : Hid (w.heap.size < w41.heap.size) := Lib.hid BX4.out.lt
 have hs16 : Hid (w.heap.size ≤ w41.heap.size) := Lib.hid (by have := hs16lt.out; omega)
 have A4 := Lib.hid ((Mod.refl [] w41).alloc (.cells #[.int .i64 1, .int .i64 0, .int .i64 0] 39))
 have AB5 := Lib.hid (Blk.new w41 [.int .i64 1, .int .i64 0, .int .i64 0] 39)
 have L5 := Lib.hid (L4.out.mod0 A4.out)
 have BX5 := Lib.hid (A4.out.blk BX4.out (by simp))
 have N5 := Lib.hid (A4.out.mono (S' := B.all) (by simp))
 have k14 := L5.out.blk.cell (i := 14) rfl
 have k0 := L5.out.blk.cell (i := 0) rfl
 have IS5 := Lib.hid (show IsC (w41.alloc (.cells #[.int .i64 1, .int .i64 0, .int .i64 0] 39)).drew B.p from isC_of_cell (w := w41.alloc _) k0)
 go_wp2_with fail
 refine Go.YtndekdafiaogmaaLex.wp_region_held [12] [5] [] (by kernel_rfl) (by kernel_rfl) ?_
 simp only [wpCut, List.take_succ_cons, List.take_zero, List.drop_succ_cons, List.drop_zero, List.cons_append, List.nil_append]
 go_wp2_with fail
 refine (ES.out _ (L5.out.mod0 (Mod.refl [] _).drew)).mono ?_
 rintro e80 w80 ⟨rfl, hM80a⟩
 have NN80 := Lib.hid hM80a
 have hM80 := (Mod.refl [] (w41.alloc (.cells #[.int .i64 1, .int .i64 0, .int .i64 0] 39))).drew.trans hM80a
 have Q80 := Lib.hid hM80
 have AB80 := Lib.hid (hM80.blk AB5.out (by simp))
 have L80 := Lib.hid (L5.out.mod0 hM80)
 have BX80 := Lib.hid (hM80.blk BX5.out (by simp))
 have N80 := Lib.hid (N5.out.trans (hM80.mono (S' := B.all) (by simp)))
 clear hM80 hM80a k0 k14
 go_wp2_with fail
 refine ⟨NN80.out, ?_⟩
 go_wp2_with fail
 refine (bounded_any L80.out (c.r.limit - es2)).mono ?_
 rintro e8 w81 ⟨rfl, rfl⟩
 rw [HRB2.out]
 have b1 := AB80.out.cell (i := 1) rfl
 have g1 := AB80.out.free 1
 go_wp2_with fail
 refine ⟨by kernel_rfl, ⟨⟨by simp, IS5.out⟩, trivial⟩, ?_⟩
 go_upto_region 15 with (fail)
 have MS82 := Lib.hid ((Mod.refl [w41.heap.size] w80).setCell (p := ⟨w41.heap.size, 1, none⟩) (.inl (by simp)) (.int .i64 rm))
 have AB82 := Lib.hid (AB80.out.set 1 (.int .i64 rm))
 have L82 := Lib.hid (L80.out.mod MS82.out (fun b hb hb' => NB.out w41.heap.size hs16.out (by simp at hb'; rw [← hb']; exact hb)) (fun hb' => by have := HRB.out; have := hs16.out; simp at hb'; omega))
 have BX82 := Lib.hid (MS82.out.blk BX80.out (by have := hs16lt.out; simp; omega))
 have N82 := Lib.hid (N80.out.trans' MS82.out (fun b hb => .inr (by simp at hb; omega)))
 obtain ⟨w82, hw82⟩ : ∃ w82, w80.setCell ⟨w41.heap.size, 1, none⟩ (.int .i64 rm) = w82 := ⟨_, rfl⟩
 rw [hw82] at MS82 AB82 L82 BX82 N82
 simp only [List.set_cons_zero, List.set_cons_succ] at AB82
 rw [hw82]
 clear hw82 b1 g1
 have k14 := L82.out.blk.cell (i := 14) rfl
 go_wp2_with fail
 refine (WTy.out _ L82.out).mono ?_
 rintro e83 w83 ⟨rfl, hM83⟩
 have Q83 := Lib.hid hM83
 have AB83 := Lib.hid (hM83.blk AB82.out (by simp))
 have L83 := Lib.hid (L82.out.mod0 hM83)
 have BX83 := Lib.hid (hM83.blk BX82.out (by simp))
 have N83 := Lib.hid (N82.out.trans (hM83.mono (S' := B.all) (by simp)))
 clear hM83 k14
 have b2 := AB83.out.cell (i := 2) rfl
 have g2 := AB83.out.free 2
 go_upto_region 16 with (fail)
 have MS9 := Lib.hid ((Mod.refl [w41.heap.size] w83).setCell (p := ⟨w41.heap.size, 2, none⟩) (.inl (by simp)) (.int .i64 wt))
 have AB9 := Lib.hid (AB83.out.set 2 (.int .i64 wt))
 have L9 := Lib.hid (L83.out.mod MS9.out (fun b hb hb' => NB.out w41.heap.size hs16.out (by simp at hb'; rw [← hb']; exact hb)) (fun hb' => by have := HRB.out; have := hs16.out; simp at hb'; omega))
 have BX9 := Lib.hid (MS9.out.blk BX83.out (by have := hs16lt.out; simp; omega))
 have N9 := Lib.hid (N83.out.trans' MS9.out (fun b hb => .inr (by simp at hb; omega)))
 obtain ⟨w9, hw9⟩ : ∃ w9, w83.setCell ⟨w41.heap.size, 2, none⟩ (.int .i64 wt) = w9 := ⟨_, rfl⟩
 rw [hw9] at MS9 AB9 L9 BX9 N9
 simp only [List.set_cons_zero, List.set_cons_succ] at AB9
 rw [hw9]
 clear hw9 b2 g2
 have b0 := AB9.out.cell (i := 0) rfl
 have b1 := AB9.out.cell (i := 1) rfl
 have b2 := AB9.out.cell (i := 2) rfl
 have g0 := AB9.out.free 0
 have x0 := BX9.out.cell (i := 0) rfl
 have x1 := BX9.out.cell (i := 1) rfl
 have x2 := BX9.out.cell (i := 2) rfl
 have f0 := BX9.out.free 0
 have f1 := BX9.out.free 1
 have f2 := BX9.out.free 2
 have hne16 : ¬ w41.heap.size = w.heap.size := by have := hs16lt.out; omega
 by_cases hwp : 0 < wt
 ·have d0 : decide (0 < wt) = true := by simp [hwp]
  go_upto_region 18 with (fail)
  have MS91 := Lib.hid ((Mod.refl [w41.heap.size] w9).setCell (p := ⟨w41.heap.size, 0, none⟩) (.inl (by simp)) (.int .i64 2))
  have AB91 := Lib.hid (AB9.out.set 0 (.int .i64 2))
  have L91 := Lib.hid (L9.out.mod MS91.out (fun b hb hb' => NB.out w41.heap.size hs16.out (by simp at hb'; rw [← hb']; exact hb)) (fun hb' => by have := HRB.out; have := hs16.out; simp at hb'; omega))
  have BX91 := Lib.hid (MS91.out.blk BX9.out (by have := hs16lt.out; simp; omega))
  have N91 := Lib.hid (N9.out.trans' MS91.out (fun b hb => .inr (by simp at hb; omega)))
  obtain ⟨w91, hw91⟩ : ∃ w91, w9.setCell ⟨w41.heap.size, 0, none⟩ (.int .i64 2) = w91 := ⟨_, rfl⟩
  rw [hw91] at MS91 AB91 L91 BX91 N91
  simp only [List.set_cons_zero, List.set_cons_succ] at AB91
  rw [hw91]
  clear hw91 b0 b1 b2 x0 x1 x2 f0 f1 f2
  have b0 := AB91.out.cell (i := 0) rfl
  have b1 := AB91.out.cell (i := 1) rfl
  have b2 := AB91.out.cell (i := 2) rfl
  have x0 := BX91.out.cell (i := 0) rfl
  have x1 := BX91.out.cell (i := 1) rfl
  have x2 := BX91.out.cell (i := 2) rfl
  have f0 := BX91.out.free 0
  have f1 := BX91.out.free 1
  have f2 := BX91.out.free 2
  go_wp2_with fail
  have MF := ((((Mod.refl [w.heap.size] w91).setCell (p := ⟨w.heap.size, 0, none⟩) (.inl (by simp)) (.int .i64 2)).setCell (p := ⟨w.heap.size, 1, none⟩) (.inl (by simp)) (.int .i64 rm)).setCell (p := ⟨w.heap.size, 2, none⟩) (.inl (by simp)) (.int .i64 wt))
  refine bodyPost_ret (v := .agg #[.int .i64 2, .int .i64 rm, .int .i64 wt]) (results_cell_row (p := 10) (ty := 39) rfl _ _ w.heap.size 39 #[.int .i64 2, .int .i64 rm, .int .i64 wt] (0, 0) _ rfl (((BX91.out.set 0 (.int .i64 2)).set 1 (.int .i64 rm)).set 2 (.int .i64 wt)) Try.underlying39 rfl (info_size ans_info)) rfl ⟨by rw [← HVD.out, if_pos hwp], L91.out.mod MF (fun b hb hb' => NB.out w.heap.size (Nat.le_refl _) (by simp at hb'; rw [← hb']; exact hb)) (fun hb' => by have := HRB.out; simp at hb'; omega), (M4.out.trans N91.out).trans' MF (fun b hb => .inr (by simp at hb; omega))⟩
 ·have d0 : decide (0 < wt) = false := by simp; omega
  go_wp2_with fail
  have MF := ((((Mod.refl [w.heap.size] w9).setCell (p := ⟨w.heap.size, 0, none⟩) (.inl (by simp)) (.int .i64 1)).setCell (p := ⟨w.heap.size, 1, none⟩) (.inl (by simp)) (.int .i64 rm)).setCell (p := ⟨w.heap.size, 2, none⟩) (.inl (by simp)) (.int .i64 wt))
  refine bodyPost_ret (v := .agg #[.int .i64 1, .int .i64 rm, .int .i64 wt]) (results_cell_row (p := 10) (ty := 39) rfl _ _ w.heap.size 39 #[.int .i64 1, .int .i64 rm, .int .i64 wt] (0, 0) _ rfl (((BX9.out.set 0 (.int .i64 1)).set 1 (.int .i64 rm)).set 2 (.int .i64 wt)) Try.underlying39 rfl (info_size ans_info)) rfl ⟨by rw [← HVD.out, if_neg (by omega)], L9.out.mod MF (fun b hb hb' => NB.out w.heap.size (Nat.le_refl _) (by simp at hb'; rw [← hb']; exact hb)) (fun hb' => by have := HRB.out; simp at hb'; omega), (M4.out.trans N9.out).trans' MF (fun b hb => .inr (by simp at hb; omega))⟩
theorem peek_refused {K : Nat} (h : LimAt w B c s) (now held cost : Int) (key : List UInt8) (a : Ans) (ha : refuse c.r now held cost = some a) :
  Calls Try.prog 25 #[.pointer (some ⟨B.p, 0, none⟩), .int .i64 now, .int .i64 held, .string ⟨key.toArray⟩, .int .i64 cost] w (PeekPost B c a s w) := by
 have RE := Lib.hid (refuse_any (h.mod0 ((Mod.refl [] w).alloc (.cells #[.int .i64 0, .int .i64 0, .int .i64 0] 39))) now held cost)
 rw [ha] at RE
 have HH := Lib.hid h
 have HLT := Lib.hid h.lt
 have HRB := Lib.hid (show B.Q.rb < w.heap.size from (h.ring.each 0 (by have := h.ring.few.1; omega)).rows.1)
 have BX := Lib.hid (Blk.new w [.int .i64 0, .int .i64 0, .int .i64 0] 39)
 have M0 := Lib.hid ((Mod.refl [] w).alloc (.cells #[.int .i64 0, .int .i64 0, .int .i64 0] 39))
 obtain ⟨av, ar, at_⟩ := a
 simp only [ansO, Option.getD_some, Ans.val, Option.isSome_some] at RE ⊢
 clear h ha
 go_enter Try.func25, Try.ntmps25
 go_wp2_with fail
 refine RE.out.mono ?_
 rintro e1 w1 ⟨rfl, hM1⟩
 have AB := Lib.hid (Blk.new w1 [.int .i64 av, .int .i64 ar, .int .i64 at_] 39)
 have A1 := Lib.hid ((Mod.refl [] w1).alloc (.cells #[.int .i64 av, .int .i64 ar, .int .i64 at_] 39))
 have BX1 := Lib.hid (A1.out.blk (hM1.blk BX.out (by simp)) (by simp))
 have M1 := Lib.hid ((M0.out.trans hM1).trans A1.out)
 have hz1 := (M0.out.trans hM1).size
 have hbl := (hM1.blk BX.out (by simp)).lt
 have x0 := BX1.out.cell (i := 0) rfl
 have x1 := BX1.out.cell (i := 1) rfl
 have x2 := BX1.out.cell (i := 2) rfl
 have a0 := AB.out.cell (i := 0) rfl
 have a1 := AB.out.cell (i := 1) rfl
 have a2 := AB.out.cell (i := 2) rfl
 have f0 := BX1.out.free 0
 have f1 := BX1.out.free 1
 have f2 := BX1.out.free 2
 have hne : ¬ w.heap.size = w1.heap.size := by omega
 have hbl' : w.heap.size < w1.heap.size := hbl
 clear hM1
 go_upto_region 3 with (fail)
 obtain ⟨w2, hw2⟩ : ∃ w2, w1.alloc (.cells #[.int .i64 av, .int .i64 ar, .int .i64 at_] 39) = w2 := ⟨_, rfl⟩
 have hw2' : w1.alloc (.cells [.int .i64 av, .int .i64 ar, .int .i64 at_].toArray 39) = w2 := hw2
 rw [hw2] at A1 BX1 M1 x0 x1 x2 f0 f1 f2 ⊢
 rw [hw2'] at AB a0 a1 a2
 clear hw2 hw2'
 go_wp2_with fail
 have MF := ((((Mod.refl [w.heap.size] w2).setCell (p := ⟨w.heap.size, 0, none⟩) (.inl (by simp)) (.int .i64 av)).setCell (p := ⟨w.heap.size, 1, none⟩) (.inl (by simp)) (.int .i64 ar)).setCell (p := ⟨w.heap.size, 2, none⟩) (.inl (by simp)) (.int .i64 at_))
 refine bodyPost_ret (v := .agg #[.int .i64 av, .int .i64 ar, .int .i64 at_]) (results_cell_row (p := 10) (ty := 39) rfl _ _ w.heap.size 39 #[.int .i64 av, .int .i64 ar, .int .i64 at_] (0, 0) _ rfl (((BX1.out.set 0 (.int .i64 av)).set 1 (.int .i64 ar)).set 2 (.int .i64 at_)) Try.underlying39 rfl (info_size ans_info)) rfl ⟨rfl, (HH.out.mod0 M1.out).mod MF (fun b hb hb' => ?_) (fun hb' => ?_), (M1.out.mono (by simp)).trans' MF (fun b hb => .inr (by simp at hb; omega))⟩
 ·have := HLT.out b hb; simp at hb'; omega
 ·have := HRB.out; simp at hb'; omega
theorem peek_any {K : Nat} (h : LimAt w B c s) (hi : Inv c s K) (hc : c.Ok) {now : Nat} (hn : s.ring.now ≤ now) (held : Int) (key : List UInt8) (hl : key.length ≤ 1000000) (cost : Int) :
  Calls Try.prog 25 #[.pointer (some ⟨B.p, 0, none⟩), .int .i64 (now : Int), .int .i64 held, .string ⟨key.toArray⟩, .int .i64 cost] w (PeekPost B c (peek c s now held key cost).1 (peek c s now held key cost).2 w) := by
 cases hr : refuse c.r now held cost with
 | some a =>
   have e : peek c s now held key cost = (a, s) := by unfold peek; rw [hr]
   rw [e]
   exact peek_refused (K := K) h now held cost key a hr
 | none =>
   obtain ⟨hcost, hnow, _⟩ := refuse_none hr
   have hnow' : now < 4611686018427387904 := by omega
   have e : peek c s now held key cost = (peekA c (s.to now) now key cost, s.to now) := by unfold peek; rw [hr]
   rw [e]
   simp only
   cases hp : placeOf s.pool.S key with
   | some i =>
     have e2 : peekA c (s.to (now : Int)) now key cost = ⟨if 0 < (s.pool.C.getD i .zero).wait c.r.pace now cost then 2 else 1, (s.pool.C.getD i .zero).room c.r.pace now, (s.pool.C.getD i .zero).wait c.r.pace now cost⟩ := by
      have e3 : peekC c (s.to (now : Int)) now key = some (s.pool.C.getD i .zero) := by
       unfold peekC; show (match placeOf s.pool.S key with | some i => _ | none => _) = _; rw [hp]; rfl
      unfold peekA; rw [e3]
     rw [e2]
     exact peek_own h hi hc hn hnow' held key hl cost hcost hr hp rfl
   | none =>
     by_cases hf : s.pool.fl = []
     ·cases hid : (idleK c.r (now : Int) (pairs s.pool.S s.pool.C)).isNone with
      | true =>
        have e2 : peekA c (s.to (now : Int)) now key cost = ⟨if 0 < waitS c.R c.wd (s.to (now : Int)).ring key cost then 2 else 1, bounded c.r (c.r.limit - estS c.R c.wd (s.to (now : Int)).ring key), waitS c.R c.wd (s.to (now : Int)).ring key cost⟩ := by
         have e3 : peekC c (s.to (now : Int)) now key = none := by
          unfold peekC; show (match placeOf s.pool.S key with | some i => _ | none => _) = _; rw [hp]; exact if_pos ⟨hf, hid⟩
         unfold peekA; rw [e3]
        rw [e2]
        exact peek_ring h hi hc hn hnow' held key hl cost hcost hr hp hf hid
      | false =>
        have e2 : peekA c (s.to (now : Int)) now key cost = ⟨if 0 < (fresh (now : Int) (estS c.R c.wd (s.to (now : Int)).ring key)).wait c.r.pace now cost then 2 else 1, (fresh (now : Int) (estS c.R c.wd (s.to (now : Int)).ring key)).room c.r.pace now, (fresh (now : Int) (estS c.R c.wd (s.to (now : Int)).ring key)).wait c.r.pace now cost⟩ := by
         have e3 : peekC c (s.to (now : Int)) now key = some (fresh (now : Int) (estS c.R c.wd (s.to (now : Int)).ring key)) := by
          unfold peekC; show (match placeOf s.pool.S key with | some i => _ | none => _) = _; rw [hp]; exact if_neg (fun h => by have := h.2; rw [show (idleK c.r (now : Int) (pairs (s.to (now : Int)).pool.S (s.to (now : Int)).pool.C)).isNone = false from hid] at this; cases this)
         unfold peekA; rw [e3]
        rw [e2]
        exact peek_idle h hi hc hn hnow' held key hl cost hcost hr hp hf hid
     ·have e2 : peekA c (s.to (now : Int)) now key cost = ⟨if 0 < (fresh (now : Int) (estS c.R c.wd (s.to (now : Int)).ring key)).wait c.r.pace now cost then 2 else 1, (fresh (now : Int) (estS c.R c.wd (s.to (now : Int)).ring key)).room c.r.pace now, (fresh (now : Int) (estS c.R c.wd (s.to (now : Int)).ring key)).wait c.r.pace now cost⟩ := by
       have e3 : peekC c (s.to (now : Int)) now key = some (fresh (now : Int) (estS c.R c.wd (s.to (now : Int)).ring key)) := by
        unfold peekC; show (match placeOf s.pool.S key with | some i => _ | none => _) = _; rw [hp]; exact if_neg (fun h => hf h.1)
       unfold peekA; rw [e3]
      rw [e2]
      exact peek_free h hi hc hn hnow' held key hl cost hcost hr hp hf
end
end Go.Proofs.Ytndekdafiaogmaa.Lim
end
section
namespace Go.Proofs.Ytndekdafiaogmaa.Lim
open Go Go.RowKit Go.YtndekdafiaogmaaMem Go.YtndekdafiaogmaaLex Go.Proofs.Ytndekdafiaogmaa.Hash Go.Proofs.Ytndekdafiaogmaa.Arith Go.Proofs.Ytndekdafiaogmaa.Index Go.Proofs.Ytndekdafiaogmaa.Cell Go.Proofs.Ytndekdafiaogmaa.Slot
open Go.Proofs.Ytndekdafiaogmaa.Pool (PS putP remP pairs PB PoolAt firstIdle)
open Go.Proofs.Ytndekdafiaogmaa.Ring (Rs RiB RingAt estS addR waitS massS Small small_get leastV leastV_small ring0)
open Go.Proofs.Ytndekdafiaogmaa.Sum (Ent OkE SB SumAt countE leastOf)
def new0 (c : Cf) : Lm := ⟨⟨emp c.r.cells.toNat, List.range c.r.cells.toNat, List.replicate c.r.cells.toNat Cell.zero⟩, ring0 c.r c.R c.wd, [], 0, 0, 0, 0⟩
def cfOf (r : Rule) (l : List Nat) : Cf := ⟨r, rowsOf l r.rows.toNat, r.width.toNat, r.track.toNat⟩
structure RuleOk (r : Rule) : Prop where
 limit : 1 ≤ r.limit ∧ r.limit ≤ 2147483648
 burst : 1 ≤ r.burst ∧ r.burst ≤ r.limit
 window : 1 ≤ r.window ∧ r.window ≤ 1099511627776
 slots : 1 ≤ r.slots ∧ r.slots ≤ 64 ∧ r.slots ≤ r.window
 cells : 1 ≤ r.cells ∧ r.cells ≤ 1024
 rows : 1 ≤ r.rows ∧ r.rows ≤ 8
 width : 1 ≤ r.width ∧ r.width < 4096
 track : 1 ≤ r.track ∧ r.track ≤ 64
 pace : r.burst * r.pace.unit ≤ 4398046511104 ∧ 1 ≤ r.pace.unit ∧ r.pace.unit ≤ 1099511627776
theorem RuleOk.cf {r : Rule} (h : RuleOk r) (l : List Nat) : (cfOf r l).Ok := by
 obtain ⟨h1, h2, h3, h4, h5, h6, h7, h8, h9⟩ := h
 refine ⟨h1, h2, h3, ⟨rowsOf_ok l _, ?_, ?_⟩, ?_, h9⟩
 ·show 1 ≤ (rowsOf l r.rows.toNat).length ∧ (rowsOf l r.rows.toNat).length ≤ 100
  rw [rowsOf_length]; omega
 ·show 1 ≤ r.width.toNat ∧ r.width.toNat < 4096; omega
 ·show 1 ≤ r.track.toNat ∧ r.track.toNat ≤ 64; omega
theorem new0_inv (c : Cf) (hc : c.Ok) : Inv c (new0 c) 0 := by
 refine ⟨by omega, fun x hx => ?_, ?_, fun N hN => ?_, Sum.ok_nil _, by show (0 : Nat) < 4611686018427387904; decide, by simp [new0], by simp [new0], by simp [new0]⟩
 ·have := List.eq_of_mem_replicate (show x ∈ List.replicate c.r.cells.toNat Cell.zero from hx)
  subst this
  exact zero_in (bu_pos hc) (by omega) (by omega)
 ·show (List.replicate c.r.cells.toNat Cell.zero).length = (emp c.r.cells.toNat).length
  simp [emp]
 ·have := List.eq_of_mem_replicate (show N ∈ List.replicate (c.r.slots.toNat + 1) (List.replicate (c.R.length * c.wd) (0 : Int)) from hN)
  subst this
  exact Upto.zeros 0 _
def LNewPost (c : Cf) (w : World) (e : Ending) (w' : World) : Prop :=
 ∃ B : LB, e = .returned (.pointer (some ⟨B.p, 0, none⟩)) ∧ LimAt w' B c (new0 c) ∧ (∀ b, b ∈ B.all → w.heap.size ≤ b) ∧ w.heap.size ≤ B.Q.rb ∧ Mod [] w w'
theorem rowsPre {w : World} {g n : Nat} {l : List Nat} (h : RowsAt w g (rowsOf l (n + 1))) : RowsAt w g (rowsOf l n) := by
 refine ⟨h.1, fun i r hr => h.2 i r ?_⟩
 rw [rowsOf_succ, List.getElem?_append_left (by exact (List.getElem?_eq_some_iff.1 hr).1)]
 exact hr
set_option maxRecDepth 8000 in
set_option maxHeartbeats 6400000 in
theorem new_any {w : World} {v : Value} {l : List Nat} (hv : Sl w v (v64 l)) (hx : ∀ x, x ∈ l → x < 18446744073709551616) (r : Rule) (hr : RuleOk r) :
  Calls Try.prog 17 #[r.val, v] w (LNewPost (cfOf r l) w) := by
 have HCF := Lib.hid (hr.cf l)
 obtain ⟨q1, q2, q3, q4, q5, q6, q7, q8, q9⟩ := hr
 obtain ⟨rows, hrows⟩ : ∃ n : Nat, r.rows = (n : Int) := ⟨r.rows.toNat, by omega⟩
 obtain ⟨cells, hcells⟩ : ∃ n : Nat, r.cells = (n : Int) := ⟨r.cells.toNat, by omega⟩
 obtain ⟨track, htrack⟩ : ∃ n : Nat, r.track = (n : Int) := ⟨r.track.toNat, by omega⟩
 obtain ⟨slots, hslots⟩ : ∃ n : Nat, r.slots = (n : Int) := ⟨r.slots.toNat, by omega⟩
 obtain ⟨wi, hwi⟩ : ∃ n : Nat, r.window = (n : Int) := ⟨r.window.toNat, by omega⟩
 obtain ⟨wd, hwd⟩ : ∃ n : Nat, r.width = (n : Int) := ⟨r.width.toNat, by omega⟩
 rw [hrows] at q6
 rw [hcells] at q5
 rw [htrack] at q8
 rw [hslots, hwi] at q4
 rw [hwi] at q3
 rw [hwd] at q7
 have hcf : cfOf r l = ⟨r, rowsOf l rows, wd, track⟩ := by unfold cfOf; rw [hrows, hwd, htrack]; rfl
 have hn0 : new0 (cfOf r l) = ⟨⟨emp cells, List.range cells, List.replicate cells Cell.zero⟩, ring0 r (rowsOf l rows) wd, [], 0, 0, 0, 0⟩ := by
  rw [hcf]; unfold new0; rw [hcells]; rfl
 have hgood := HCF.out.good
 rw [hcf] at hgood
 simp only at hgood
 have RA := Lib.hid (fun W (hM : Mod [] w W) => rows_any (hv.mod hM (by simp)) hx (rows + 1) (by omega) (by omega))
 have OF := Lib.hid (fun W : World => Cell.of_any r (by unfold I64; omega) (by unfold I64; omega) (by unfold I64; omega) (by omega) (by omega) (by omega) q2.2 W)
 have PN := Lib.hid (fun W : World => Pool.new_any cells (by omega) (by omega) (Slot.rowAt l rows) (Slot.rowAt_ok l rows) W)
 have RN := Lib.hid (fun (W : World) (g cap : Nat) (hR : RowsAt W g (rowsOf l rows)) => Ring.new_any (rc := cap) hR hgood r slots wi hslots hwi hwd (by omega) ⟨Nat.div_pos (by omega) (by omega), by omega⟩ (by omega))
 have SN := Lib.hid (fun W : World => Sum.new_any track (by omega) (by omega) (Slot.rowAt l rows) (Slot.rowAt_ok l rows) W)
 have HN0 := Lib.hid hn0
 have HCC := Lib.hid hcf
 have BX := Lib.hid (Blk.new w r.vals 29)
 have hpace : r.pace.val = r.pace.val := rfl
 rw [rowsOf_length] at RN
 obtain ⟨pu, hpu⟩ : ∃ pu, r.pace = pu := ⟨_, rfl⟩
 have HPU := Lib.hid hpu
 rw [hpu] at OF
 obtain ⟨p0, p1, p2, p3⟩ := pu
 obtain ⟨lim, window, burst, slotsI, cellsI, rowsI, width, trackI, smooth⟩ := r
 simp only [Rule.vals, Rule.val, Pace.val] at *
 subst hrows hcells htrack hslots hwi hwd
 have ro := fun (W : World) g (h : RowsAt W g (rowsOf l (rows + 1))) => h.2 rows (Slot.rowAt l rows) (by rw [rowsOf_succ, List.getElem?_append_right (by rw [rowsOf_length]; exact Nat.le_refl _), rowsOf_length, Nat.sub_self]; rfl)
 have RO := Lib.hid ro
 obtain ⟨row, hrow⟩ : ∃ row, Slot.rowAt l rows = row := ⟨_, rfl⟩
 rw [hrow] at RO PN SN
 obtain ⟨rx, ra, rb⟩ := row
 simp only at RO PN SN
 have hq6 : rows ≤ 8 := by omega
 clear hv hx q1 q2 q3 q4 q5 q7 q8 q9 hgood hcf hn0 hpace hpu ro hrow q6
 go_enter Try.func17, Try.ntmps17
 go_wp2_with fail
 refine (RA.out _ ((Mod.refl [] w).alloc _)).mono ?_
 rintro e1 w1 ⟨g, cap, rfl, hg, hcap, hcm, hRA, hM1⟩
 have R1 := Lib.hid hRA
 have BX1 := Lib.hid (hM1.blk BX.out (by simp))
 have M1 := Lib.hid (((Mod.refl [] w).alloc (.cells #[.int .i64 lim, .int .i64 (wi : Int), .int .i64 burst, .int .i64 (slots : Int), .int .i64 (cells : Int), .int .i64 (rows : Int), .int .i64 (wd : Int), .int .i64 (track : Int), .bool smooth] 29)).trans hM1)
 obtain ⟨x0, x1, x2⟩ := RO.out w1 g hRA
 have hgl := hRA.1
 have hg0 : w.heap.size + 1 ≤ g := by simpa using hg
 clear hRA hM1 hg
 go_wp2_with fail
 have RB1 := Lib.hid (Blk.new w1 [.int .u64 (rx : Int), .int .u64 (ra : Int), .int .u64 (rb : Int)] 75)
 have A2 := Lib.hid ((Mod.refl [] w1).alloc (.cells #[.int .u64 (rx : Int), .int .u64 (ra : Int), .int .u64 (rb : Int)] 75))
 obtain ⟨w2, hw2⟩ : ∃ w2, w1.alloc (.cells #[.int .u64 (rx : Int), .int .u64 (ra : Int), .int .u64 (rb : Int)] 75) = w2 := ⟨_, rfl⟩
 have RB2 : Hid (Blk w2 w1.heap.size 75 [.int .u64 (rx : Int), .int .u64 (ra : Int), .int .u64 (rb : Int)]) := Lib.hid (by rw [← hw2]; exact RB1.out)
 rw [hw2] at A2 ⊢
 have BX2 := Lib.hid (A2.out.blk BX1.out (by simp))
 have R2 := Lib.hid (rowsPre (R1.out.mod A2.out (by simp)))
 have M2 := Lib.hid (M1.out.trans A2.out)
 have N2 := Lib.hid (Mod.refl [] w2.drew)
 have I1 := Lib.hid (show IsC w2.drew w.heap.size from isC_of_cell (w := w2) (BX2.out.cell (i := 0) rfl))
 have I2 := Lib.hid (show IsC w2.drew w1.heap.size from isC_of_cell (w := w2) (RB2.out.cell (i := 0) rfl))
 have b0 := BX2.out.cell (i := 0) rfl
 have b1 := BX2.out.cell (i := 1) rfl
 have b2 := BX2.out.cell (i := 2) rfl
 have b3 := BX2.out.cell (i := 3) rfl
 have b4 := BX2.out.cell (i := 4) rfl
 have b5 := BX2.out.cell (i := 5) rfl
 have b6 := BX2.out.cell (i := 6) rfl
 have b7 := BX2.out.cell (i := 7) rfl
 have b8 := BX2.out.cell (i := 8) rfl
 have r0 := RB2.out.cell (i := 0) rfl
 have r1 := RB2.out.cell (i := 1) rfl
 have r2 := RB2.out.cell (i := 2) rfl
 have hz2 : w.heap.size ≤ w2.heap.size := M2.out.size
 have hgl2 : g < w2.heap.size := R2.out.1
 clear hw2 RB1 x0 x1 x2
 refine Go.YtndekdafiaogmaaLex.wp_region_held [3, 4, 6, 4] [0, 4, 5, 7, 10, 14, 15] [] (by kernel_rfl) (by kernel_rfl) ?_
 simp only [wpCut, List.take_succ_cons, List.take_zero, List.drop_succ_cons, List.drop_zero, List.cons_append, List.nil_append]
 go_wp2_with fail
 refine (OF.out _).mono ?_
 rintro e3 w3 ⟨rfl, hM3⟩
 have BX3 := Lib.hid (hM3.blk BX2.out (by simp))
 have RB3 := Lib.hid (hM3.blk RB2.out (by simp))
 have N3 := Lib.hid (N2.out.trans hM3)
 have z3 : w2.heap.size ≤ w3.heap.size := hM3.size
 clear b0 b1 b2 b3 b4 b5 b6 b7 b8 r0 r1 r2
 have b0 := BX3.out.cell (i := 0) rfl
 have b1 := BX3.out.cell (i := 1) rfl
 have b2 := BX3.out.cell (i := 2) rfl
 have b3 := BX3.out.cell (i := 3) rfl
 have b4 := BX3.out.cell (i := 4) rfl
 have b5 := BX3.out.cell (i := 5) rfl
 have b6 := BX3.out.cell (i := 6) rfl
 have b7 := BX3.out.cell (i := 7) rfl
 have b8 := BX3.out.cell (i := 8) rfl
 have r0 := RB3.out.cell (i := 0) rfl
 have r1 := RB3.out.cell (i := 1) rfl
 have r2 := RB3.out.cell (i := 2) rfl
 clear hM3
 go_wp2_with fail
 refine ⟨N3.out, ?_⟩
 go_wp2_with fail
 refine (PN.out _).mono ?_
 rintro e4 w4 ⟨PBk, rfl, hP4, hPB, hPr, hM4⟩
 have BX4 := Lib.hid (hM4.blk BX3.out (by simp))
 have RB4 := Lib.hid (hM4.blk RB3.out (by simp))
 have N4 := Lib.hid (N3.out.trans hM4)
 have z4 : w3.heap.size ≤ w4.heap.size := hM4.size
 clear b0 b1 b2 b3 b4 b5 b6 b7 b8 r0 r1 r2
 have b0 := BX4.out.cell (i := 0) rfl
 have b1 := BX4.out.cell (i := 1) rfl
 have b2 := BX4.out.cell (i := 2) rfl
 have b3 := BX4.out.cell (i := 3) rfl
 have b4 := BX4.out.cell (i := 4) rfl
 have b5 := BX4.out.cell (i := 5) rfl
 have b6 := BX4.out.cell (i := 6) rfl
 have b7 := BX4.out.cell (i := 7) rfl
 have b8 := BX4.out.cell (i := 8) rfl
 have r0 := RB4.out.cell (i := 0) rfl
 have r1 := RB4.out.cell (i := 1) rfl
 have r2 := RB4.out.cell (i := 2) rfl
 have P4 := Lib.hid hP4
 have PL := Lib.hid hPB
 clear hM4 hP4 hPB hPr
 go_wp2_with fail
 refine ⟨N4.out, ?_⟩
 go_wp2_with fail
 refine (RN.out _ g cap ((show RowsAt w2.drew g (rowsOf l rows) from R2.out).mod N4.out (by simp))).mono ?_
 rintro e5 w5 ⟨QB, rfl, hrb, hR5, hQB, hM5⟩
 have BX5 := Lib.hid (hM5.blk BX4.out (by simp))
 have RB5 := Lib.hid (hM5.blk RB4.out (by simp))
 have N5 := Lib.hid (N4.out.trans hM5)
 have z5 : w4.heap.size ≤ w5.heap.size := hM5.size
 clear b0 b1 b2 b3 b4 b5 b6 b7 b8 r0 r1 r2
 have b0 := BX5.out.cell (i := 0) rfl
 have b1 := BX5.out.cell (i := 1) rfl
 have b2 := BX5.out.cell (i := 2) rfl
 have b3 := BX5.out.cell (i := 3) rfl
 have b4 := BX5.out.cell (i := 4) rfl
 have b5 := BX5.out.cell (i := 5) rfl
 have b6 := BX5.out.cell (i := 6) rfl
 have b7 := BX5.out.cell (i := 7) rfl
 have b8 := BX5.out.cell (i := 8) rfl
 have r0 := RB5.out.cell (i := 0) rfl
 have r1 := RB5.out.cell (i := 1) rfl
 have r2 := RB5.out.cell (i := 2) rfl
 have R5 := Lib.hid hR5
 have QL := Lib.hid hQB
 have HRBE := Lib.hid hrb
 have P5 := Lib.hid (P4.out.mod hM5 (by simp))
 clear hM5 hR5 hQB hrb
 go_wp2_with fail
 refine ⟨N5.out, ?_⟩
 go_wp2_with fail
 refine (SN.out _).mono ?_
 rintro e6 w6 ⟨SBk, rfl, hS6, hSB, hM6⟩
 have BX6 := Lib.hid (hM6.blk BX5.out (by simp))
 have RB6 := Lib.hid (hM6.blk RB5.out (by simp))
 have N6 := Lib.hid (N5.out.trans hM6)
 have z6 : w5.heap.size ≤ w6.heap.size := hM6.size
 clear b0 b1 b2 b3 b4 b5 b6 b7 b8 r0 r1 r2
 have b0 := BX6.out.cell (i := 0) rfl
 have b1 := BX6.out.cell (i := 1) rfl
 have b2 := BX6.out.cell (i := 2) rfl
 have b3 := BX6.out.cell (i := 3) rfl
 have b4 := BX6.out.cell (i := 4) rfl
 have b5 := BX6.out.cell (i := 5) rfl
 have b6 := BX6.out.cell (i := 6) rfl
 have b7 := BX6.out.cell (i := 7) rfl
 have b8 := BX6.out.cell (i := 8) rfl
 have r0 := RB6.out.cell (i := 0) rfl
 have r1 := RB6.out.cell (i := 1) rfl
 have r2 := RB6.out.cell (i := 2) rfl
 have S6 := Lib.hid hS6
 have SL := Lib.hid hSB
 have P6 := Lib.hid (P5.out.mod hM6 (by simp))
 have R6 := Lib.hid (R5.out.mod hM6 (by simp) (by simp))
 have LT4 := Lib.hid P4.out.lt
 have LT5 := Lib.hid (ring_lt R5.out)
 have LT6 := Lib.hid S6.out.lt
 clear hM6 hS6 hSB
 go_wp2_with fail
 refine ⟨N6.out, ?_⟩
 go_wp2_with fail
 refine ⟨by kernel_rfl, ⟨⟨by simp, I1.out⟩, ⟨by simp, I1.out⟩, ⟨by simp, I2.out⟩, ⟨by simp, I1.out⟩, ⟨by simp, I1.out⟩, ⟨by simp, I1.out⟩, ⟨by simp, I2.out⟩, trivial⟩, ?_⟩
 go_wp2_with fail
 go_ret
 have hsz : w.heap.size ≤ w1.heap.size := M1.out.size
 have A6 := (Mod.refl [] w6).alloc (.cells #[.int .i64 lim, .int .i64 (wi : Int), .int .i64 burst, .int .i64 (slots : Int), .int .i64 (cells : Int), .int .i64 (rows : Int), .int .i64 (wd : Int), .int .i64 (track : Int), .bool smooth, .int .i64 p0, .int .i64 p1, .int .i64 p2, .int .i64 p3, .pointer (some ⟨PBk.p, 0, none⟩), .pointer (some ⟨QB.p, 0, none⟩), .pointer (some ⟨SBk.p, 0, none⟩), .int .i64 0, .int .i64 0, .int .i64 0, .int .i64 0, .int .i64 0] 86)
 have hM : Mod [] w w6 := M2.out.trans (((Mod.refl [] w2).drew).trans N6.out)
 have hlim : limV (cfOf ⟨lim, wi, burst, slots, cells, rows, wd, track, smooth⟩ l) ⟨w6.heap.size, PBk, QB, SBk⟩ (new0 (cfOf ⟨lim, wi, burst, slots, cells, rows, wd, track, smooth⟩ l)) = [.int .i64 lim, .int .i64 (wi : Int), .int .i64 burst, .int .i64 (slots : Int), .int .i64 (cells : Int), .int .i64 (rows : Int), .int .i64 (wd : Int), .int .i64 (track : Int), .bool smooth, .int .i64 p0, .int .i64 p1, .int .i64 p2, .int .i64 p3, .pointer (some ⟨PBk.p, 0, none⟩), .pointer (some ⟨QB.p, 0, none⟩), .pointer (some ⟨SBk.p, 0, none⟩), .int .i64 0, .int .i64 0, .int .i64 0, .int .i64 0, .int .i64 0] := by
  unfold limV
  rw [HN0.out, HCC.out]
  simp only [HPU.out]
 refine ⟨⟨w6.heap.size, PBk, QB, SBk⟩, rfl, ⟨?_, ?_, ?_, ?_, ⟨⟨fun h => ?_, fun h => ?_, fun h => ?_⟩, fun b h1 h2 => ?_, fun b h1 h2 => ?_, fun b h1 h2 => ?_, ⟨?_, fun h => ?_, fun h => ?_⟩⟩⟩, fun b hb => ?_, ?_, hM.trans A6⟩
 ·rw [hlim]; exact Blk.new w6 _ _
 ·rw [HN0.out]; exact P6.out.mod A6 (by simp)
 ·rw [HN0.out, HCC.out]; exact R6.out.mod A6 (by simp) (by simp)
 ·rw [HN0.out, HCC.out]; exact S6.out.mod A6 (by simp)
 ·have h2 : w6.heap.size < w4.heap.size := LT4.out _ h; omega
 ·have h2 : w6.heap.size < w5.heap.size := LT5.out _ h; omega
 ·have h2 : w6.heap.size < w6.heap.size := LT6.out _ h; omega
 ·have := LT4.out _ h1; have := QL.out _ h2; omega
 ·have := LT4.out _ h1; have := SL.out _ h2; omega
 ·have := LT5.out _ h1; have := SL.out _ h2; omega
 ·show QB.rb ≠ w6.heap.size; rw [HRBE.out]; omega
 ·have h2 : w3.heap.size ≤ QB.rb := PL.out _ h; rw [HRBE.out] at h2; omega
 ·have h2 : w5.heap.size ≤ QB.rb := SL.out _ h; rw [HRBE.out] at h2; omega
 ·simp only [LB.all, List.mem_cons, List.mem_append] at hb
  rcases hb with rfl | hb | hb | hb
  ·omega
  ·have := PL.out _ hb; omega
  ·have := QL.out _ hb; omega
  ·have := SL.out _ hb; omega
 ·show w.heap.size ≤ QB.rb; rw [HRBE.out]; omega
end Go.Proofs.Ytndekdafiaogmaa.Lim
end
section
namespace Go.Proofs.Ytndekdafiaogmaa.Lim
open Go Go.RowKit Go.YtndekdafiaogmaaMem Go.YtndekdafiaogmaaLex Go.Proofs.Ytndekdafiaogmaa.Hash Go.Proofs.Ytndekdafiaogmaa.Arith Go.Proofs.Ytndekdafiaogmaa.Index Go.Proofs.Ytndekdafiaogmaa.Cell Go.Proofs.Ytndekdafiaogmaa.Slot
open Go.Proofs.Ytndekdafiaogmaa.Pool (PS putP remP pairs PB PoolAt firstIdle)
open Go.Proofs.Ytndekdafiaogmaa.Ring (Rs RiB RingAt estS addR waitS massS Small small_get leastV leastV_small ring0)
open Go.Proofs.Ytndekdafiaogmaa.Sum (Ent OkE SB SumAt countE leastOf)
structure Plan where
 limit : Int
 window : Int
 burst : Int
 slots : Int
 cells : Int
 rows : Int
 width : Int
 track : Int
 smooth : Bool
abbrev Plan.val (p : Plan) : Value := .agg #[.int .i64 p.limit, .int .i64 p.window, .int .i64 p.burst, .int .i64 p.slots, .int .i64 p.cells, .int .i64 p.rows, .int .i64 p.width, .int .i64 p.track, .bool p.smooth]
abbrev ba (z k : Int) : Int := bits .and .i64 z k
theorem ba31 (z : Int) : 0 ≤ ba z 31 ∧ ba z 31 < 32 := by unfold ba; rw [show (31 : Int) = 2 ^ 5 - 1 from rfl, and_mask _ _ (by omega)]; omega
theorem ba7 (z : Int) : 0 ≤ ba z 7 ∧ ba z 7 < 8 := by unfold ba; rw [show (7 : Int) = 2 ^ 3 - 1 from rfl, and_mask _ _ (by omega)]; omega
theorem ba3 (z : Int) : 0 ≤ ba z 3 ∧ ba z 3 < 4 := by unfold ba; rw [show (3 : Int) = 2 ^ 2 - 1 from rfl, and_mask _ _ (by omega)]; omega
theorem ba15 (z : Int) : 0 ≤ ba z 15 ∧ ba z 15 < 16 := by unfold ba; rw [show (15 : Int) = 2 ^ 4 - 1 from rfl, and_mask _ _ (by omega)]; omega
theorem ba63 (z : Int) : 0 ≤ ba z 63 ∧ ba z 63 < 64 := by unfold ba; rw [show (63 : Int) = 2 ^ 6 - 1 from rfl, and_mask _ _ (by omega)]; omega
theorem ba1023 (z : Int) : 0 ≤ ba z 1023 ∧ ba z 1023 < 1024 := by unfold ba; rw [show (1023 : Int) = 2 ^ 10 - 1 from rfl, and_mask _ _ (by omega)]; omega
def Plan.rule (p : Plan) : Rule :=
 ⟨ba p.limit 31 + 1, (ba p.window 31 + 1) * (ba p.slots 7 + 1), (ba p.burst 31).tmod (ba p.limit 31 + 1) + 1, ba p.slots 7 + 1, ba p.cells 7 + 1, ba p.rows 3 + 1, ba p.width 15 + 1, ba p.track 7 + 1, p.smooth && decide (1 < ba p.slots 7 + 1)⟩
theorem tmod_in {a b : Int} (ha : 0 ≤ a) (hb : 1 ≤ b) : 0 ≤ a.tmod b ∧ a.tmod b < b := by
 rw [Int.tmod_eq_emod_of_nonneg ha]
 exact ⟨Int.emod_nonneg _ (by omega), Int.emod_lt_of_pos _ (by omega)⟩
theorem rule_info : (Try.prog.info? 29).map (fun i => (i.zero, i.size, i.bytes)) = some (some (.agg #[.int .i64 0, .int .i64 0, .int .i64 0, .int .i64 0, .int .i64 0, .int .i64 0, .int .i64 0, .int .i64 0, .bool false]), 9, 72) := by kernel_rfl
set_option maxRecDepth 8000 in
set_option maxHeartbeats 1600000 in
theorem rule_any (p : Plan) (w : World) : Calls Try.prog 16 #[p.val] w fun e w' => e = .returned p.rule.val ∧ Mod [] w w' := by
 have hr : p.rule = ⟨ba p.limit 31 + 1, (ba p.window 31 + 1) * (ba p.slots 7 + 1), (ba p.burst 31).tmod (ba p.limit 31 + 1) + 1, ba p.slots 7 + 1, ba p.cells 7 + 1, ba p.rows 3 + 1, ba p.width 15 + 1, ba p.track 7 + 1, p.smooth && decide (1 < ba p.slots 7 + 1)⟩ := rfl
 rw [hr]
 obtain ⟨p0, p1, p2, p3, p4, p5, p6, p7, p8⟩ := p
 simp only [Plan.val, Rule.val]
 obtain ⟨a0, h0, b0, c0⟩ : ∃ a, bits .and .i64 p0 31 = a ∧ 0 ≤ a ∧ a < 32 := ⟨_, rfl, ba31 p0⟩
 obtain ⟨a1, h1, b1, c1⟩ : ∃ a, bits .and .i64 p1 31 = a ∧ 0 ≤ a ∧ a < 32 := ⟨_, rfl, ba31 p1⟩
 obtain ⟨a2, h2, b2, c2⟩ : ∃ a, bits .and .i64 p2 31 = a ∧ 0 ≤ a ∧ a < 32 := ⟨_, rfl, ba31 p2⟩
 obtain ⟨a3, h3, b3, c3⟩ : ∃ a, bits .and .i64 p3 7 = a ∧ 0 ≤ a ∧ a < 8 := ⟨_, rfl, ba7 p3⟩
 obtain ⟨a4, h4, b4, c4⟩ : ∃ a, bits .and .i64 p4 7 = a ∧ 0 ≤ a ∧ a < 8 := ⟨_, rfl, ba7 p4⟩
 obtain ⟨a5, h5, b5, c5⟩ : ∃ a, bits .and .i64 p5 3 = a ∧ 0 ≤ a ∧ a < 4 := ⟨_, rfl, ba3 p5⟩
 obtain ⟨a6, h6, b6, c6⟩ : ∃ a, bits .and .i64 p6 15 = a ∧ 0 ≤ a ∧ a < 16 := ⟨_, rfl, ba15 p6⟩
 obtain ⟨a7, h7, b7, c7⟩ : ∃ a, bits .and .i64 p7 7 = a ∧ 0 ≤ a ∧ a < 8 := ⟨_, rfl, ba7 p7⟩
 unfold ba
 rw [h0, h1, h2, h3, h4, h5, h6, h7]
 have w0 : wrap64 (a0 + 1) = a0 + 1 := by unfold wrap64; omega
 have w1 : wrap64 (a1 + 1) = a1 + 1 := by unfold wrap64; omega
 have w3 : wrap64 (a3 + 1) = a3 + 1 := by unfold wrap64; omega
 have w4 : wrap64 (a4 + 1) = a4 + 1 := by unfold wrap64; omega
 have w5 : wrap64 (a5 + 1) = a5 + 1 := by unfold wrap64; omega
 have w6 : wrap64 (a6 + 1) = a6 + 1 := by unfold wrap64; omega
 have w7 : wrap64 (a7 + 1) = a7 + 1 := by unfold wrap64; omega
 obtain ⟨q, hq⟩ : ∃ q, a2.tmod (a0 + 1) = q := ⟨_, rfl⟩
 have hqi := tmod_in b2 (show 1 ≤ a0 + 1 by omega)
 rw [hq] at hqi
 have hqe : a2 % (a0 + 1) = q := by rw [← hq, Int.tmod_eq_emod_of_nonneg b2]
 have wq : wrap64 (q + 1) = q + 1 := by unfold wrap64; omega
 have hm0 : 0 ≤ (a1 + 1) * (a3 + 1) := Int.mul_nonneg (by omega) (by omega)
 have hm1 : (a1 + 1) * (a3 + 1) ≤ 32 * 8 := Int.mul_le_mul (by omega) (by omega) (by omega) (by omega)
 obtain ⟨wn, hwn⟩ : ∃ wn, (a1 + 1) * (a3 + 1) = wn := ⟨_, rfl⟩
 rw [hwn] at hm0 hm1
 have ww : wrap64 wn = wn := by unfold wrap64; omega
 rw [hq, hwn]
 have hl0 : ¬ a0 + 1 = 0 := by omega
 have hl1 : ¬ a0 + 1 = -1 := by omega
 have hl2 : ¬ a0 = -1 := by omega
 have BX := Lib.hid (Blk.new w [.int .i64 p0, .int .i64 p1, .int .i64 p2, .int .i64 p3, .int .i64 p4, .int .i64 p5, .int .i64 p6, .int .i64 p7, .bool p8] 23)
 have IS := Lib.hid (show IsC ((w.alloc (.cells #[.int .i64 p0, .int .i64 p1, .int .i64 p2, .int .i64 p3, .int .i64 p4, .int .i64 p5, .int .i64 p6, .int .i64 p7, .bool p8] 23)).alloc (.cells #[.int .i64 0, .int .i64 0, .int .i64 0, .int .i64 0, .int .i64 0, .int .i64 0, .int .i64 0, .int .i64 0, .bool false] 29)).drew w.heap.size from isC_of_cell (w := (w.alloc _).alloc _) ((BX.out.alloc _).cell (i := 0) rfl))
 obtain ⟨sm, hsm⟩ : ∃ sm, decide (1 < a3 + 1) = sm := ⟨_, rfl⟩
 clear hm0 hm1 hqi
 rw [hsm]
 cases p8
 all_goals
  go_enter Try.func16, Try.ntmps16
  go_wp2_with fail
  refine Go.YtndekdafiaogmaaLex.wp_region_held [] [2, 8, 15, 19, 23, 27] [] (by kernel_rfl) (by kernel_rfl) ?_
  simp only [wpCut, List.take_succ_cons, List.take_zero, List.drop_succ_cons, List.drop_zero, List.cons_append, List.nil_append]
  go_wp2_with fail
  refine ⟨by kernel_rfl, ⟨⟨by simp, IS.out⟩, ⟨by simp, IS.out⟩, ⟨by simp, IS.out⟩, ⟨by simp, IS.out⟩, ⟨by simp, IS.out⟩, ⟨by simp, IS.out⟩, trivial⟩, ?_⟩
  go_wp2_with fail
 ·
  have ZB := (Blk.new (w.alloc (.cells #[.int .i64 p0, .int .i64 p1, .int .i64 p2, .int .i64 p3, .int .i64 p4, .int .i64 p5, .int .i64 p6, .int .i64 p7, .bool false] 23)) [.int .i64 (a0 + 1), .int .i64 wn, .int .i64 (q + 1), .int .i64 (a3 + 1), .int .i64 (a4 + 1), .int .i64 (a5 + 1), .int .i64 (a6 + 1), .int .i64 (a7 + 1), .bool false] 29).alloc (.cells #[.int .i64 (a0 + 1), .int .i64 wn, .int .i64 (q + 1), .int .i64 (a3 + 1), .int .i64 (a4 + 1), .int .i64 (a5 + 1), .int .i64 (a6 + 1), .int .i64 (a7 + 1), .bool false] 29)
  rw [show (w.alloc (.cells #[.int .i64 p0, .int .i64 p1, .int .i64 p2, .int .i64 p3, .int .i64 p4, .int .i64 p5, .int .i64 p6, .int .i64 p7, .bool false] 23)).heap.size = w.heap.size + 1 by simp] at ZB
  exact bodyPost_ret (v := .agg #[.int .i64 (a0 + 1), .int .i64 wn, .int .i64 (q + 1), .int .i64 (a3 + 1), .int .i64 (a4 + 1), .int .i64 (a5 + 1), .int .i64 (a6 + 1), .int .i64 (a7 + 1), .bool false]) (results_cell_row (p := 2) (ty := 29) rfl _ _ (w.heap.size + 1) 29 #[.int .i64 (a0 + 1), .int .i64 wn, .int .i64 (q + 1), .int .i64 (a3 + 1), .int .i64 (a4 + 1), .int .i64 (a5 + 1), .int .i64 (a6 + 1), .int .i64 (a7 + 1), .bool false] (0, 0) _ rfl ZB Try.underlying29 rfl (info_size rule_info)) rfl ⟨rfl, ((((Mod.refl [] w).alloc _).alloc _).alloc _).drew⟩
 ·
  have ZB := (Blk.new (w.alloc (.cells #[.int .i64 p0, .int .i64 p1, .int .i64 p2, .int .i64 p3, .int .i64 p4, .int .i64 p5, .int .i64 p6, .int .i64 p7, .bool true] 23)) [.int .i64 (a0 + 1), .int .i64 wn, .int .i64 (q + 1), .int .i64 (a3 + 1), .int .i64 (a4 + 1), .int .i64 (a5 + 1), .int .i64 (a6 + 1), .int .i64 (a7 + 1), .bool sm] 29).alloc (.cells #[.int .i64 (a0 + 1), .int .i64 wn, .int .i64 (q + 1), .int .i64 (a3 + 1), .int .i64 (a4 + 1), .int .i64 (a5 + 1), .int .i64 (a6 + 1), .int .i64 (a7 + 1), .bool sm] 29)
  rw [show (w.alloc (.cells #[.int .i64 p0, .int .i64 p1, .int .i64 p2, .int .i64 p3, .int .i64 p4, .int .i64 p5, .int .i64 p6, .int .i64 p7, .bool true] 23)).heap.size = w.heap.size + 1 by simp] at ZB
  exact bodyPost_ret (v := .agg #[.int .i64 (a0 + 1), .int .i64 wn, .int .i64 (q + 1), .int .i64 (a3 + 1), .int .i64 (a4 + 1), .int .i64 (a5 + 1), .int .i64 (a6 + 1), .int .i64 (a7 + 1), .bool sm]) (results_cell_row (p := 2) (ty := 29) rfl _ _ (w.heap.size + 1) 29 #[.int .i64 (a0 + 1), .int .i64 wn, .int .i64 (q + 1), .int .i64 (a3 + 1), .int .i64 (a4 + 1), .int .i64 (a5 + 1), .int .i64 (a6 + 1), .int .i64 (a7 + 1), .bool sm] (0, 0) _ rfl ZB Try.underlying29 rfl (info_size rule_info)) rfl ⟨rfl, ((((Mod.refl [] w).alloc _).alloc _).alloc _).drew⟩
theorem rule_ok (p : Plan) : RuleOk p.rule ∧ p.rule.limit ≤ 32 := by
 have h0 := ba31 p.limit
 have h1 := ba31 p.window
 have h2 := ba31 p.burst
 have h3 := ba7 p.slots
 have h4 := ba7 p.cells
 have h5 := ba3 p.rows
 have h6 := ba15 p.width
 have h7 := ba7 p.track
 have hq := tmod_in h2.1 (show 1 ≤ ba p.limit 31 + 1 by omega)
 have hm0 : 1 * 1 ≤ (ba p.window 31 + 1) * (ba p.slots 7 + 1) := Int.mul_le_mul (by omega) (by omega) (by omega) (by omega)
 have hm1 : (ba p.window 31 + 1) * (ba p.slots 7 + 1) ≤ 32 * 8 := Int.mul_le_mul (by omega) (by omega) (by omega) (by omega)
 have hm2 : 1 * (ba p.slots 7 + 1) ≤ (ba p.window 31 + 1) * (ba p.slots 7 + 1) := Int.mul_le_mul_of_nonneg_right (by omega) (by omega)
 have hr : p.rule = ⟨ba p.limit 31 + 1, (ba p.window 31 + 1) * (ba p.slots 7 + 1), (ba p.burst 31).tmod (ba p.limit 31 + 1) + 1, ba p.slots 7 + 1, ba p.cells 7 + 1, ba p.rows 3 + 1, ba p.width 15 + 1, ba p.track 7 + 1, p.smooth && decide (1 < ba p.slots 7 + 1)⟩ := rfl
 obtain ⟨r, hr'⟩ : ∃ r, p.rule = r := ⟨_, rfl⟩
 rw [hr'] at hr ⊢
 generalize (ba p.window 31 + 1) * (ba p.slots 7 + 1) = wn at *
 generalize (ba p.burst 31).tmod (ba p.limit 31 + 1) = q at *
 generalize ba p.limit 31 = a0 at *
 generalize ba p.slots 7 = a3 at *
 generalize ba p.cells 7 = a4 at *
 generalize ba p.rows 3 = a5 at *
 generalize ba p.width 15 = a6 at *
 generalize ba p.track 7 = a7 at *
 subst hr
 have hc0 : 0 ≤ wn / (a0 + 1 + 1 - (q + 1)) := Int.ediv_nonneg (by omega) (by omega)
 have hc1 : wn / (a0 + 1 + 1 - (q + 1)) ≤ wn := Int.ediv_le_self _ (by omega)
 have hce : ceil wn (a0 + 1 + 1 - (q + 1)) = wn / (a0 + 1 + 1 - (q + 1)) + (if 0 < wn % (a0 + 1 + 1 - (q + 1)) then 1 else 0) := by unfold ceil; rw [if_neg (by omega)]
 have hu : 1 ≤ ceil wn (a0 + 1 + 1 - (q + 1)) ∧ ceil wn (a0 + 1 + 1 - (q + 1)) ≤ 257 := by
  have hdm := Int.mul_ediv_add_emod wn (a0 + 1 + 1 - (q + 1))
  have hr0 := Int.emod_nonneg wn (show (a0 + 1 + 1 - (q + 1)) ≠ 0 by omega)
  rw [hce]
  split
  ·omega
  ·rename_i hn
   have hz : wn % (a0 + 1 + 1 - (q + 1)) = 0 := by omega
   rw [hz] at hdm
   refine ⟨?_, by omega⟩
   rcases Int.lt_or_eq_of_le hc0 with h | h
   ·omega
   ·rw [← h] at hdm; simp at hdm; omega
 have hbu : (q + 1) * ceil wn (a0 + 1 + 1 - (q + 1)) ≤ 32 * 257 := Int.mul_le_mul (by omega) (by omega) (by omega) (by omega)
 refine ⟨⟨?_, ?_, ?_, ?_, ?_, ?_, ?_, ?_, ?_⟩, ?_⟩
 all_goals simp only [Rule.pace]
 all_goals omega
end Go.Proofs.Ytndekdafiaogmaa.Lim
end
section
namespace Go.Proofs.Ytndekdafiaogmaa.Lim
open Go Go.RowKit Go.YtndekdafiaogmaaMem Go.YtndekdafiaogmaaLex Go.Proofs.Ytndekdafiaogmaa.Hash Go.Proofs.Ytndekdafiaogmaa.Arith Go.Proofs.Ytndekdafiaogmaa.Index Go.Proofs.Ytndekdafiaogmaa.Cell Go.Proofs.Ytndekdafiaogmaa.Slot
structure Call where
 gap : Int
 cost : Int
 key : List UInt8
 peek : Bool
deriving Inhabited
def Call.cells (q : Call) : List Value := [.int .i64 q.gap, .int .i64 q.cost, .string ⟨q.key.toArray⟩, .bool q.peek]
def Call.ok (q : Call) : Prop := (Lit.int .i64 q.gap).wf = true ∧ (Lit.int .i64 q.cost).wf = true
section
open Go.ChangeShapes Go.WideShapes Go.ChangeAt
variable {H : Type} {enc : TypeId × Value → H} {P : Program} {w : World} {base : Nat} {sp : Nat → Bool} {held : Bool} {r : Reach} {b0 : Nat}
theorem bool_at {t : TypeId} {v : Value} {fuel : Nat} {x : DataW H × List MemPlace} (ht : P.underlying t = some .bool) (hf : DataW.trod enc P w base sp held fuel t [v] = some x) : ∃ b : Bool, v = .bool b := by
 obtain ⟨b, hb, _⟩ := DataW.trod_bool ht hf
 simp at hb
 exact ⟨b, hb⟩
theorem open_calls {t e : TypeId} {f0 f1 f2 f3 : Field} {v : Value} {d : DataW H} {ps : List MemPlace} (ht : P.underlying t = some (.slice e)) (he : P.underlying e = some (.struct #[f0, f1, f2, f3]))
  (ce : P.cellsOf e = 4) (o0 : f0.offset = 0) (o1 : f1.offset = 1) (o2 : f2.offset = 2) (o3 : f3.offset = 3) (c0 : P.cellsOf f0.type = 1) (c1 : P.cellsOf f1.type = 1) (c2 : P.cellsOf f2.type = 1) (c3 : P.cellsOf f3.type = 1)
  (h0 : P.underlying f0.type = some (.int .i64)) (h1 : P.underlying f1.type = some (.int .i64)) (h2 : P.underlying f2.type = some .string) (h3 : P.underlying f3.type = some .bool)
  (hval : Value.okWide P w r b0 t v) (h : DataW.Trod enc P w base sp held t v d ps) :
  ∃ (a : Option Addr) (c : Nat) (l : List Call), v = .slice a l.length c ∧ l.length ≤ maxLen ∧ InRow w a 4 Call.cells l ∧ ∀ q ∈ l, q.ok := by
 refine open_enc Call.cells Call.ok ht he ce (by omega) hval h fun cs m hlen hf => ?_
 match cs, hlen with
 | [v0, v1, v2, v3], _ =>
   obtain ⟨y0, g0⟩ := hf 0 f0 rfl
   obtain ⟨y1, g1⟩ := hf 1 f1 rfl
   obtain ⟨y2, g2⟩ := hf 2 f2 rfl
   obtain ⟨y3, g3⟩ := hf 3 f3 rfl
   rw [o0, c0] at g0
   rw [o1, c1] at g1
   rw [o2, c2] at g2
   rw [o3, c3] at g3
   simp only [List.drop_succ_cons, List.drop_zero, List.take_succ_cons, List.take_zero] at g0 g1 g2 g3
   obtain ⟨z0, rfl, w0⟩ := int_at h0 g0
   obtain ⟨z1, rfl, w1⟩ := int_at h1 g1
   obtain ⟨s, rfl⟩ := string_at h2 g2
   obtain ⟨b, rfl⟩ := bool_at h3 g3
   exact ⟨⟨z0, z1, s, b⟩, rfl, w0, w1⟩
end
open Go.ChangeShapes Go.WideShapes Go.ChangeAt in
set_option linter.constructorNameAsVariable false in
set_option maxRecDepth 8000 in
theorem open_plan {H : Type} {enc : TypeId × Value → H} {w : World} {base : Nat} {sp : Nat → Bool} {held : Bool} {r : Reach} {b0 : Nat} {v : Value} {d : DataW H} {ps : List MemPlace}
  (hv : Value.okWide Try.prog w r b0 23 v) (h : DataW.Trod enc Try.prog w base sp held 23 v d ps) : ∃ p : Plan, v = p.val := by
 obtain ⟨cs, rfl, hsz, n, hf⟩ := open_flds Try.underlying23 hv h
 have hc : Try.prog.cellsOf 23 = 9 := by kernel_rfl
 have ci : Try.prog.cellsOf 3 = 1 := by kernel_rfl
 have cb : Try.prog.cellsOf 4 = 1 := by kernel_rfl
 rw [hc] at hsz
 obtain ⟨l⟩ := cs
 match l, hsz with
 | [v0, v1, v2, v3, v4, v5, v6, v7, v8], _ =>
   obtain ⟨y0, h0⟩ := hf 0 _ rfl
   obtain ⟨y1, h1⟩ := hf 1 _ rfl
   obtain ⟨y2, h2⟩ := hf 2 _ rfl
   obtain ⟨y3, h3⟩ := hf 3 _ rfl
   obtain ⟨y4, h4⟩ := hf 4 _ rfl
   obtain ⟨y5, h5⟩ := hf 5 _ rfl
   obtain ⟨y6, h6⟩ := hf 6 _ rfl
   obtain ⟨y7, h7⟩ := hf 7 _ rfl
   obtain ⟨y8, h8⟩ := hf 8 _ rfl
   simp only [ci, cb, List.drop_succ_cons, List.drop_zero, List.take_succ_cons, List.take_zero] at h0 h1 h2 h3 h4 h5 h6 h7 h8
   obtain ⟨z0, rfl, w0⟩ := int_at Try.underlying3 h0
   obtain ⟨z1, rfl, w1⟩ := int_at Try.underlying3 h1
   obtain ⟨z2, rfl, w2⟩ := int_at Try.underlying3 h2
   obtain ⟨z3, rfl, w3⟩ := int_at Try.underlying3 h3
   obtain ⟨z4, rfl, w4⟩ := int_at Try.underlying3 h4
   obtain ⟨z5, rfl, w5⟩ := int_at Try.underlying3 h5
   obtain ⟨z6, rfl, w6⟩ := int_at Try.underlying3 h6
   obtain ⟨z7, rfl, w7⟩ := int_at Try.underlying3 h7
   obtain ⟨b, rfl⟩ := bool_at Try.underlying4 h8
   exact ⟨⟨z0, z1, z2, z3, z4, z5, z6, z7, b⟩, rfl⟩
def lightB (l : List Call) : Bool := decide (l.length ≤ 150) && l.all fun q => decide (q.key.length ≤ 64)
set_option maxRecDepth 4000 in
set_option maxHeartbeats 1600000 in
theorem light_any {w : World} {a : Option Addr} {l : List Call} (hP : InRow w a 4 Call.cells l) (hm : l.length ≤ maxLen) (c : Nat) :
  Calls Try.prog 15 #[.slice a l.length c] w fun e w' => e = .returned (.bool (lightB l)) ∧ Mod [] w w' := by
 unfold maxLen at hm
 by_cases h150 : l.length ≤ 150
 ·have d1 : decide ((150 : Int) < (l.length : Int)) = false := by simp; omega
  have hb : lightB l = l.all fun q => decide (q.key.length ≤ 64) := by unfold lightB; simp [h150]
  rw [hb]
  have HP := Lib.hid hP
  clear hP hb
  go_enter Try.func15, Try.ntmps15
  go_wp2_with fail
  go_loopw [10] (fun i wr => ∃ j : Nat, j ≤ l.length ∧ i = .int .i64 (j : Int) ∧ (∀ q ∈ l.take j, q.key.length ≤ 64) ∧ Mod [] w wr) (fun i _ => l.length - (intOf i).toNat)
  case atStart => exact ⟨0, Nat.zero_le _, rfl, by simp, Mod.refl _ _⟩
  case round =>
   obtain ⟨j, hj, rfl, hq, hM⟩ := hrel
   have MR := Lib.hid hM
   have HQ := Lib.hid hq
   by_cases hlt : j < l.length
   ·obtain ⟨q, hg⟩ : ∃ q, l[j]? = some q := ⟨_, List.getElem?_eq_getElem hlt⟩
    obtain ⟨b, off, rfl, hb, hcell⟩ := HP.out j q hg
    obtain ⟨gz, z, key, pk⟩ := q
    have c0 := (hM.cell (a := ⟨b, off + j * 4, none⟩) hb (by simp)).trans (hcell 0 _ rfl)
    have c1 := (hM.cell (a := ⟨b, off + j * 4 + 1, none⟩) hb (by simp)).trans (hcell 1 _ rfl)
    have c2 := (hM.cell (a := ⟨b, off + j * 4 + 2, none⟩) hb (by simp)).trans (hcell 2 _ rfl)
    have c3 := (hM.cell (a := ⟨b, off + j * 4 + 3, none⟩) hb (by simp)).trans (hcell 3 _ rfl)
    simp only at c0 c1 c2 c3
    have HG := Lib.hid hg
    have hsz : (ByteArray.mk key.toArray).size = key.length := by simp [ByteArray.size]
    have A1 := Lib.hid ((Mod.refl [] wr).alloc (.cells #[.int .i64 gz, .int .i64 z, .string ⟨key.toArray⟩, .bool pk] 35))
    clear hg hcell hM hq
    by_cases h100 : key.length ≤ 64
    ·have d2 : decide ((64 : Int) < (key.length : Int)) = false := by simp; omega
     have d3 : decide (64 < key.length) = false := by simp; omega
     have hkl : key.length < 1000 := by omega
     go_wp2_with fail
     go_roundw
     case rel =>
      refine ⟨j + 1, by omega, by go_num, fun q hq => ?_, MR.out.trans A1.out⟩
      rw [List.take_add_one, HG.out] at hq
      rcases List.mem_append.1 hq with h | h
      ·exact HQ.out q h
      ·simp at h; subst h; exact h100
     case measure => simp [intOf]; omega
    ·have d2 : decide ((64 : Int) < (key.length : Int)) = true := by simp; omega
     have d3 : decide (64 < key.length) = true := by simp; omega
     go_wp2_with fail
     go_ret
     refine ⟨?_, MR.out.trans A1.out⟩
     have : (l.all fun q => decide (q.key.length ≤ 64)) = false := by
      rw [List.all_eq_false]
      exact ⟨_, List.mem_of_getElem? HG.out, by simpa using h100⟩
     rw [this]; rfl
   ·obtain rfl : j = l.length := by omega
    clear hM hq
    go_wp2_with fail
    go_ret
    refine ⟨?_, MR.out⟩
    have : (l.all fun q => decide (q.key.length ≤ 64)) = true := by
     rw [List.all_eq_true]
     intro q hq
     have := HQ.out q (by rw [List.take_length]; exact hq)
     simpa using this
    rw [this]; rfl
 ·have d1 : decide ((150 : Int) < (l.length : Int)) = true := by simp; omega
  have hb : lightB l = false := by unfold lightB; simp [h150]
  rw [hb]
  clear hP hb
  go_enter Try.func15, Try.ntmps15
  go_wp2_with fail
  go_ret
  exact ⟨rfl, Mod.refl _ _⟩
def GapPost (w : World) (e : Ending) (w' : World) : Prop := ∃ g : Nat, e = .returned (.int .i64 (g : Int)) ∧ g ≤ 1023 ∧ w = w'
theorem gap_any (z : Int) (w : World) : Calls Try.prog 18 #[.int .i64 z] w (GapPost w) := by
 have h2 := ba1023 (z / 2)
 have h3 := ba15 (z / 2)
 unfold ba at h2 h3
 generalize hA : bits .and .i64 (z / 2) 1023 = A at *
 generalize hB : bits .and .i64 (z / 2) 15 = B at *
 by_cases h : bits .and .i64 z 1 = 1
 ·have h1 : (bits .and .i64 z 1 == 1) = true := by simp [h]
  go_enter Try.func18, Try.ntmps18
  go_wp2_with fail
  go_ret
  exact ⟨A.toNat, by rw [Int.toNat_of_nonneg h2.1]; rfl, by omega, rfl⟩
 ·have h1 : (bits .and .i64 z 1 == 1) = false := by simp [h]
  go_enter Try.func18, Try.ntmps18
  go_wp2_with fail
  go_ret
  exact ⟨B.toNat, by rw [Int.toNat_of_nonneg h3.1]; rfl, by omega, rfl⟩
def CostPost (w : World) (e : Ending) (w' : World) : Prop := ∃ n : Nat, e = .returned (.int .i64 (n : Int)) ∧ n ≤ 63 ∧ Mod [] w w'
set_option maxRecDepth 4000 in
theorem cost_any (r : Rule) (hb : 1 ≤ r.burst ∧ r.burst ≤ 32) (z : Int) (w : World) : Calls Try.prog 19 #[r.val, .int .i64 z] w (CostPost w) := by
 have h2 := ba63 (z / 8)
 have h3 := ba31 (z / 8)
 have hq := tmod_in h3.1 hb.1
 unfold ba at h2 h3 hq
 obtain ⟨r0, r1, r2, r3, r4, r5, r6, r7, r8⟩ := r
 simp only [Rule.val] at *
 generalize hA : bits .and .i64 (z / 8) 63 = A at *
 generalize hB : bits .and .i64 (z / 8) 31 = B at *
 obtain ⟨q, hqq⟩ : ∃ q, B.tmod r2 = q := ⟨_, rfl⟩
 rw [hqq] at hq
 have hqe : B % r2 = q := by rw [← hqq, Int.tmod_eq_emod_of_nonneg h3.1]
 have hw : wrap64 (q + 1) = q + 1 := by unfold wrap64; omega
 have hr0 : ¬ r2 = 0 := by omega
 have hr1 : ¬ r2 = -1 := by omega
 obtain ⟨hq0, hq1⟩ := hq
 have HQ := Lib.hid (show 0 ≤ q + 1 ∧ (q + 1).toNat ≤ 63 by omega)
 have HA := Lib.hid (show 0 ≤ A ∧ A.toNat ≤ 63 by omega)
 clear h2 h3 hb hq0 hq1
 by_cases h : bits .and .i64 z 7 = 7
 ·have h1 : (bits .and .i64 z 7 == 7) = true := by simp [h]
  go_enter Try.func19, Try.ntmps19
  go_wp2_with fail
  go_ret
  exact ⟨A.toNat, by rw [Int.toNat_of_nonneg HA.out.1]; rfl, HA.out.2, (Mod.refl [] w).alloc _⟩
 ·have h1 : (bits .and .i64 z 7 == 7) = false := by simp [h]
  go_enter Try.func19, Try.ntmps19
  go_wp2_with fail
  go_ret
  exact ⟨(q + 1).toNat, by rw [Int.toNat_of_nonneg HQ.out.1]; show Ending.returned (Value.int .i64 (wrap64 (q + 1))) = _; rw [hw], HQ.out.2, (Mod.refl [] w).alloc _⟩
theorem flatEv_get : ∀ (l : List Ev) (i j : Nat) (q : Ev), l[i]? = some q → j < 4 → (flatEv l)[4 * i + j]? = q.cells[j]?
 | [], i, j, q, h, hj => by simp at h
 | p :: l, 0, j, q, h, hj => by
   simp at h; subst h
   unfold flatEv
   rw [List.flatMap_cons, Nat.mul_zero, Nat.zero_add, List.getElem?_append_left (by show j < 4; exact hj)]
 | p :: l, i + 1, j, q, h, hj => by
   have ih := flatEv_get l i j q (by simpa using h) hj
   unfold flatEv at *
   rw [List.flatMap_cons, List.getElem?_append_right (by show 4 ≤ _; omega)]
   rw [show 4 * (i + 1) + j - p.cells.length = 4 * i + j by show 4 * (i + 1) + j - 4 = _; omega]
   exact ih
theorem OwnE.at {w : World} {B : Nat} {v : Value} {l : List Ev} (h : OwnE w B v l) (hn : l ≠ []) :
  ∃ g cap, v = .slice (some ⟨g, 0, none⟩) l.length cap ∧ B ≤ g ∧ g < w.heap.size ∧ ∀ i q, l[i]? = some q → ∀ j u, q.cells[j]? = some u → w.cell? ⟨g, i * 4 + j, none⟩ = some u := by
 rcases h.2 with ⟨_, h0⟩ | ⟨g, cap, cur, rfl, h1, h2, h3, h4, h5, h6⟩
 ·exact absurd (List.eq_nil_of_length_eq_zero h0) hn
 ·refine ⟨g, cap, rfl, h1, lt_of_some h2, fun i q hq j u hu => ?_⟩
  have hj : j < 4 := (List.getElem?_eq_some_iff.1 hu).1
  have := h.cells (g := g) rfl (4 * i + j) u (by rw [flatEv_get l i j q hq hj]; exact hu)
  rw [add_eq, Nat.zero_add] at this; rw [Nat.mul_comm]; exact this
theorem tot_field0 (a b c d e : Int) (w : World) : (Instr.field 49 (.agg #[.int .i64 a, .int .i64 b, .int .i64 c, .int .i64 d, .int .i64 e]) 0).run Try.prog w = .ok (.int .i64 a) w := by kernel_rfl
/-! fit -/
def fitPlan : Plan := ⟨2, 9, 0, 0, 0, 0, 0, 0, false⟩
def fitR : Rule := ⟨3, 10, 1, 1, 1, 1, 1, 1, false⟩
theorem fit_rule : fitPlan.rule = fitR := by kernel_rfl
def fitC : Cf := cfOf fitR []
theorem fit_check1 : (check fitC (new0 fitC) 5 0 [97] 1).1 = ⟨1, 0, 0⟩ ∧ (check fitC (new0 fitC) 5 0 [97] 1).2.1 = [⟨[97], true, 5⟩] := by decide
theorem fit_check2 : (check fitC (check fitC (new0 fitC) 5 0 [97] 1).2.2 5 0 [98] 1).2.1 = [] ∧ (check fitC (check fitC (new0 fitC) 5 0 [97] 1).2.2 5 0 [98] 1).2.2.al = 2 := by decide
set_option maxRecDepth 8000 in
set_option maxHeartbeats 3200000 in
theorem fit_any (w : World) : Calls Try.prog 14 #[] w fun e w' => e = .returned (.bool true) ∧ Mod [] w w' := by
 have RU := Lib.hid (fun W : World => rule_any fitPlan W)
 rw [fit_rule] at RU
 have hok : RuleOk fitR := by have := (rule_ok fitPlan).1; rw [fit_rule] at this; exact this
 have NW := Lib.hid (fun W : World => new_any (l := []) (Sl.nil W none 0) (by simp) fitR hok)
 have HC := Lib.hid (hok.cf [])
 have HI := Lib.hid (new0_inv fitC HC.out)
 have C1 := Lib.hid (fun W B (hL : LimAt W B fitC (new0 fitC)) => check_any hL HI.out HC.out (by decide) (now := 5) (by decide) 0 [97] (by decide) 1)
 have I1 := Lib.hid (HI.out.check HC.out (by decide) (now := 5) (by decide) 0 [97] 1 (by decide))
 have h1 := fit_check1
 have h2 := fit_check2
 rcases hq1 : check fitC (new0 fitC) 5 0 [97] 1 with ⟨a1, ev1, s1⟩
 have hq1' : check fitC (new0 fitC) ((5 : Nat) : Int) 0 [97] 1 = (a1, ev1, s1) := hq1
 rw [hq1'] at C1 I1
 rw [hq1] at h1 h2
 simp only at h1 h2 I1
 obtain ⟨h1a, h1b⟩ := h1
 subst h1a h1b
 have C2 := Lib.hid (fun W B (hL : LimAt W B fitC s1) => check_any hL I1.out.1 HC.out (by decide) (now := 5) I1.out.2.2 0 [98] (by decide) 1)
 rcases hq2 : check fitC s1 5 0 [98] 1 with ⟨a2, ev2, s2⟩
 have hq2' : check fitC s1 ((5 : Nat) : Int) 0 [98] 1 = (a2, ev2, s2) := hq2
 rw [hq2'] at C2
 rw [hq2] at h2
 simp only at h2
 obtain ⟨h2b, h2c⟩ := h2
 subst h2b
 have HAL := Lib.hid h2c
 have TT := Lib.hid (fun W B (hL : LimAt W B fitC s2) => totals_any hL)
 clear hq1 hq1' hq2 hq2' hok h2c
 obtain ⟨v2, r2, t2⟩ := a2
 simp only [fitPlan, Plan.val, fitR, Rule.val] at RU NW
 go_enter Try.func14, Try.ntmps14
 go_wp2_with fail
 refine (RU.out _).mono ?_
 rintro e1 w1 ⟨rfl, hM1⟩
 have M1 := Lib.hid hM1
 clear hM1
 go_wp2_with fail
 refine (NW.out _).mono ?_
 rintro e2 w2 ⟨B, rfl, hL2, hB2, hrb2, hM2⟩
 have L2 := Lib.hid hL2
 have BL := Lib.hid (show ∀ b, b ∈ B.all → w.heap.size ≤ b from fun b hb => by have := hB2 b hb; have := M1.out.size; omega)
 have M2 := Lib.hid (M1.out.trans hM2)
 clear hL2 hB2 hrb2 hM2
 go_wp2_with fail
 refine (C1.out _ B L2.out).mono ?_
 rintro e3 w3 ⟨v3, rfl, hO3, hL3, hM3⟩
 obtain ⟨g3, c3, rfl, hg3, hg3l, hev⟩ := hO3.at (by simp)
 have M3 := Lib.hid (M2.out.trans' hM3 (fun b hb => .inr (BL.out b hb)))
 have L3 := Lib.hid hL3
 have O3 := Lib.hid hO3
 have e2 := hev 0 _ rfl 2 _ rfl
 have HGB := Lib.hid (show g3 ∉ B.all from fun hb => by have := L2.out.lt _ hb; omega)
 have A3 := Lib.hid ((Mod.refl [] w3).alloc (.cells #[.int .i64 1, .int .i64 0, .int .i64 0] 39))
 have X3 := Lib.hid (Blk.new w3 [.int .i64 1, .int .i64 0, .int .i64 0] 39)
 have HWB := Lib.hid (show w3.heap.size ∉ B.all from fun hb => by have := hL3.lt _ hb; omega)
 clear hL3 hM3 hO3 hev
 simp only [Ans.val]
 go_wp2_with fail
 refine (C2.out _ B (L3.out.mod0 A3.out)).mono ?_
 rintro e4 w4 ⟨v4, rfl, hO4, hL4, hM4⟩
 obtain ⟨a4, c4, rfl⟩ := hO4.slice
 have L4 := Lib.hid hL4
 have X4 := Lib.hid (hM4.blk X3.out HWB.out)
 have x0 := X4.out.cell (i := 0) rfl
 have k2 := (hM4.cell (a := ⟨g3, 0 * 4 + 2, none⟩) (A3.out.lt hg3l) HGB.out).trans ((A3.out.cell (a := ⟨g3, 0 * 4 + 2, none⟩) hg3l (by simp)).trans e2)
 simp only [Nat.zero_mul, Nat.zero_add] at k2
 have M4 := Lib.hid ((M3.out.trans A3.out).trans' hM4 (fun b hb => .inr (BL.out b hb)))
 have hg4 : g3 < w4.heap.size := hM4.lt (A3.out.lt hg3l)
 have hw4 : w3.heap.size < w4.heap.size := X4.out.lt
 have hn1 : ¬ g3 = w4.heap.size := by omega
 have hn2 : ¬ w3.heap.size = w4.heap.size := by omega
 have hal := HAL.out
 clear hO4 hL4 hM4 e2
 simp only [Ans.val, List.length_cons, List.length_nil, Nat.zero_add]
 have T4 := Lib.hid (TT.out _ B (L4.out.mod0 ((Mod.refl [] w4).alloc (.cells #[.int .i64 v2, .int .i64 r2, .int .i64 t2] 39))))
 go_wp2_with fail
 refine T4.out.mono ?_
 rintro e5 w5 ⟨rfl, hM5⟩
 unfold totV
 rw [hal]
 have tf := fun b c d e W => tot_field0 2 b c d e W
 go_wp2_with fail
 go_ret
 exact ⟨rfl, (M4.out.alloc _).trans hM5⟩
end Go.Proofs.Ytndekdafiaogmaa.Lim
end
section
namespace Go.Proofs.Ytndekdafiaogmaa.Lim
open Go Go.RowKit Go.YtndekdafiaogmaaMem Go.YtndekdafiaogmaaLex Go.Proofs.Ytndekdafiaogmaa.Hash Go.Proofs.Ytndekdafiaogmaa.Arith Go.Proofs.Ytndekdafiaogmaa.Index Go.Proofs.Ytndekdafiaogmaa.Cell Go.Proofs.Ytndekdafiaogmaa.Slot
open Go.Proofs.Ytndekdafiaogmaa.Pool (PS putP remP pairs PB PoolAt firstIdle)
open Go.Proofs.Ytndekdafiaogmaa.Ring (Rs RiB RingAt estS addR waitS massS Small small_get leastV leastV_small ring0)
open Go.Proofs.Ytndekdafiaogmaa.Sum (Ent OkE SB SumAt countE leastOf)
theorem count_facts (s : Lm) (v : Int) : (s.count v).pool = s.pool ∧ (s.count v).ring = s.ring ∧ (s.count v).E = s.E ∧ (s.count v).t = s.t := by
 unfold Lm.count
 split
 ·exact ⟨rfl, rfl, rfl, rfl⟩
 ·split <;> exact ⟨rfl, rfl, rfl, rfl⟩
def tally (s : Lm) : Int × Int × Int := (s.al, s.de, s.bad)
theorem settle_keeps (c : Cf) (s : Lm) (now : Int) (key : List UInt8) : tally (settle c s now key).2.2 = tally s ∧ (settle c s now key).2.2.E = s.E ∧ (settle c s now key).2.2.t = s.t ∧ (settle c s now key).2.2.pool.S.length = s.pool.S.length := by
 unfold settle
 split
 ·exact ⟨rfl, rfl, rfl, rfl⟩
 ·split
  ·split
   ·exact ⟨rfl, rfl, rfl, rfl⟩
   ·rename_i out _
    refine ⟨rfl, rfl, rfl, ?_⟩
    show (putP (remP s.pool out).2.2 key _).2.S.length = _
    rw [(putP_facts key _).1]
    unfold remP
    split <;> simp
  ·refine ⟨rfl, rfl, rfl, ?_⟩
   show (putP s.pool key _).2.S.length = _
   rw [(putP_facts key _).1]
theorem answer_keeps (c : Cf) (o : Option Nat) (s : Lm) (now : Int) (key : List UInt8) (cost : Int) : tally (answer c o s now key cost).2 = tally s ∧ (answer c o s now key cost).2.E = s.E ∧ (answer c o s now key cost).2.t = s.t ∧ (answer c o s now key cost).2.pool.S = s.pool.S ∧ (answer c o s now key cost).2.pool.fl = s.pool.fl := by
 unfold answer
 cases o <;> exact ⟨rfl, rfl, rfl, rfl, rfl⟩
section
variable (c : Cf) (s : Lm) (now held : Int) (key : List UInt8) (cost : Int)
theorem check_slen : (check c s now held key cost).2.2.pool.S.length = s.pool.S.length := by
 unfold check
 split
 ·simp only; rw [(count_facts _ _).1]
 ·simp only
  rw [(count_facts _ _).1, (answer_keeps _ _ _ _ _ _).2.2.2.1, (settle_keeps _ _ _ _).2.2.2]
  rfl
theorem check_t : (check c s now held key cost).2.2.t = if (refuse c.r now held cost).isNone then (Sum.offer c.tr (s.E, s.t) key cost).2 else s.t := by
 unfold check
 cases hr : refuse c.r now held cost with
 | some a => simp only [Option.isNone_some]; rw [if_neg (by simp)]; exact (count_facts _ _).2.2.2
 | none =>
   simp only [Option.isNone_none]
   rw [if_pos trivial, (count_facts _ _).2.2.2, (answer_keeps _ _ _ _ _ _).2.2.1, (settle_keeps _ _ _ _).2.2.1]
   rfl
theorem offer_t {n : Nat} {E : List Ent} {t : Int} (ht : 0 ≤ t ∧ t ≤ 1000000000) (hk : key.length ≤ 64) (hc : 1 ≤ cost ∧ cost ≤ 1000000) : (Sum.offer n (E, t) key cost).2 = t + cost := by
 unfold Sum.offer
 rw [if_neg (by omega), if_neg (by show ¬ 4611686018427387904 - cost ≤ t; omega)]
end
end Go.Proofs.Ytndekdafiaogmaa.Lim
end
