/- limiter: Check, where it is looked at the key. (written by wip/tools/gchk.py) -/
import Derived.Test.YtndekdafiaogmaaZLim6
import Derived.Deep.Cut
set_option linter.unusedSimpArgs false
set_option linter.unusedVariables false
section
namespace Go.Proofs.Ytndekdafiaogmaa.Lim
open Go Go.RowKit Go.YtndekdafiaogmaaMem Go.YtndekdafiaogmaaLex Go.Proofs.Ytndekdafiaogmaa.Hash Go.Proofs.Ytndekdafiaogmaa.Arith Go.Proofs.Ytndekdafiaogmaa.Index Go.Proofs.Ytndekdafiaogmaa.Cell Go.Proofs.Ytndekdafiaogmaa.Slot
open Go.Proofs.Ytndekdafiaogmaa.Pool (PS putP remP pairs PB PoolAt firstIdle)
open Go.Proofs.Ytndekdafiaogmaa.Ring (Rs RiB RingAt estS addR waitS massS Small small_get leastV leastV_small)
open Go.Proofs.Ytndekdafiaogmaa.Sum (Ent OkE SB SumAt countE leastOf)
theorem PoolAt.cellAt' {w : World} {B : PB} {S : List (Option (List UInt8))} {fl : List Nat} {C : List Cell} (h : PoolAt w B S fl C) {i : Nat} {x : Cell} (hx : C[i]? = some x) : CellAt w B.cb (i * 4) x ∧ True := by
 obtain ⟨x0, x1, x2, x3⟩ := Pool.cel4 h.cel hx
 exact ⟨⟨x0, x1, x2, x3, h.cel.free _, h.cel.free _⟩, trivial⟩
section
variable {w : World} {B : LB} {c : Cf} {s : Lm}
set_option maxRecDepth 8000 in
set_option maxHeartbeats 6400000 in
theorem check_take {K : Nat} (h : LimAt w B c s) (hi : Inv c s K) (hc : c.Ok) (hK : K + c.step ≤ 4194304) {now : Nat} (hn : s.ring.now ≤ now) (hnow : now < 4611686018427387904) (held : Int) (key : List UInt8) (hl : key.length ≤ 1000000) (cost : Int) (hcost : 1 ≤ cost ∧ cost ≤ c.r.burst) (hr : refuse c.r now held cost = none) {ev : List Ev} {s4 : Lm} {i : Nat} {x : Cell} (hq : settle c ((s.to now).offered c key cost) now key = (some i, ev, s4)) (hx : s4.pool.C.getD i .zero = x) (hlt : cost ≤ x.room c.r.pace now) :
  Calls Try.prog 20 #[.pointer (some ⟨B.p, 0, none⟩), .int .i64 (now : Int), .int .i64 held, .string ⟨key.toArray⟩, .int .i64 cost] w (CheckPost B c (⟨1, ({ x with full := max x.full now + cost * c.r.pace.unit, used := x.used + cost } : Cell).room c.r.pace now, 0⟩, ev, ({ s4 with pool := { s4.pool with C := s4.pool.C.set i { x with full := max x.full now + cost * c.r.pace.unit, used := x.used + cost } } } : Lm).count 1) w) := by
 have hstep : c.step = 2 * c.r.limit.toNat + 1 := rfl
 have RE := Lib.hid (refuse_any (h.mod0 ((Mod.refl [] w).alloc (.cells #[.int .i64 0, .int .i64 0, .int .i64 0] 39))) now held cost)
 rw [hr] at RE
 simp only [ansO, Option.getD_none, Ans.val, Option.isSome_none] at RE
 obtain ⟨it, et⟩ := hi.to hn hnow
 have io := it.offered hc.tr.1 key cost
 have e0 : ((s.to (now : Int)).offered c key cost).ring.now = now := et
 have hst : s.ring.st.length ≤ 65 := h.ring.few.2
 obtain ⟨i4, n4, st4⟩ := io.settle hc hst key (by omega)
 rw [e0, hq] at i4 n4 st4
 simp only at i4 n4 st4
 have HFW0 := i4.few
 have HSM4 := Lib.hid i4.small
 have hlim := hc.limit
 have hbur := hc.burst
 have htame := hc.tame (now := (now : Int)) (by omega)
 have TM := Lib.hid htame
 have TO := Lib.hid (fun W (hM : Mod [] w W) => Ring.to_any (h.ring.mod hM (by simp) (by simp)) now hnow)
 have OF := Lib.hid (fun W (hS : SumAt W B.S c.tr s.E s.t) => Sum.offer_ok (s := (s.E, s.t)) hS hi.sum hc.tr.1 key hl cost (by omega))
 have SE : Hid (∀ W, LimAt W B c ((s.to (now : Int)).offered c key cost) → Calls Try.prog 38 #[.pointer (some ⟨B.p, 0, none⟩), .int .i64 (now : Int), .string ⟨key.toArray⟩] W (SettlePost B c (some i, ev, s4) W)) := Lib.hid fun W hL => by
  have := settle_any hL io hc key hl (by omega)
  rw [e0, hq] at this
  exact this
 have FLT := Lib.hid (fun W (hL : LimAt W B c ((s.to (now : Int)).offered c key cost)) => fl_lt hL)
 have HLT := Lib.hid h.lt
 have NB : Hid (∀ b, w.heap.size ≤ b → b ∉ B.all) := Lib.hid fun b hb hb' => by have := h.lt b hb'; omega
 have HRB := Lib.hid (show B.Q.rb < w.heap.size from (h.ring.each 0 (by have := h.ring.few.1; omega)).rows.1)
 have HH := Lib.hid h
 have hp := h.blk.lt
 have hpn : ¬ B.p = w.heap.size := by omega
 have BX := Lib.hid (Blk.new w [.int .i64 0, .int .i64 0, .int .i64 0] 39)
 have M0 := Lib.hid ((Mod.refl [] w).alloc (.cells #[.int .i64 0, .int .i64 0, .int .i64 0] 39))
 have hil : i < s4.pool.C.length := by
  have := settle_lt (i := i) (c := c) (s := (s.to (now : Int)).offered c key cost) (now := now) (key := key) io.len (by have := fl_lt h; exact this) (by rw [hq])
  rw [hq] at this
  exact this
 have hxg : s4.pool.C[i]? = some x := by rw [← hx, List.getD_eq_getElem?_getD, List.getElem?_eq_getElem hil]; rfl
 have hxi : CellIn c.r.pace (K + c.r.limit.toNat : Nat) now x := by have := i4.cells x (List.mem_of_getElem? hxg); rw [n4] at this; exact this
 have HMI := hxi.mild htame (by omega)
 have hyi := cellAsk_in hc hnow hxi hcost (by omega)
 have hask : (cellAsk c.r x now cost).2 = { x with full := max x.full now + cost * c.r.pace.unit, used := x.used + cost } := by unfold cellAsk; rw [if_pos hlt]
 rw [hask] at hyi
 have HMY := hyi.mild htame (by omega)
 have TK := Lib.hid (fun W (hW : CellAt W B.P.cb (i * 4) x) => Cell.take_yes x c.r.pace now cost HMI TM.out ⟨hcost.1, hcost.2⟩ hlt hW)
 obtain ⟨z, hz⟩ : ∃ z, max x.full now + cost * c.r.pace.unit = z := ⟨_, rfl⟩
 obtain ⟨u, hu⟩ : ∃ u, x.used + cost = u := ⟨_, rfl⟩
 rw [hz, hu] at TK HMY
 have hyv : ({ x with full := max x.full now + cost * c.r.pace.unit, used := x.used + cost } : Cell) = ⟨z, x.since, x.carry, u⟩ := by rw [hz, hu]
 rw [hyv]
 have RMy := Lib.hid (fun W : World => Cell.room_any ⟨z, x.since, x.carry, u⟩ c.r.pace now HMY TM.out W)
 have HOK := Lib.hid (show ({ x with full := z, used := u } : Cell).ok from HMY.ok)
 obtain ⟨rm, hrm⟩ : ∃ rm, (⟨z, x.since, x.carry, u⟩ : Cell).room c.r.pace now = rm := ⟨_, rfl⟩
 rw [hrm]
 rw [hrm] at RMy
 have RM := Lib.hid RMy.out
 have HXG := Lib.hid hxg
 have HIL := Lib.hid hil
 have HFW : Hid (Few { s4 with pool := { s4.pool with C := s4.pool.C.set i ⟨z, x.since, x.carry, u⟩ } }) := Lib.hid ⟨HFW0.al, HFW0.de, HFW0.bad⟩
 simp only [Cell.val, Pace.val] at RM TK
 clear h hi hc hK hn hl hr hq it et io e0 hst i4 n4 st4 hlim hbur htame hstep hcost hx hlt hil hxg hxi HMI hyi hask HMY hz hu hyv RMy hrm HFW0
 go_enter Try.func20, Try.ntmps20
 go_wp2_with fail
 refine RE.out.mono ?_
 rintro e1 w1 ⟨rfl, hM1⟩
 have M1 := Lib.hid ((M0.out.trans hM1).alloc (.cells #[.int .i64 0, .int .i64 0, .int .i64 0] 39))
 have BX1 := Lib.hid ((hM1.blk BX.out (by simp)).alloc (.cells #[.int .i64 0, .int .i64 0, .int .i64 0] 39))
 have k14 := (HH.out.mod0 M1.out).blk.cell (i := 14) rfl
 clear hM1
 go_wp2_with fail
 refine (TO.out _ M1.out).mono ?_
 rintro e2 w2 ⟨⟨v2, rfl⟩, hR2, hM2⟩
 have L2 : Hid (LimAt w2 B c (s.to now)) := Lib.hid ((HH.out.mod0 M1.out).setRing hR2 hM2 (fun b hb => by simp at hb; subst hb; simp [RiB.own]))
 have hM2' : Mod B.all _ w2 := hM2.mono (fun b hb => .inl (by simp at hb; subst hb; exact all_Q B (by simp [RiB.own])))
 have M2 := Lib.hid ((M1.out.mono (S' := B.all) (by simp)).trans hM2')
 have BX2 := Lib.hid (hM2'.blk BX1.out (NB.out _ (Nat.le_refl _)))
 have k15 := L2.out.blk.cell (i := 15) rfl
 clear hR2 hM2 hM2' k14
 go_wp2_with fail
 refine (OF.out w2 L2.out.sum).mono ?_
 rintro e3 w3 ⟨⟨v3, rfl⟩, hS3, hO3, hM3⟩
 have L3 : Hid (LimAt w3 B c ((s.to (now : Int)).offered c key cost)) := Lib.hid (L2.out.setSum hS3 hM3)
 have hM3' : Mod B.all w2 w3 := hM3.mono (fun b hb => .inl (all_S B hb))
 have M3 := Lib.hid (M2.out.trans hM3')
 have BX3 := Lib.hid (hM3'.blk BX2.out (NB.out _ (Nat.le_refl _)))
 have hz3 : Hid (w.heap.size < w3.heap.size) := Lib.hid (BX3.out.lt)
 clear hS3 hO3 hM3 hM3' k15
 go_wp2_with fail
 refine (SE.out w3 L3.out).mono ?_
 rintro e4 w4 ⟨v4, rfl, hO4, hL4, hM4⟩
 obtain ⟨a4, c4, rfl⟩ := hO4.slice
 have O4 := Lib.hid hO4
 have M4 := Lib.hid (M3.out.trans hM4)
 have hs16lt : Hid (w.heap.size < w4.heap.size) := Lib.hid (by have := hz3.out; have := hM4.size; omega)
 have hs16 : Hid (w.heap.size ≤ w4.heap.size) := Lib.hid (by have := hs16lt.out; omega)
 have A4 := Lib.hid ((Mod.refl [] w4).alloc (.cells #[.int .i64 2, .int .i64 0, .int .i64 0] 39))
 have AB5 := Lib.hid (Blk.new w4 [.int .i64 2, .int .i64 0, .int .i64 0] 39)
 have L5 := Lib.hid (hL4.mod0 A4.out)
 have BX5 := Lib.hid (A4.out.blk (hM4.blk BX3.out (NB.out _ (Nat.le_refl _))) (by simp))
 have N5 := Lib.hid (A4.out.mono (S' := B.all) (by simp))
 clear hO4 hL4 hM4
 rw [show Pool.cellAt B.P (some i) = .pointer (some ⟨B.P.cb, i * 4, none⟩) from rfl]
 have j9 := L5.out.blk.cell (i := 9) rfl
 have j10 := L5.out.blk.cell (i := 10) rfl
 have j11 := L5.out.blk.cell (i := 11) rfl
 have j12 := L5.out.blk.cell (i := 12) rfl
 obtain ⟨hca, _⟩ := PoolAt.cellAt' L5.out.pool HXG.out
 have y0 := hca.c0
 have y1 := hca.c1
 have y2 := hca.c2
 have y3 := hca.c3
 clear hca
 have CA5 := Lib.hid (PoolAt.cellAt' L5.out.pool HXG.out).1
 go_wp2_with fail
 refine (TK.out _ CA5.out).mono ?_
 rintro e6 w6 ⟨rfl, w5, hM5, hw6⟩
 have P5 := (L5.out.mod0 hM5).pool
 have hcbP : B.P.cb ∈ B.P.all := by simp [Pool.PB.all]
 have MS6 : Mod B.P.all w5 w6 := by rw [hw6]; exact ((Mod.refl B.P.all w5).setCell (p := ⟨B.P.cb, i * 4, none⟩) (.inl hcbP) _).setCell (p := ⟨B.P.cb, i * 4 + 3, none⟩) (.inl hcbP) _
 have L6 := Lib.hid ((L5.out.mod0 hM5).setPool (pool' := { s4.pool with C := s4.pool.C.set i ⟨z, x.since, x.carry, u⟩ }) (by rw [hw6]; exact PoolAt.poke P5 HXG.out HOK.out) MS6)
 have MS6' : Mod B.all w5 w6 := MS6.mono (fun b hb => .inl (all_P B hb))
 have AB6 := Lib.hid (MS6'.blk (hM5.blk AB5.out (by simp)) (NB.out _ hs16.out))
 have BX6 := Lib.hid (MS6'.blk (hM5.blk BX5.out (by simp)) (NB.out _ (Nat.le_refl _)))
 have N6 := Lib.hid ((N5.out.trans (hM5.mono (S' := B.all) (by simp))).trans MS6')
 clear j9 j10 j11 j12 y0 y1 y2 y3
 clear hM5 hw6 P5 MS6 MS6' hcbP
 have b0 := AB6.out.cell (i := 0) rfl
 have g0 := AB6.out.free 0
 go_wp2_with fail
 have MS7 := Lib.hid ((Mod.refl [w4.heap.size] w6).setCell (p := ⟨w4.heap.size, 0, none⟩) (.inl (by simp)) (.int .i64 1))
 have AB7 := Lib.hid (AB6.out.set 0 (.int .i64 1))
 have L7 := Lib.hid (L6.out.mod MS7.out (fun b hb hb' => NB.out w4.heap.size hs16.out (by simp at hb'; rw [← hb']; exact hb)) (fun hb' => by have := HRB.out; have := hs16.out; simp at hb'; omega))
 have BX7 := Lib.hid (MS7.out.blk BX6.out (by have := hs16lt.out; simp; omega))
 have N7 := Lib.hid (N6.out.trans' MS7.out (fun b hb => .inr (by simp at hb; omega)))
 obtain ⟨w7, hw7⟩ : ∃ w7, w6.setCell ⟨w4.heap.size, 0, none⟩ (.int .i64 1) = w7 := ⟨_, rfl⟩
 rw [hw7] at MS7 AB7 L7 BX7 N7
 simp only [List.set_cons_zero, List.set_cons_succ] at AB7
 rw [hw7]
 clear hw7 b0 g0
 have HXY : Hid ((s4.pool.C.set i ⟨z, x.since, x.carry, u⟩)[i]? = some ⟨z, x.since, x.carry, u⟩) := Lib.hid (by rw [List.getElem?_set_self HIL.out])
 have j9 := L7.out.blk.cell (i := 9) rfl
 have j10 := L7.out.blk.cell (i := 10) rfl
 have j11 := L7.out.blk.cell (i := 11) rfl
 have j12 := L7.out.blk.cell (i := 12) rfl
 obtain ⟨hca, _⟩ := PoolAt.cellAt' L7.out.pool HXY.out
 have y0 := hca.c0
 have y1 := hca.c1
 have y2 := hca.c2
 have y3 := hca.c3
 clear hca
 refine Go.YtndekdafiaogmaaLex.wp_region_lex (by kernel_rfl) (by kernel_rfl) ?_
 go_wp2_with fail
 refine (RM.out _).mono ?_
 rintro e8 w8 ⟨rfl, hM8a⟩
 have hM8 := (Mod.refl [] w7).drew.trans hM8a
 have Q8 := Lib.hid hM8
 have AB8 := Lib.hid (hM8.blk AB7.out (by simp))
 have L8 := Lib.hid (L7.out.mod0 hM8)
 have BX8 := Lib.hid (hM8.blk BX7.out (by simp))
 have N8 := Lib.hid (N7.out.trans (hM8.mono (S' := B.all) (by simp)))
 clear hM8 hM8a
 have b1 := AB8.out.cell (i := 1) rfl
 have g1 := AB8.out.free 1
 go_wp2_with fail
 refine ⟨by kernel_rfl, ?_⟩
 have MS9 := Lib.hid ((Mod.refl [w4.heap.size] w8).setCell (p := ⟨w4.heap.size, 1, none⟩) (.inl (by simp)) (.int .i64 rm))
 have AB9 := Lib.hid (AB8.out.set 1 (.int .i64 rm))
 have L9 := Lib.hid (L8.out.mod MS9.out (fun b hb hb' => NB.out w4.heap.size hs16.out (by simp at hb'; rw [← hb']; exact hb)) (fun hb' => by have := HRB.out; have := hs16.out; simp at hb'; omega))
 have BX9 := Lib.hid (MS9.out.blk BX8.out (by have := hs16lt.out; simp; omega))
 have N9 := Lib.hid (N8.out.trans' MS9.out (fun b hb => .inr (by simp at hb; omega)))
 obtain ⟨w9, hw9⟩ : ∃ w9, w8.setCell ⟨w4.heap.size, 1, none⟩ (.int .i64 rm) = w9 := ⟨_, rfl⟩
 rw [hw9] at MS9 AB9 L9 BX9 N9
 simp only [List.set_cons_zero, List.set_cons_succ] at AB9
 rw [hw9]
 clear hw9 b1 g1
 clear j9 j10 j11 j12 y0 y1 y2 y3
 have k0 := AB9.out.cell (i := 0) rfl
 have CT := Lib.hid (tally_any L9.out HFW.out 1)
 go_wp2_with fail
 refine CT.out.mono ?_
 rintro e10 w10 ⟨⟨v10, rfl⟩, hL10, hM10⟩
 have hM10' : Mod B.all w9 w10 := hM10.mono (fun b hb => .inl (by simp at hb; subst hb; exact all_p B))
 have L10 := Lib.hid hL10
 have AB10 := Lib.hid (hM10'.blk AB9.out (NB.out _ hs16.out))
 have BX10 := Lib.hid (hM10'.blk BX9.out (NB.out _ (Nat.le_refl _)))
 have N10 := Lib.hid (N9.out.trans hM10')
 have a0 := AB10.out.cell (i := 0) rfl
 have a1 := AB10.out.cell (i := 1) rfl
 have a2 := AB10.out.cell (i := 2) rfl
 have x0 := BX10.out.cell (i := 0) rfl
 have x1 := BX10.out.cell (i := 1) rfl
 have x2 := BX10.out.cell (i := 2) rfl
 have f0 := BX10.out.free 0
 have f1 := BX10.out.free 1
 have f2 := BX10.out.free 2
 have hne16 : ¬ w4.heap.size = w.heap.size := by have := hs16lt.out; omega
 clear hL10 hM10 hM10'
 go_wp2_with fail
 have MF := ((((Mod.refl [w.heap.size] w10).setCell (p := ⟨w.heap.size, 0, none⟩) (.inl (by simp)) (.int .i64 1)).setCell (p := ⟨w.heap.size, 1, none⟩) (.inl (by simp)) (.int .i64 rm)).setCell (p := ⟨w.heap.size, 2, none⟩) (.inl (by simp)) (.int .i64 0))
 have O10 := O4.out.mod N10.out (fun b hb => by have := HLT.out b hb; have := hz3.out; omega)
 refine bodyPost_ret (v := .tuple #[.agg #[.int .i64 1, .int .i64 rm, .int .i64 0], .slice a4 ev.length c4]) (Pool.results_row_tmp (p := 10) (u := 11) (ty := 39) rfl _ _ w.heap.size 39 #[.int .i64 1, .int .i64 rm, .int .i64 0] (0, 0) _ rfl (((BX10.out.set 0 (.int .i64 1)).set 1 (.int .i64 rm)).set 2 (.int .i64 0)) Try.underlying39 rfl (info_size ans_info)) rfl ⟨_, rfl, (O10.mod MF (fun b hb => by simp at hb; have := hz3.out; omega)).base (by have := hz3.out; omega), L10.out.mod MF (fun b hb hb' => NB.out w.heap.size (Nat.le_refl _) (by simp at hb'; rw [← hb']; exact hb)) (fun hb' => by have := HRB.out; simp at hb'; omega), (M4.out.trans N10.out).trans' MF (fun b hb => .inr (by simp at hb; omega))⟩
set_option maxRecDepth 8000 in
set_option maxHeartbeats 6400000 in
theorem check_deny {K : Nat} (h : LimAt w B c s) (hi : Inv c s K) (hc : c.Ok) (hK : K + c.step ≤ 4194304) {now : Nat} (hn : s.ring.now ≤ now) (hnow : now < 4611686018427387904) (held : Int) (key : List UInt8) (hl : key.length ≤ 1000000) (cost : Int) (hcost : 1 ≤ cost ∧ cost ≤ c.r.burst) (hr : refuse c.r now held cost = none) {ev : List Ev} {s4 : Lm} {i : Nat} {x : Cell} (hq : settle c ((s.to now).offered c key cost) now key = (some i, ev, s4)) (hx : s4.pool.C.getD i .zero = x) (hlt : x.room c.r.pace now < cost) :
  Calls Try.prog 20 #[.pointer (some ⟨B.p, 0, none⟩), .int .i64 (now : Int), .int .i64 held, .string ⟨key.toArray⟩, .int .i64 cost] w (CheckPost B c (⟨2, x.room c.r.pace now, x.wait c.r.pace now cost⟩, ev, s4.count 2) w) := by
 have hstep : c.step = 2 * c.r.limit.toNat + 1 := rfl
 have RE := Lib.hid (refuse_any (h.mod0 ((Mod.refl [] w).alloc (.cells #[.int .i64 0, .int .i64 0, .int .i64 0] 39))) now held cost)
 rw [hr] at RE
 simp only [ansO, Option.getD_none, Ans.val, Option.isSome_none] at RE
 obtain ⟨it, et⟩ := hi.to hn hnow
 have io := it.offered hc.tr.1 key cost
 have e0 : ((s.to (now : Int)).offered c key cost).ring.now = now := et
 have hst : s.ring.st.length ≤ 65 := h.ring.few.2
 obtain ⟨i4, n4, st4⟩ := io.settle hc hst key (by omega)
 rw [e0, hq] at i4 n4 st4
 simp only at i4 n4 st4
 have HFW0 := i4.few
 have HSM4 := Lib.hid i4.small
 have hlim := hc.limit
 have hbur := hc.burst
 have htame := hc.tame (now := (now : Int)) (by omega)
 have TM := Lib.hid htame
 have TO := Lib.hid (fun W (hM : Mod [] w W) => Ring.to_any (h.ring.mod hM (by simp) (by simp)) now hnow)
 have OF := Lib.hid (fun W (hS : SumAt W B.S c.tr s.E s.t) => Sum.offer_ok (s := (s.E, s.t)) hS hi.sum hc.tr.1 key hl cost (by omega))
 have SE : Hid (∀ W, LimAt W B c ((s.to (now : Int)).offered c key cost) → Calls Try.prog 38 #[.pointer (some ⟨B.p, 0, none⟩), .int .i64 (now : Int), .string ⟨key.toArray⟩] W (SettlePost B c (some i, ev, s4) W)) := Lib.hid fun W hL => by
  have := settle_any hL io hc key hl (by omega)
  rw [e0, hq] at this
  exact this
 have FLT := Lib.hid (fun W (hL : LimAt W B c ((s.to (now : Int)).offered c key cost)) => fl_lt hL)
 have HLT := Lib.hid h.lt
 have NB : Hid (∀ b, w.heap.size ≤ b → b ∉ B.all) := Lib.hid fun b hb hb' => by have := h.lt b hb'; omega
 have HRB := Lib.hid (show B.Q.rb < w.heap.size from (h.ring.each 0 (by have := h.ring.few.1; omega)).rows.1)
 have HH := Lib.hid h
 have hp := h.blk.lt
 have hpn : ¬ B.p = w.heap.size := by omega
 have BX := Lib.hid (Blk.new w [.int .i64 0, .int .i64 0, .int .i64 0] 39)
 have M0 := Lib.hid ((Mod.refl [] w).alloc (.cells #[.int .i64 0, .int .i64 0, .int .i64 0] 39))
 have hil : i < s4.pool.C.length := by
  have := settle_lt (i := i) (c := c) (s := (s.to (now : Int)).offered c key cost) (now := now) (key := key) io.len (by have := fl_lt h; exact this) (by rw [hq])
  rw [hq] at this
  exact this
 have hxg : s4.pool.C[i]? = some x := by rw [← hx, List.getD_eq_getElem?_getD, List.getElem?_eq_getElem hil]; rfl
 have hxi : CellIn c.r.pace (K + c.r.limit.toNat : Nat) now x := by have := i4.cells x (List.mem_of_getElem? hxg); rw [n4] at this; exact this
 have HMI := hxi.mild htame (by omega)
 have TK := Lib.hid (fun W (hW : CellAt W B.P.cb (i * 4) x) => Cell.take_no x c.r.pace now cost HMI TM.out ⟨hcost.1, hcost.2⟩ hlt hW)
 have RMy := Lib.hid (fun W : World => Cell.room_any x c.r.pace now HMI TM.out W)
 have WTy := Lib.hid (fun W : World => Cell.wait_any x c.r.pace now cost HMI TM.out ⟨hcost.1, hcost.2⟩ W)
 obtain ⟨rm, hrm⟩ : ∃ rm, x.room c.r.pace now = rm := ⟨_, rfl⟩
 rw [hrm] at RMy ⊢
 obtain ⟨wt, hwt⟩ : ∃ wt, x.wait c.r.pace now cost = wt := ⟨_, rfl⟩
 rw [hwt] at WTy ⊢
 have RM := Lib.hid RMy.out
 have WT := Lib.hid WTy.out
 have HXG := Lib.hid hxg
 have HFW := Lib.hid HFW0
 simp only [Cell.val, Pace.val] at RM TK WT
 clear h hi hc hK hn hl hr hq it et io e0 hst i4 n4 st4 hlim hbur htame hstep hcost hx hlt hil hxg hxi HMI RMy WTy hrm hwt HFW0
 go_enter Try.func20, Try.ntmps20
 go_wp2_with fail
 refine RE.out.mono ?_
 rintro e1 w1 ⟨rfl, hM1⟩
 have M1 := Lib.hid ((M0.out.trans hM1).alloc (.cells #[.int .i64 0, .int .i64 0, .int .i64 0] 39))
 have BX1 := Lib.hid ((hM1.blk BX.out (by simp)).alloc (.cells #[.int .i64 0, .int .i64 0, .int .i64 0] 39))
 have k14 := (HH.out.mod0 M1.out).blk.cell (i := 14) rfl
 clear hM1
 go_wp2_with fail
 refine (TO.out _ M1.out).mono ?_
 rintro e2 w2 ⟨⟨v2, rfl⟩, hR2, hM2⟩
 have L2 : Hid (LimAt w2 B c (s.to now)) := Lib.hid ((HH.out.mod0 M1.out).setRing hR2 hM2 (fun b hb => by simp at hb; subst hb; simp [RiB.own]))
 have hM2' : Mod B.all _ w2 := hM2.mono (fun b hb => .inl (by simp at hb; subst hb; exact all_Q B (by simp [RiB.own])))
 have M2 := Lib.hid ((M1.out.mono (S' := B.all) (by simp)).trans hM2')
 have BX2 := Lib.hid (hM2'.blk BX1.out (NB.out _ (Nat.le_refl _)))
 have k15 := L2.out.blk.cell (i := 15) rfl
 clear hR2 hM2 hM2' k14
 go_wp2_with fail
 refine (OF.out w2 L2.out.sum).mono ?_
 rintro e3 w3 ⟨⟨v3, rfl⟩, hS3, hO3, hM3⟩
 have L3 : Hid (LimAt w3 B c ((s.to (now : Int)).offered c key cost)) := Lib.hid (L2.out.setSum hS3 hM3)
 have hM3' : Mod B.all w2 w3 := hM3.mono (fun b hb => .inl (all_S B hb))
 have M3 := Lib.hid (M2.out.trans hM3')
 have BX3 := Lib.hid (hM3'.blk BX2.out (NB.out _ (Nat.le_refl _)))
 have hz3 : Hid (w.heap.size < w3.heap.size) := Lib.hid (BX3.out.lt)
 clear hS3 hO3 hM3 hM3' k15
 go_wp2_with fail
 refine (SE.out w3 L3.out).mono ?_
 rintro e4 w4 ⟨v4, rfl, hO4, hL4, hM4⟩
 obtain ⟨a4, c4, rfl⟩ := hO4.slice
 have O4 := Lib.hid hO4
 have M4 := Lib.hid (M3.out.trans hM4)
 have hs16lt : Hid (w.heap.size < w4.heap.size) := Lib.hid (by have := hz3.out; have := hM4.size; omega)
 have hs16 : Hid (w.heap.size ≤ w4.heap.size) := Lib.hid (by have := hs16lt.out; omega)
 have A4 := Lib.hid ((Mod.refl [] w4).alloc (.cells #[.int .i64 2, .int .i64 0, .int .i64 0] 39))
 have AB5 := Lib.hid (Blk.new w4 [.int .i64 2, .int .i64 0, .int .i64 0] 39)
 have L5 := Lib.hid (hL4.mod0 A4.out)
 have BX5 := Lib.hid (A4.out.blk (hM4.blk BX3.out (NB.out _ (Nat.le_refl _))) (by simp))
 have N5 := Lib.hid (A4.out.mono (S' := B.all) (by simp))
 clear hO4 hL4 hM4
 rw [show Pool.cellAt B.P (some i) = .pointer (some ⟨B.P.cb, i * 4, none⟩) from rfl]
 have j9 := L5.out.blk.cell (i := 9) rfl
 have j10 := L5.out.blk.cell (i := 10) rfl
 have j11 := L5.out.blk.cell (i := 11) rfl
 have j12 := L5.out.blk.cell (i := 12) rfl
 obtain ⟨hca, _⟩ := PoolAt.cellAt' L5.out.pool HXG.out
 have y0 := hca.c0
 have y1 := hca.c1
 have y2 := hca.c2
 have y3 := hca.c3
 clear hca
 have CA5 := Lib.hid (PoolAt.cellAt' L5.out.pool HXG.out).1
 go_wp2_with fail
 refine (TK.out _ CA5.out).mono ?_
 rintro e6 w6 ⟨rfl, hM6⟩
 have Q6 := Lib.hid hM6
 have AB6 := Lib.hid (hM6.blk AB5.out (by simp))
 have L6 := Lib.hid (L5.out.mod0 hM6)
 have BX6 := Lib.hid (hM6.blk BX5.out (by simp))
 have N6 := Lib.hid (N5.out.trans (hM6.mono (S' := B.all) (by simp)))
 clear j9 j10 j11 j12 y0 y1 y2 y3
 clear hM6
 go_wp2_with fail
 have j9 := L6.out.blk.cell (i := 9) rfl
 have j10 := L6.out.blk.cell (i := 10) rfl
 have j11 := L6.out.blk.cell (i := 11) rfl
 have j12 := L6.out.blk.cell (i := 12) rfl
 obtain ⟨hca, _⟩ := PoolAt.cellAt' L6.out.pool HXG.out
 have y0 := hca.c0
 have y1 := hca.c1
 have y2 := hca.c2
 have y3 := hca.c3
 clear hca
 refine Go.YtndekdafiaogmaaLex.wp_region_lex (by kernel_rfl) (by kernel_rfl) ?_
 go_wp2_with fail
 refine (WT.out _).mono ?_
 rintro e7 w7 ⟨rfl, hM7a⟩
 have hM7 := (Mod.refl [] w6).drew.trans hM7a
 have Q7 := Lib.hid hM7
 have AB7 := Lib.hid (hM7.blk AB6.out (by simp))
 have L7 := Lib.hid (L6.out.mod0 hM7)
 have BX7 := Lib.hid (hM7.blk BX6.out (by simp))
 have N7 := Lib.hid (N6.out.trans (hM7.mono (S' := B.all) (by simp)))
 clear hM7 hM7a
 have b2 := AB7.out.cell (i := 2) rfl
 have g2 := AB7.out.free 2
 go_wp2_with fail
 refine ⟨by kernel_rfl, ?_⟩
 have MS71 := Lib.hid ((Mod.refl [w4.heap.size] w7).setCell (p := ⟨w4.heap.size, 2, none⟩) (.inl (by simp)) (.int .i64 wt))
 have AB71 := Lib.hid (AB7.out.set 2 (.int .i64 wt))
 have L71 := Lib.hid (L7.out.mod MS71.out (fun b hb hb' => NB.out w4.heap.size hs16.out (by simp at hb'; rw [← hb']; exact hb)) (fun hb' => by have := HRB.out; have := hs16.out; simp at hb'; omega))
 have BX71 := Lib.hid (MS71.out.blk BX7.out (by have := hs16lt.out; simp; omega))
 have N71 := Lib.hid (N7.out.trans' MS71.out (fun b hb => .inr (by simp at hb; omega)))
 obtain ⟨w71, hw71⟩ : ∃ w71, w7.setCell ⟨w4.heap.size, 2, none⟩ (.int .i64 wt) = w71 := ⟨_, rfl⟩
 rw [hw71] at MS71 AB71 L71 BX71 N71
 simp only [List.set_cons_zero, List.set_cons_succ] at AB71
 rw [hw71]
 clear hw71 b2 g2
 clear j9 j10 j11 j12 y0 y1 y2 y3
 go_wp2_with fail
 have j9 := L71.out.blk.cell (i := 9) rfl
 have j10 := L71.out.blk.cell (i := 10) rfl
 have j11 := L71.out.blk.cell (i := 11) rfl
 have j12 := L71.out.blk.cell (i := 12) rfl
 obtain ⟨hca, _⟩ := PoolAt.cellAt' L71.out.pool HXG.out
 have y0 := hca.c0
 have y1 := hca.c1
 have y2 := hca.c2
 have y3 := hca.c3
 clear hca
 refine Go.YtndekdafiaogmaaLex.wp_region_lex (by kernel_rfl) (by kernel_rfl) ?_
 go_wp2_with fail
 refine (RM.out _).mono ?_
 rintro e8 w8 ⟨rfl, hM8a⟩
 have hM8 := (Mod.refl [] w71).drew.trans hM8a
 have Q8 := Lib.hid hM8
 have AB8 := Lib.hid (hM8.blk AB71.out (by simp))
 have L8 := Lib.hid (L71.out.mod0 hM8)
 have BX8 := Lib.hid (hM8.blk BX71.out (by simp))
 have N8 := Lib.hid (N71.out.trans (hM8.mono (S' := B.all) (by simp)))
 clear hM8 hM8a
 have b1 := AB8.out.cell (i := 1) rfl
 have g1 := AB8.out.free 1
 go_wp2_with fail
 refine ⟨by kernel_rfl, ?_⟩
 have MS9 := Lib.hid ((Mod.refl [w4.heap.size] w8).setCell (p := ⟨w4.heap.size, 1, none⟩) (.inl (by simp)) (.int .i64 rm))
 have AB9 := Lib.hid (AB8.out.set 1 (.int .i64 rm))
 have L9 := Lib.hid (L8.out.mod MS9.out (fun b hb hb' => NB.out w4.heap.size hs16.out (by simp at hb'; rw [← hb']; exact hb)) (fun hb' => by have := HRB.out; have := hs16.out; simp at hb'; omega))
 have BX9 := Lib.hid (MS9.out.blk BX8.out (by have := hs16lt.out; simp; omega))
 have N9 := Lib.hid (N8.out.trans' MS9.out (fun b hb => .inr (by simp at hb; omega)))
 obtain ⟨w9, hw9⟩ : ∃ w9, w8.setCell ⟨w4.heap.size, 1, none⟩ (.int .i64 rm) = w9 := ⟨_, rfl⟩
 rw [hw9] at MS9 AB9 L9 BX9 N9
 simp only [List.set_cons_zero, List.set_cons_succ] at AB9
 rw [hw9]
 clear hw9 b1 g1
 clear j9 j10 j11 j12 y0 y1 y2 y3
 have k0 := AB9.out.cell (i := 0) rfl
 have CT := Lib.hid (tally_any L9.out HFW.out 2)
 go_wp2_with fail
 refine CT.out.mono ?_
 rintro e10 w10 ⟨⟨v10, rfl⟩, hL10, hM10⟩
 have hM10' : Mod B.all w9 w10 := hM10.mono (fun b hb => .inl (by simp at hb; subst hb; exact all_p B))
 have L10 := Lib.hid hL10
 have AB10 := Lib.hid (hM10'.blk AB9.out (NB.out _ hs16.out))
 have BX10 := Lib.hid (hM10'.blk BX9.out (NB.out _ (Nat.le_refl _)))
 have N10 := Lib.hid (N9.out.trans hM10')
 have a0 := AB10.out.cell (i := 0) rfl
 have a1 := AB10.out.cell (i := 1) rfl
 have a2 := AB10.out.cell (i := 2) rfl
 have x0 := BX10.out.cell (i := 0) rfl
 have x1 := BX10.out.cell (i := 1) rfl
 have x2 := BX10.out.cell (i := 2) rfl
 have f0 := BX10.out.free 0
 have f1 := BX10.out.free 1
 have f2 := BX10.out.free 2
 have hne16 : ¬ w4.heap.size = w.heap.size := by have := hs16lt.out; omega
 clear hL10 hM10 hM10'
 go_wp2_with fail
 have MF := ((((Mod.refl [w.heap.size] w10).setCell (p := ⟨w.heap.size, 0, none⟩) (.inl (by simp)) (.int .i64 2)).setCell (p := ⟨w.heap.size, 1, none⟩) (.inl (by simp)) (.int .i64 rm)).setCell (p := ⟨w.heap.size, 2, none⟩) (.inl (by simp)) (.int .i64 wt))
 have O10 := O4.out.mod N10.out (fun b hb => by have := HLT.out b hb; have := hz3.out; omega)
 refine bodyPost_ret (v := .tuple #[.agg #[.int .i64 2, .int .i64 rm, .int .i64 wt], .slice a4 ev.length c4]) (Pool.results_row_tmp (p := 10) (u := 11) (ty := 39) rfl _ _ w.heap.size 39 #[.int .i64 2, .int .i64 rm, .int .i64 wt] (0, 0) _ rfl (((BX10.out.set 0 (.int .i64 2)).set 1 (.int .i64 rm)).set 2 (.int .i64 wt)) Try.underlying39 rfl (info_size ans_info)) rfl ⟨_, rfl, (O10.mod MF (fun b hb => by simp at hb; have := hz3.out; omega)).base (by have := hz3.out; omega), L10.out.mod MF (fun b hb hb' => NB.out w.heap.size (Nat.le_refl _) (by simp at hb'; rw [← hb']; exact hb)) (fun hb' => by have := HRB.out; simp at hb'; omega), (M4.out.trans N10.out).trans' MF (fun b hb => .inr (by simp at hb; omega))⟩
set_option maxRecDepth 8000 in
set_option maxHeartbeats 6400000 in
theorem check_ring_no {K : Nat} (h : LimAt w B c s) (hi : Inv c s K) (hc : c.Ok) (hK : K + c.step ≤ 4194304) {now : Nat} (hn : s.ring.now ≤ now) (hnow : now < 4611686018427387904) (held : Int) (key : List UInt8) (hl : key.length ≤ 1000000) (cost : Int) (hcost : 1 ≤ cost ∧ cost ≤ c.r.burst) (hr : refuse c.r now held cost = none) {ev : List Ev} {s4 : Lm} (hq : settle c ((s.to now).offered c key cost) now key = (none, ev, s4)) (hlt : c.r.limit < sum (estS c.R c.wd s4.ring key) cost) :
  Calls Try.prog 20 #[.pointer (some ⟨B.p, 0, none⟩), .int .i64 (now : Int), .int .i64 held, .string ⟨key.toArray⟩, .int .i64 cost] w (CheckPost B c (⟨2, bounded c.r (c.r.limit - estS c.R c.wd s4.ring key), waitS c.R c.wd s4.ring key cost⟩, ev, s4.count 2) w) := by
 have hstep : c.step = 2 * c.r.limit.toNat + 1 := rfl
 have RE := Lib.hid (refuse_any (h.mod0 ((Mod.refl [] w).alloc (.cells #[.int .i64 0, .int .i64 0, .int .i64 0] 39))) now held cost)
 rw [hr] at RE
 simp only [ansO, Option.getD_none, Ans.val, Option.isSome_none] at RE
 obtain ⟨it, et⟩ := hi.to hn hnow
 have io := it.offered hc.tr.1 key cost
 have e0 : ((s.to (now : Int)).offered c key cost).ring.now = now := et
 have hst : s.ring.st.length ≤ 65 := h.ring.few.2
 obtain ⟨i4, n4, st4⟩ := io.settle hc hst key (by omega)
 rw [e0, hq] at i4 n4 st4
 simp only at i4 n4 st4
 have HFW0 := i4.few
 have HSM4 := Lib.hid i4.small
 have hlim := hc.limit
 have hbur := hc.burst
 have htame := hc.tame (now := (now : Int)) (by omega)
 have TM := Lib.hid htame
 have TO := Lib.hid (fun W (hM : Mod [] w W) => Ring.to_any (h.ring.mod hM (by simp) (by simp)) now hnow)
 have OF := Lib.hid (fun W (hS : SumAt W B.S c.tr s.E s.t) => Sum.offer_ok (s := (s.E, s.t)) hS hi.sum hc.tr.1 key hl cost (by omega))
 have SE : Hid (∀ W, LimAt W B c ((s.to (now : Int)).offered c key cost) → Calls Try.prog 38 #[.pointer (some ⟨B.p, 0, none⟩), .int .i64 (now : Int), .string ⟨key.toArray⟩] W (SettlePost B c (none, ev, s4) W)) := Lib.hid fun W hL => by
  have := settle_any hL io hc key hl (by omega)
  rw [e0, hq] at this
  exact this
 have FLT := Lib.hid (fun W (hL : LimAt W B c ((s.to (now : Int)).offered c key cost)) => fl_lt hL)
 have HLT := Lib.hid h.lt
 have NB : Hid (∀ b, w.heap.size ≤ b → b ∉ B.all) := Lib.hid fun b hb hb' => by have := h.lt b hb'; omega
 have HRB := Lib.hid (show B.Q.rb < w.heap.size from (h.ring.each 0 (by have := h.ring.few.1; omega)).rows.1)
 have HH := Lib.hid h
 have hp := h.blk.lt
 have hpn : ¬ B.p = w.heap.size := by omega
 have BX := Lib.hid (Blk.new w [.int .i64 0, .int .i64 0, .int .i64 0] 39)
 have M0 := Lib.hid ((Mod.refl [] w).alloc (.cells #[.int .i64 0, .int .i64 0, .int .i64 0] 39))
 have hup := estS_upto (R := c.R) (wd := c.wd) i4.cnt (by omega) (by rw [st4]; exact hst) key
 have hbig4 := i4.big
 have hscI : I64 cost := by unfold I64; omega
 have hesI := Ring.estS_i64 c.R c.wd s4.ring key
 have ES := Lib.hid (fun W (hL : LimAt W B c s4) => Ring.estimate_any hL.ring HSM4.out key hl)
 have SU := Lib.hid (fun W : World => sum_any (estS c.R c.wd s4.ring key) cost hesI hscI W)
 have IC := Lib.hid (fun W (hL : LimAt W B c s4) => show IsC W.drew B.p from isC_of_cell (w := W) (hL.blk.cell (i := 0) rfl))
 have WTy := Lib.hid (fun W (hL : LimAt W B c s4) => Ring.wait_any hL.ring HSM4.out key hl cost hscI)
 obtain ⟨es2, he2⟩ : ∃ es2, estS c.R c.wd s4.ring key = es2 := ⟨_, rfl⟩
 rw [he2] at ES SU hup hlt ⊢
 obtain ⟨wt, hwt⟩ : ∃ wt, waitS c.R c.wd s4.ring key cost = wt := ⟨_, rfl⟩
 rw [hwt] at WTy ⊢
 obtain ⟨su, hsu⟩ : ∃ su, sum es2 cost = su := ⟨_, rfl⟩
 rw [hsu] at SU hlt
 obtain ⟨rm, hrm⟩ : ∃ rm, bounded c.r (c.r.limit - es2) = rm := ⟨_, rfl⟩
 have HRB2 := Lib.hid hrm
 rw [hrm]
 have dle : decide (su ≤ c.r.limit) = false := by simp; omega
 have hwr : wrap64 (c.r.limit - es2) = c.r.limit - es2 := by unfold wrap64; omega
 have HFW := Lib.hid HFW0
 clear h hi hc hK hn hl hr hq it et io e0 hst i4 n4 st4 hlim hbur htame hstep hcost hlt hup hbig4 hscI hesI he2 hwt hsu hrm HFW0
 go_enter Try.func20, Try.ntmps20
 go_wp2_with fail
 refine RE.out.mono ?_
 rintro e1 w1 ⟨rfl, hM1⟩
 have M1 := Lib.hid ((M0.out.trans hM1).alloc (.cells #[.int .i64 0, .int .i64 0, .int .i64 0] 39))
 have BX1 := Lib.hid ((hM1.blk BX.out (by simp)).alloc (.cells #[.int .i64 0, .int .i64 0, .int .i64 0] 39))
 have k14 := (HH.out.mod0 M1.out).blk.cell (i := 14) rfl
 clear hM1
 go_wp2_with fail
 refine (TO.out _ M1.out).mono ?_
 rintro e2 w2 ⟨⟨v2, rfl⟩, hR2, hM2⟩
 have L2 : Hid (LimAt w2 B c (s.to now)) := Lib.hid ((HH.out.mod0 M1.out).setRing hR2 hM2 (fun b hb => by simp at hb; subst hb; simp [RiB.own]))
 have hM2' : Mod B.all _ w2 := hM2.mono (fun b hb => .inl (by simp at hb; subst hb; exact all_Q B (by simp [RiB.own])))
 have M2 := Lib.hid ((M1.out.mono (S' := B.all) (by simp)).trans hM2')
 have BX2 := Lib.hid (hM2'.blk BX1.out (NB.out _ (Nat.le_refl _)))
 have k15 := L2.out.blk.cell (i := 15) rfl
 clear hR2 hM2 hM2' k14
 go_wp2_with fail
 refine (OF.out w2 L2.out.sum).mono ?_
 rintro e3 w3 ⟨⟨v3, rfl⟩, hS3, hO3, hM3⟩
 have L3 : Hid (LimAt w3 B c ((s.to (now : Int)).offered c key cost)) := Lib.hid (L2.out.setSum hS3 hM3)
 have hM3' : Mod B.all w2 w3 := hM3.mono (fun b hb => .inl (all_S B hb))
 have M3 := Lib.hid (M2.out.trans hM3')
 have BX3 := Lib.hid (hM3'.blk BX2.out (NB.out _ (Nat.le_refl _)))
 have hz3 : Hid (w.heap.size < w3.heap.size) := Lib.hid (BX3.out.lt)
 clear hS3 hO3 hM3 hM3' k15
 go_wp2_with fail
 refine (SE.out w3 L3.out).mono ?_
 rintro e4 w4 ⟨v4, rfl, hO4, hL4, hM4⟩
 obtain ⟨a4, c4, rfl⟩ := hO4.slice
 have O4 := Lib.hid hO4
 have M4 := Lib.hid (M3.out.trans hM4)
 have hs16lt : Hid (w.heap.size < w4.heap.size) := Lib.hid (by have := hz3.out; have := hM4.size; omega)
 have hs16 : Hid (w.heap.size ≤ w4.heap.size) := Lib.hid (by have := hs16lt.out; omega)
 have A4 := Lib.hid ((Mod.refl [] w4).alloc (.cells #[.int .i64 2, .int .i64 0, .int .i64 0] 39))
 have AB5 := Lib.hid (Blk.new w4 [.int .i64 2, .int .i64 0, .int .i64 0] 39)
 have L5 := Lib.hid (hL4.mod0 A4.out)
 have BX5 := Lib.hid (A4.out.blk (hM4.blk BX3.out (NB.out _ (Nat.le_refl _))) (by simp))
 have N5 := Lib.hid (A4.out.mono (S' := B.all) (by simp))
 clear hO4 hL4 hM4
 have k14 := L5.out.blk.cell (i := 14) rfl
 have k0 := L5.out.blk.cell (i := 0) rfl
 rw [show Pool.cellAt B.P none = .pointer none from rfl]
 go_wp2_with fail
 refine Go.YtndekdafiaogmaaLex.wp_region_held [6, 2] [12] [] (by kernel_rfl) (by kernel_rfl) ?_
 simp only [wpCut, List.take_succ_cons, List.take_zero, List.drop_succ_cons, List.drop_zero, List.cons_append, List.nil_append]
 go_wp2_with fail
 refine (ES.out _ (L5.out.mod0 (Mod.refl [] _).drew)).mono ?_
 rintro e6 w6 ⟨rfl, hM6a⟩
 have IS5 := Lib.hid (IC.out _ L5.out)
 have NN6 := Lib.hid hM6a
 have hM6 := (Mod.refl [] (w4.alloc (.cells #[.int .i64 2, .int .i64 0, .int .i64 0] 39))).drew.trans hM6a
 have Q6 := Lib.hid hM6
 have AB6 := Lib.hid (hM6.blk AB5.out (by simp))
 have L6 := Lib.hid (L5.out.mod0 hM6)
 have BX6 := Lib.hid (hM6.blk BX5.out (by simp))
 have N6 := Lib.hid (N5.out.trans (hM6.mono (S' := B.all) (by simp)))
 clear hM6 hM6a k0 k14
 have k14 := L6.out.blk.cell (i := 14) rfl
 have k0 := L6.out.blk.cell (i := 0) rfl
 go_wp2_with fail
 refine ⟨NN6.out, ?_⟩
 go_wp2_with fail
 refine (SU.out _).mono ?_
 rintro e7 w7 ⟨rfl, rfl⟩
 go_wp2_with fail
 refine ⟨NN6.out, ?_⟩
 go_wp2_with fail
 refine ⟨by kernel_rfl, ⟨⟨by simp, IS5.out⟩, trivial⟩, ?_⟩
 have k14' := k14
 go_wp2_with fail
 refine (WTy.out _ L6.out).mono ?_
 rintro e71 w71 ⟨rfl, hM71⟩
 have Q71 := Lib.hid hM71
 have AB71 := Lib.hid (hM71.blk AB6.out (by simp))
 have L71 := Lib.hid (L6.out.mod0 hM71)
 have BX71 := Lib.hid (hM71.blk BX6.out (by simp))
 have N71 := Lib.hid (N6.out.trans (hM71.mono (S' := B.all) (by simp)))
 clear hM71 k14 k14' k0
 have b2 := AB71.out.cell (i := 2) rfl
 have g2 := AB71.out.free 2
 go_wp2_with fail
 have MS72 := Lib.hid ((Mod.refl [w4.heap.size] w71).setCell (p := ⟨w4.heap.size, 2, none⟩) (.inl (by simp)) (.int .i64 wt))
 have AB72 := Lib.hid (AB71.out.set 2 (.int .i64 wt))
 have L72 := Lib.hid (L71.out.mod MS72.out (fun b hb hb' => NB.out w4.heap.size hs16.out (by simp at hb'; rw [← hb']; exact hb)) (fun hb' => by have := HRB.out; have := hs16.out; simp at hb'; omega))
 have BX72 := Lib.hid (MS72.out.blk BX71.out (by have := hs16lt.out; simp; omega))
 have N72 := Lib.hid (N71.out.trans' MS72.out (fun b hb => .inr (by simp at hb; omega)))
 obtain ⟨w72, hw72⟩ : ∃ w72, w71.setCell ⟨w4.heap.size, 2, none⟩ (.int .i64 wt) = w72 := ⟨_, rfl⟩
 rw [hw72] at MS72 AB72 L72 BX72 N72
 simp only [List.set_cons_zero, List.set_cons_succ] at AB72
 rw [hw72]
 clear hw72 b2 g2
 have k14 := L72.out.blk.cell (i := 14) rfl
 have k0 := L72.out.blk.cell (i := 0) rfl
 have ISa := Lib.hid (show IsC w72.drew B.p from isC_of_cell (w := w72) k0)
 refine Go.YtndekdafiaogmaaLex.wp_region_held [12] [5] [] (by kernel_rfl) (by kernel_rfl) ?_
 simp only [wpCut, List.take_succ_cons, List.take_zero, List.drop_succ_cons, List.drop_zero, List.cons_append, List.nil_append]
 go_wp2_with fail
 refine ((ES.out _ (L72.out.mod0 (Mod.refl [] _).drew))).mono ?_
 rintro e80 w80 ⟨rfl, hM80a⟩
 have NN80 := Lib.hid hM80a
 have hM80 := (Mod.refl [] w72).drew.trans hM80a
 have Q80 := Lib.hid hM80
 have AB80 := Lib.hid (hM80.blk AB72.out (by simp))
 have L80 := Lib.hid (L72.out.mod0 hM80)
 have BX80 := Lib.hid (hM80.blk BX72.out (by simp))
 have N80 := Lib.hid (N72.out.trans (hM80.mono (S' := B.all) (by simp)))
 clear hM80 hM80a k0 k14
 go_wp2_with fail
 refine ⟨NN80.out, ?_⟩
 go_wp2_with fail
 refine (bounded_any L80.out (c.r.limit - es2)).mono ?_
 rintro e8 w8 ⟨rfl, rfl⟩
 rw [HRB2.out]
 have b1 := AB80.out.cell (i := 1) rfl
 have g1 := AB80.out.free 1
 go_wp2_with fail
 refine ⟨by kernel_rfl, ⟨⟨by simp, ISa.out⟩, trivial⟩, ?_⟩
 go_upto_region 19 with (fail)
 have MS9 := Lib.hid ((Mod.refl [w4.heap.size] w80).setCell (p := ⟨w4.heap.size, 1, none⟩) (.inl (by simp)) (.int .i64 rm))
 have AB9 := Lib.hid (AB80.out.set 1 (.int .i64 rm))
 have L9 := Lib.hid (L80.out.mod MS9.out (fun b hb hb' => NB.out w4.heap.size hs16.out (by simp at hb'; rw [← hb']; exact hb)) (fun hb' => by have := HRB.out; have := hs16.out; simp at hb'; omega))
 have BX9 := Lib.hid (MS9.out.blk BX80.out (by have := hs16lt.out; simp; omega))
 have N9 := Lib.hid (N80.out.trans' MS9.out (fun b hb => .inr (by simp at hb; omega)))
 obtain ⟨w9, hw9⟩ : ∃ w9, w80.setCell ⟨w4.heap.size, 1, none⟩ (.int .i64 rm) = w9 := ⟨_, rfl⟩
 rw [hw9] at MS9 AB9 L9 BX9 N9
 simp only [List.set_cons_zero, List.set_cons_succ] at AB9
 rw [hw9]
 clear hw9 b1 g1
 have k0 := AB9.out.cell (i := 0) rfl
 have CT := Lib.hid (tally_any L9.out HFW.out 2)
 go_wp2_with fail
 refine CT.out.mono ?_
 rintro e10 w10 ⟨⟨v10, rfl⟩, hL10, hM10⟩
 have hM10' : Mod B.all w9 w10 := hM10.mono (fun b hb => .inl (by simp at hb; subst hb; exact all_p B))
 have L10 := Lib.hid hL10
 have AB10 := Lib.hid (hM10'.blk AB9.out (NB.out _ hs16.out))
 have BX10 := Lib.hid (hM10'.blk BX9.out (NB.out _ (Nat.le_refl _)))
 have N10 := Lib.hid (N9.out.trans hM10')
 have a0 := AB10.out.cell (i := 0) rfl
 have a1 := AB10.out.cell (i := 1) rfl
 have a2 := AB10.out.cell (i := 2) rfl
 have x0 := BX10.out.cell (i := 0) rfl
 have x1 := BX10.out.cell (i := 1) rfl
 have x2 := BX10.out.cell (i := 2) rfl
 have f0 := BX10.out.free 0
 have f1 := BX10.out.free 1
 have f2 := BX10.out.free 2
 have hne16 : ¬ w4.heap.size = w.heap.size := by have := hs16lt.out; omega
 clear hL10 hM10 hM10'
 go_wp2_with fail
 have MF := ((((Mod.refl [w.heap.size] w10).setCell (p := ⟨w.heap.size, 0, none⟩) (.inl (by simp)) (.int .i64 2)).setCell (p := ⟨w.heap.size, 1, none⟩) (.inl (by simp)) (.int .i64 rm)).setCell (p := ⟨w.heap.size, 2, none⟩) (.inl (by simp)) (.int .i64 wt))
 have O10 := O4.out.mod N10.out (fun b hb => by have := HLT.out b hb; have := hz3.out; omega)
 refine bodyPost_ret (v := .tuple #[.agg #[.int .i64 2, .int .i64 rm, .int .i64 wt], .slice a4 ev.length c4]) (Pool.results_row_tmp (p := 10) (u := 11) (ty := 39) rfl _ _ w.heap.size 39 #[.int .i64 2, .int .i64 rm, .int .i64 wt] (0, 0) _ rfl (((BX10.out.set 0 (.int .i64 2)).set 1 (.int .i64 rm)).set 2 (.int .i64 wt)) Try.underlying39 rfl (info_size ans_info)) rfl ⟨_, rfl, (O10.mod MF (fun b hb => by simp at hb; have := hz3.out; omega)).base (by have := hz3.out; omega), L10.out.mod MF (fun b hb hb' => NB.out w.heap.size (Nat.le_refl _) (by simp at hb'; rw [← hb']; exact hb)) (fun hb' => by have := HRB.out; simp at hb'; omega), (M4.out.trans N10.out).trans' MF (fun b hb => .inr (by simp at hb; omega))⟩
set_option maxRecDepth 8000 in
set_option maxHeartbeats 6400000 in
theorem check_ring_yes {K : Nat} (h : LimAt w B c s) (hi : Inv c s K) (hc : c.Ok) (hK : K + c.step ≤ 4194304) {now : Nat} (hn : s.ring.now ≤ now) (hnow : now < 4611686018427387904) (held : Int) (key : List UInt8) (hl : key.length ≤ 1000000) (cost : Int) (hcost : 1 ≤ cost ∧ cost ≤ c.r.burst) (hr : refuse c.r now held cost = none) {ev : List Ev} {s4 : Lm} (hq : settle c ((s.to now).offered c key cost) now key = (none, ev, s4)) (hlt : sum (estS c.R c.wd s4.ring key) cost ≤ c.r.limit) :
  Calls Try.prog 20 #[.pointer (some ⟨B.p, 0, none⟩), .int .i64 (now : Int), .int .i64 held, .string ⟨key.toArray⟩, .int .i64 cost] w (CheckPost B c (⟨1, bounded c.r (c.r.limit - estS c.R c.wd (addR c.R c.wd s4.ring key cost) key), 0⟩, ev, ({ s4 with ring := addR c.R c.wd s4.ring key cost } : Lm).count 1) w) := by
 have hstep : c.step = 2 * c.r.limit.toNat + 1 := rfl
 have RE := Lib.hid (refuse_any (h.mod0 ((Mod.refl [] w).alloc (.cells #[.int .i64 0, .int .i64 0, .int .i64 0] 39))) now held cost)
 rw [hr] at RE
 simp only [ansO, Option.getD_none, Ans.val, Option.isSome_none] at RE
 obtain ⟨it, et⟩ := hi.to hn hnow
 have io := it.offered hc.tr.1 key cost
 have e0 : ((s.to (now : Int)).offered c key cost).ring.now = now := et
 have hst : s.ring.st.length ≤ 65 := h.ring.few.2
 obtain ⟨i4, n4, st4⟩ := io.settle hc hst key (by omega)
 rw [e0, hq] at i4 n4 st4
 simp only at i4 n4 st4
 have HFW0 := i4.few
 have HSM4 := Lib.hid i4.small
 have hlim := hc.limit
 have hbur := hc.burst
 have htame := hc.tame (now := (now : Int)) (by omega)
 have TM := Lib.hid htame
 have TO := Lib.hid (fun W (hM : Mod [] w W) => Ring.to_any (h.ring.mod hM (by simp) (by simp)) now hnow)
 have OF := Lib.hid (fun W (hS : SumAt W B.S c.tr s.E s.t) => Sum.offer_ok (s := (s.E, s.t)) hS hi.sum hc.tr.1 key hl cost (by omega))
 have SE : Hid (∀ W, LimAt W B c ((s.to (now : Int)).offered c key cost) → Calls Try.prog 38 #[.pointer (some ⟨B.p, 0, none⟩), .int .i64 (now : Int), .string ⟨key.toArray⟩] W (SettlePost B c (none, ev, s4) W)) := Lib.hid fun W hL => by
  have := settle_any hL io hc key hl (by omega)
  rw [e0, hq] at this
  exact this
 have FLT := Lib.hid (fun W (hL : LimAt W B c ((s.to (now : Int)).offered c key cost)) => fl_lt hL)
 have HLT := Lib.hid h.lt
 have NB : Hid (∀ b, w.heap.size ≤ b → b ∉ B.all) := Lib.hid fun b hb hb' => by have := h.lt b hb'; omega
 have HRB := Lib.hid (show B.Q.rb < w.heap.size from (h.ring.each 0 (by have := h.ring.few.1; omega)).rows.1)
 have HH := Lib.hid h
 have hp := h.blk.lt
 have hpn : ¬ B.p = w.heap.size := by omega
 have BX := Lib.hid (Blk.new w [.int .i64 0, .int .i64 0, .int .i64 0] 39)
 have M0 := Lib.hid ((Mod.refl [] w).alloc (.cells #[.int .i64 0, .int .i64 0, .int .i64 0] 39))
 have hup := estS_upto (R := c.R) (wd := c.wd) i4.cnt (by omega) (by rw [st4]; exact hst) key
 have hbig4 := i4.big
 have hscI : I64 cost := by unfold I64; omega
 have hesI := Ring.estS_i64 c.R c.wd s4.ring key
 have ES := Lib.hid (fun W (hL : LimAt W B c s4) => Ring.estimate_any hL.ring HSM4.out key hl)
 have SU := Lib.hid (fun W : World => sum_any (estS c.R c.wd s4.ring key) cost hesI hscI W)
 have IC := Lib.hid (fun W (hL : LimAt W B c s4) => show IsC W.drew B.p from isC_of_cell (w := W) (hL.blk.cell (i := 0) rfl))
 have AD := Lib.hid (fun W (hL : LimAt W B c s4) => Ring.add_any hL.ring HSM4.out key hl cost hscI)
 have hcn2 := addR_upto (R := c.R) (wd := c.wd) (M := c.r.limit.toNat) i4.cnt key (cost := cost) (by omega) (by omega)
 have hsm2 : Small (addR c.R c.wd s4.ring key cost) := fun N hN z hz => by have := hcn2 N hN z hz; omega
 have hup2 := estS_upto (R := c.R) (wd := c.wd) hcn2 (by omega) (by rw [addR_st, st4]; exact hst) key
 have ES2 := Lib.hid (fun W (hL : LimAt W B c { s4 with ring := addR c.R c.wd s4.ring key cost }) => Ring.estimate_any hL.ring hsm2 key hl)
 obtain ⟨es, he⟩ : ∃ es, estS c.R c.wd s4.ring key = es := ⟨_, rfl⟩
 rw [he] at ES SU hup hlt
 obtain ⟨rg, hrg⟩ : ∃ rg, addR c.R c.wd s4.ring key cost = rg := ⟨_, rfl⟩
 rw [hrg] at ES2 hup2 AD ⊢
 obtain ⟨es2, he2⟩ : ∃ es2, estS c.R c.wd rg key = es2 := ⟨_, rfl⟩
 rw [he2] at ES2 hup2 ⊢
 obtain ⟨su, hsu⟩ : ∃ su, sum es cost = su := ⟨_, rfl⟩
 rw [hsu] at SU hlt
 obtain ⟨rm, hrm⟩ : ∃ rm, bounded c.r (c.r.limit - es2) = rm := ⟨_, rfl⟩
 have HRB2 := Lib.hid hrm
 rw [hrm]
 have dle : decide (su ≤ c.r.limit) = true := by simp [hlt]
 have hwr : wrap64 (c.r.limit - es2) = c.r.limit - es2 := by unfold wrap64; omega
 have HFW : Hid (Few { s4 with ring := rg }) := Lib.hid ⟨HFW0.al, HFW0.de, HFW0.bad⟩
 clear h hi hc hK hn hl hr hq it et io e0 hst i4 n4 st4 hlim hbur htame hstep hcost hlt hup hbig4 hscI hesI hcn2 hsm2 hup2 he hrg he2 hsu hrm HFW0
 go_enter Try.func20, Try.ntmps20
 go_wp2_with fail
 refine RE.out.mono ?_
 rintro e1 w1 ⟨rfl, hM1⟩
 have M1 := Lib.hid ((M0.out.trans hM1).alloc (.cells #[.int .i64 0, .int .i64 0, .int .i64 0] 39))
 have BX1 := Lib.hid ((hM1.blk BX.out (by simp)).alloc (.cells #[.int .i64 0, .int .i64 0, .int .i64 0] 39))
 have k14 := (HH.out.mod0 M1.out).blk.cell (i := 14) rfl
 clear hM1
 go_wp2_with fail
 refine (TO.out _ M1.out).mono ?_
 rintro e2 w2 ⟨⟨v2, rfl⟩, hR2, hM2⟩
 have L2 : Hid (LimAt w2 B c (s.to now)) := Lib.hid ((HH.out.mod0 M1.out).setRing hR2 hM2 (fun b hb => by simp at hb; subst hb; simp [RiB.own]))
 have hM2' : Mod B.all _ w2 := hM2.mono (fun b hb => .inl (by simp at hb; subst hb; exact all_Q B (by simp [RiB.own])))
 have M2 := Lib.hid ((M1.out.mono (S' := B.all) (by simp)).trans hM2')
 have BX2 := Lib.hid (hM2'.blk BX1.out (NB.out _ (Nat.le_refl _)))
 have k15 := L2.out.blk.cell (i := 15) rfl
 clear hR2 hM2 hM2' k14
 go_wp2_with fail
 refine (OF.out w2 L2.out.sum).mono ?_
 rintro e3 w3 ⟨⟨v3, rfl⟩, hS3, hO3, hM3⟩
 have L3 : Hid (LimAt w3 B c ((s.to (now : Int)).offered c key cost)) := Lib.hid (L2.out.setSum hS3 hM3)
 have hM3' : Mod B.all w2 w3 := hM3.mono (fun b hb => .inl (all_S B hb))
 have M3 := Lib.hid (M2.out.trans hM3')
 have BX3 := Lib.hid (hM3'.blk BX2.out (NB.out _ (Nat.le_refl _)))
 have hz3 : Hid (w.heap.size < w3.heap.size) := Lib.hid (BX3.out.lt)
 clear hS3 hO3 hM3 hM3' k15
 go_wp2_with fail
 refine (SE.out w3 L3.out).mono ?_
 rintro e4 w4 ⟨v4, rfl, hO4, hL4, hM4⟩
 obtain ⟨a4, c4, rfl⟩ := hO4.slice
 have O4 := Lib.hid hO4
 have M4 := Lib.hid (M3.out.trans hM4)
 have hs16lt : Hid (w.heap.size < w4.heap.size) := Lib.hid (by have := hz3.out; have := hM4.size; omega)
 have hs16 : Hid (w.heap.size ≤ w4.heap.size) := Lib.hid (by have := hs16lt.out; omega)
 have A4 := Lib.hid ((Mod.refl [] w4).alloc (.cells #[.int .i64 2, .int .i64 0, .int .i64 0] 39))
 have AB5 := Lib.hid (Blk.new w4 [.int .i64 2, .int .i64 0, .int .i64 0] 39)
 have L5 := Lib.hid (hL4.mod0 A4.out)
 have BX5 := Lib.hid (A4.out.blk (hM4.blk BX3.out (NB.out _ (Nat.le_refl _))) (by simp))
 have N5 := Lib.hid (A4.out.mono (S' := B.all) (by simp))
 clear hO4 hL4 hM4
 have k14 := L5.out.blk.cell (i := 14) rfl
 have k0 := L5.out.blk.cell (i := 0) rfl
 rw [show Pool.cellAt B.P none = .pointer none from rfl]
 go_wp2_with fail
 refine Go.YtndekdafiaogmaaLex.wp_region_held [6, 2] [12] [] (by kernel_rfl) (by kernel_rfl) ?_
 simp only [wpCut, List.take_succ_cons, List.take_zero, List.drop_succ_cons, List.drop_zero, List.cons_append, List.nil_append]
 go_wp2_with fail
 refine (ES.out _ (L5.out.mod0 (Mod.refl [] _).drew)).mono ?_
 rintro e6 w6 ⟨rfl, hM6a⟩
 have IS5 := Lib.hid (IC.out _ L5.out)
 have NN6 := Lib.hid hM6a
 have hM6 := (Mod.refl [] (w4.alloc (.cells #[.int .i64 2, .int .i64 0, .int .i64 0] 39))).drew.trans hM6a
 have Q6 := Lib.hid hM6
 have AB6 := Lib.hid (hM6.blk AB5.out (by simp))
 have L6 := Lib.hid (L5.out.mod0 hM6)
 have BX6 := Lib.hid (hM6.blk BX5.out (by simp))
 have N6 := Lib.hid (N5.out.trans (hM6.mono (S' := B.all) (by simp)))
 clear hM6 hM6a k0 k14
 have k14 := L6.out.blk.cell (i := 14) rfl
 have k0 := L6.out.blk.cell (i := 0) rfl
 go_wp2_with fail
 refine ⟨NN6.out, ?_⟩
 go_wp2_with fail
 refine (SU.out _).mono ?_
 rintro e7 w7 ⟨rfl, rfl⟩
 go_wp2_with fail
 refine ⟨NN6.out, ?_⟩
 go_wp2_with fail
 refine ⟨by kernel_rfl, ⟨⟨by simp, IS5.out⟩, trivial⟩, ?_⟩
 have b0 := AB6.out.cell (i := 0) rfl
 have g0 := AB6.out.free 0
 go_upto_region 16 with (fail)
 have MS70 := Lib.hid ((Mod.refl [w4.heap.size] w6).setCell (p := ⟨w4.heap.size, 0, none⟩) (.inl (by simp)) (.int .i64 1))
 have AB70 := Lib.hid (AB6.out.set 0 (.int .i64 1))
 have L70 := Lib.hid (L6.out.mod MS70.out (fun b hb hb' => NB.out w4.heap.size hs16.out (by simp at hb'; rw [← hb']; exact hb)) (fun hb' => by have := HRB.out; have := hs16.out; simp at hb'; omega))
 have BX70 := Lib.hid (MS70.out.blk BX6.out (by have := hs16lt.out; simp; omega))
 have N70 := Lib.hid (N6.out.trans' MS70.out (fun b hb => .inr (by simp at hb; omega)))
 obtain ⟨w70, hw70⟩ : ∃ w70, w6.setCell ⟨w4.heap.size, 0, none⟩ (.int .i64 1) = w70 := ⟨_, rfl⟩
 rw [hw70] at MS70 AB70 L70 BX70 N70
 simp only [List.set_cons_zero, List.set_cons_succ] at AB70
 rw [hw70]
 clear hw70 b0 g0 k14 k0
 have k14 := L70.out.blk.cell (i := 14) rfl
 go_wp2_with fail
 refine (AD.out _ L70.out).mono ?_
 rintro e71 w71 ⟨⟨v71, rfl⟩, hR71, hM71⟩
 have L71 := Lib.hid (L70.out.setRing hR71 hM71 (fun b hb => hb))
 have hM71' : Mod B.all w70 w71 := hM71.mono (fun b hb => .inl (all_Q B hb))
 have AB71 := Lib.hid (hM71'.blk AB70.out (NB.out _ hs16.out))
 have BX71 := Lib.hid (hM71'.blk BX70.out (NB.out _ (Nat.le_refl _)))
 have N71 := Lib.hid (N70.out.trans hM71')
 clear hR71 hM71 hM71' k14
 go_wp2_with fail
 have k14 := L71.out.blk.cell (i := 14) rfl
 have k0 := L71.out.blk.cell (i := 0) rfl
 have ISa := Lib.hid (show IsC w71.drew B.p from isC_of_cell (w := w71) k0)
 refine Go.YtndekdafiaogmaaLex.wp_region_held [12] [5] [] (by kernel_rfl) (by kernel_rfl) ?_
 simp only [wpCut, List.take_succ_cons, List.take_zero, List.drop_succ_cons, List.drop_zero, List.cons_append, List.nil_append]
 go_wp2_with fail
 refine ((ES2.out _ (L71.out.mod0 (Mod.refl [] _).drew))).mono ?_
 rintro e80 w80 ⟨rfl, hM80a⟩
 have NN80 := Lib.hid hM80a
 have hM80 := (Mod.refl [] w71).drew.trans hM80a
 have Q80 := Lib.hid hM80
 have AB80 := Lib.hid (hM80.blk AB71.out (by simp))
 have L80 := Lib.hid (L71.out.mod0 hM80)
 have BX80 := Lib.hid (hM80.blk BX71.out (by simp))
 have N80 := Lib.hid (N71.out.trans (hM80.mono (S' := B.all) (by simp)))
 clear hM80 hM80a k0 k14
 go_wp2_with fail
 refine ⟨NN80.out, ?_⟩
 go_wp2_with fail
 refine (bounded_any L80.out (c.r.limit - es2)).mono ?_
 rintro e8 w8 ⟨rfl, rfl⟩
 rw [HRB2.out]
 have b1 := AB80.out.cell (i := 1) rfl
 have g1 := AB80.out.free 1
 go_wp2_with fail
 refine ⟨by kernel_rfl, ⟨⟨by simp, ISa.out⟩, trivial⟩, ?_⟩
 go_upto_region 19 with (fail)
 have MS9 := Lib.hid ((Mod.refl [w4.heap.size] w80).setCell (p := ⟨w4.heap.size, 1, none⟩) (.inl (by simp)) (.int .i64 rm))
 have AB9 := Lib.hid (AB80.out.set 1 (.int .i64 rm))
 have L9 := Lib.hid (L80.out.mod MS9.out (fun b hb hb' => NB.out w4.heap.size hs16.out (by simp at hb'; rw [← hb']; exact hb)) (fun hb' => by have := HRB.out; have := hs16.out; simp at hb'; omega))
 have BX9 := Lib.hid (MS9.out.blk BX80.out (by have := hs16lt.out; simp; omega))
 have N9 := Lib.hid (N80.out.trans' MS9.out (fun b hb => .inr (by simp at hb; omega)))
 obtain ⟨w9, hw9⟩ : ∃ w9, w80.setCell ⟨w4.heap.size, 1, none⟩ (.int .i64 rm) = w9 := ⟨_, rfl⟩
 rw [hw9] at MS9 AB9 L9 BX9 N9
 simp only [List.set_cons_zero, List.set_cons_succ] at AB9
 rw [hw9]
 clear hw9 b1 g1
 have k0 := AB9.out.cell (i := 0) rfl
 have CT := Lib.hid (tally_any L9.out HFW.out 1)
 go_wp2_with fail
 refine CT.out.mono ?_
 rintro e10 w10 ⟨⟨v10, rfl⟩, hL10, hM10⟩
 have hM10' : Mod B.all w9 w10 := hM10.mono (fun b hb => .inl (by simp at hb; subst hb; exact all_p B))
 have L10 := Lib.hid hL10
 have AB10 := Lib.hid (hM10'.blk AB9.out (NB.out _ hs16.out))
 have BX10 := Lib.hid (hM10'.blk BX9.out (NB.out _ (Nat.le_refl _)))
 have N10 := Lib.hid (N9.out.trans hM10')
 have a0 := AB10.out.cell (i := 0) rfl
 have a1 := AB10.out.cell (i := 1) rfl
 have a2 := AB10.out.cell (i := 2) rfl
 have x0 := BX10.out.cell (i := 0) rfl
 have x1 := BX10.out.cell (i := 1) rfl
 have x2 := BX10.out.cell (i := 2) rfl
 have f0 := BX10.out.free 0
 have f1 := BX10.out.free 1
 have f2 := BX10.out.free 2
 have hne16 : ¬ w4.heap.size = w.heap.size := by have := hs16lt.out; omega
 clear hL10 hM10 hM10'
 go_wp2_with fail
 have MF := ((((Mod.refl [w.heap.size] w10).setCell (p := ⟨w.heap.size, 0, none⟩) (.inl (by simp)) (.int .i64 1)).setCell (p := ⟨w.heap.size, 1, none⟩) (.inl (by simp)) (.int .i64 rm)).setCell (p := ⟨w.heap.size, 2, none⟩) (.inl (by simp)) (.int .i64 0))
 have O10 := O4.out.mod N10.out (fun b hb => by have := HLT.out b hb; have := hz3.out; omega)
 refine bodyPost_ret (v := .tuple #[.agg #[.int .i64 1, .int .i64 rm, .int .i64 0], .slice a4 ev.length c4]) (Pool.results_row_tmp (p := 10) (u := 11) (ty := 39) rfl _ _ w.heap.size 39 #[.int .i64 1, .int .i64 rm, .int .i64 0] (0, 0) _ rfl (((BX10.out.set 0 (.int .i64 1)).set 1 (.int .i64 rm)).set 2 (.int .i64 0)) Try.underlying39 rfl (info_size ans_info)) rfl ⟨_, rfl, (O10.mod MF (fun b hb => by simp at hb; have := hz3.out; omega)).base (by have := hz3.out; omega), L10.out.mod MF (fun b hb hb' => NB.out w.heap.size (Nat.le_refl _) (by simp at hb'; rw [← hb']; exact hb)) (fun hb' => by have := HRB.out; simp at hb'; omega), (M4.out.trans N10.out).trans' MF (fun b hb => .inr (by simp at hb; omega))⟩
end
end Go.Proofs.Ytndekdafiaogmaa.Lim
end
