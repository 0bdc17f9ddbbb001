/- limiter: resident, where no place is free. (written by wip/tools/gset.py) -/
import Derived.Test.YtndekdafiaogmaaZLimA
set_option linter.unusedSimpArgs false
set_option linter.unusedVariables false
section
namespace Go.Proofs.Ytndekdafiaogmaa.Lim
open Go Go.RowKit Go.YtndekdafiaogmaaMem Go.YtndekdafiaogmaaLex Go.Proofs.Ytndekdafiaogmaa.Hash Go.Proofs.Ytndekdafiaogmaa.Arith Go.Proofs.Ytndekdafiaogmaa.Index Go.Proofs.Ytndekdafiaogmaa.Cell Go.Proofs.Ytndekdafiaogmaa.Slot
open Go.Proofs.Ytndekdafiaogmaa.Pool (PS putP remP pairs PB PoolAt firstIdle)
open Go.Proofs.Ytndekdafiaogmaa.Ring (Rs RiB RingAt estS addR waitS massS Small small_get leastV leastV_small)
open Go.Proofs.Ytndekdafiaogmaa.Sum (Ent OkE SB SumAt countE leastOf)
theorem cold_short {c : Cf} {E : List Ent} : ∀ (xs : List (List UInt8 × Cell)) (b : List UInt8 × Int × Bool), (∀ x ∈ xs, x.1.length ≤ 64) → b.1.length ≤ 64 → (xs.foldl (cold1 c E) b).1.length ≤ 64
 | [], b, _, h => h
 | x :: xs, b, hx, h => by
   rw [List.foldl_cons]
   refine cold_short xs _ (fun y hy => hx y (by simp [hy])) ?_
   unfold cold1
   split
   ·exact hx x (by simp)
   ·exact h
section
variable {w : World} {B : LB} {c : Cf} {s : Lm}
set_option maxRecDepth 8000 in
set_option maxHeartbeats 6400000 in
theorem settle_full {K : Nat} (h : LimAt w B c s) (hi : Inv c s K) (hc : c.Ok) (key : List UInt8) (hl : key.length ≤ 1000000) (hK : K + c.r.limit.toNat ≤ 4194304) (hp : placeOf s.pool.S key = none) (hf : s.pool.fl = []) :
  Calls Try.prog 38 #[.pointer (some ⟨B.p, 0, none⟩), .int .i64 (s.ring.now : Int), .string ⟨key.toArray⟩] w (SettlePost B c (settle c s s.ring.now key) w) := by
 have hq : settle c s s.ring.now key = match victim c s s.ring.now key with
   | none => (none, [], s)
   | some out => ((settleNew c (evict c s s.ring.now out) s.ring.now key).1, [⟨out, false, s.ring.now⟩, ⟨key, true, s.ring.now⟩], (settleNew c (evict c s s.ring.now out) s.ring.now key).2) := by
  unfold settle; rw [hp]; simp only; rw [if_pos hf]; rfl
 have hv : victim c s s.ring.now key = match idleK c.r s.ring.now (pairs s.pool.S s.pool.C) with
   | some k => some k
   | none => coldS c s.E (pairs s.pool.S s.pool.C) key := rfl
 have hik : idleK c.r s.ring.now (pairs s.pool.S s.pool.C) = ((pairs s.pool.S s.pool.C).find? fun x => x.2.idle c.r.pace s.ring.now).map (·.1) := rfl
 have hsh : ∀ x ∈ pairs s.pool.S s.pool.C, x.1.length ≤ 64 := fun x hx => pair_short h hx
 have HSM := Lib.hid hi.small
 have HKL := Lib.hid hl
 have HLT := Lib.hid h.lt
 have HRB := Lib.hid (show B.Q.rb < w.heap.size from (h.ring.each 0 (by have := h.ring.few.1; omega)).rows.1)
 have hearly := hi.now
 have hbig := hi.big
 have htame := hc.tame (now := (s.ring.now : Int)) (by omega)
 have c13 := h.blk.cell (i := 13) rfl
 have HH := Lib.hid h
 have FI := Lib.hid (Pool.find_any h.pool key hl)
 have FU := Lib.hid (fun W (hM : Mod [] w W) => Pool.full_any (h.pool.mod hM (by simp)))
 rw [hp] at FI
 rw [show decide (s.pool.fl = []) = true by simp [hf]] at FU
 have CB : Hid (∀ W, Mod [] w W → (W.cell? ⟨B.p, 13, none⟩ = some (.pointer (some ⟨B.P.p, 0, none⟩)) ∧ W.cell? ⟨B.p, 14, none⟩ = some (.pointer (some ⟨B.Q.p, 0, none⟩))) ∧ W.cell? ⟨B.p, 9, none⟩ = some (.int .i64 c.r.pace.unit) ∧ W.cell? ⟨B.p, 10, none⟩ = some (.int .i64 c.r.pace.window) ∧ W.cell? ⟨B.p, 11, none⟩ = some (.int .i64 c.r.pace.burst) ∧ W.cell? ⟨B.p, 12, none⟩ = some (.int .i64 c.r.pace.limit)) := Lib.hid fun W hM => by
  have := hM.blk h.blk (by simp)
  exact ⟨⟨this.cell (i := 13) rfl, this.cell (i := 14) rfl⟩, this.cell (i := 9) rfl, this.cell (i := 10) rfl, this.cell (i := 11) rfl, this.cell (i := 12) rfl⟩
 have ID := Lib.hid (fun W (hM : Mod [] w W) => Pool.idle_any (h.pool.mod hM (by simp)) c.r.pace (s.ring.now : Int) htame.ok (by have h1 := htame.window; unfold I64; omega))
 have CL := Lib.hid (fun W (hM : Mod [] w W) => colder_any (h.mod0 hM) hc.tr hi.sum key hl)
 have REM := Lib.hid (fun (out : List UInt8) (ho : out.length ≤ 64) W (hM : Mod [] w W) => Pool.rem_at (h.pool.mod hM (by simp)) out (by omega))
 have RF := Lib.hid (fun out => remP_facts hi.cells out (zero_in (bu_pos hc) (by omega) (by omega)))
 have EV := Lib.hid (fun out => hi.evict hc out hK)
 have TM := Lib.hid htame
 have MI := Lib.hid (fun (x : Cell) (hx : CellIn c.r.pace K s.ring.now x) => hx.mild htame (by omega))
 have EF := Lib.hid (fun out => estS_upto (R := c.R) (wd := c.wd) (EV.out out).1.cnt (by omega) (by rw [(EV.out out).2.2]; exact h.ring.few.2) key)
 have HLI := Lib.hid (show 0 ≤ c.r.pace.limit ∧ c.r.pace.limit ≤ 2147483648 from by have := hc.limit; exact ⟨by show 0 ≤ c.r.limit; omega, this.2⟩)
 clear h hi hc hp hf hl
 cases hfd : (pairs s.pool.S s.pool.C).find? fun x => x.2.idle c.r.pace s.ring.now with
 | some x =>
   obtain ⟨out, xc⟩ := x
   have hol : out.length ≤ 64 := hsh _ (List.mem_of_find?_eq_some hfd)
   have hvv : victim c s s.ring.now key = some out := by rw [hv, hik, hfd]; rfl
   have hfi : firstIdle c.r.pace s.ring.now (pairs s.pool.S s.pool.C) = (.string ⟨out.toArray⟩, true) := by unfold firstIdle; rw [hfd]
   rw [hvv] at hq
   simp only at hq
   rw [hq]
   have RM := Lib.hid (REM.out out hol)
   have HOL := Lib.hid (show out.length ≤ 1000000 by omega)
   obtain ⟨x, hx⟩ : ∃ x, (remP s.pool out).1 = x := ⟨_, rfl⟩
   have rf := (RF.out out).1
   rw [hx] at rf
   have hmild := MI.out x rf
   have BO := Lib.hid (fun W : World => Cell.bound_any x c.r.pace s.ring.now hmild TM.out W)
   have hbi := bound_in (x := x) (p := c.r.pace) (now := s.ring.now) HLI.out.1 rf.used.1
   have HSE := Lib.hid (EV.out out).1.small
   have hes := EF.out out
   obtain ⟨bnd, hbn⟩ : ∃ bnd, x.bound c.r.pace (s.ring.now : Int) = bnd := ⟨_, rfl⟩
   rw [hbn] at BO hbi
   have HBN := Lib.hid hbn
   have hli := HLI.out
   have HBI := Lib.hid (show I64 bnd by unfold I64; omega)
   obtain ⟨es, hee⟩ : ∃ es, estS c.R c.wd (evict c s (s.ring.now : Int) out).ring key = es := ⟨_, rfl⟩
   rw [hee] at hes
   have HES := Lib.hid hee
   have HFO := Lib.hid (show (fresh (s.ring.now : Int) es).ok from fresh_ok (by unfold I64; omega) (by unfold I64; omega))
   have NW := Lib.hid (fun W : World => Cell.new_any ((s.ring.now : Int) : Int) es W)
   obtain ⟨q, hqq⟩ : ∃ q, putP (evict c s (s.ring.now : Int) out).pool key (fresh (s.ring.now : Int) es) = q := ⟨_, rfl⟩
   have HQQ := Lib.hid hqq
   have hsn : settleNew c (evict c s (s.ring.now : Int) out) (s.ring.now : Int) key = (q.1, { evict c s (s.ring.now : Int) out with pool := q.2 }) := by unfold settleNew; rw [hee, hqq]
   rw [hsn]
   obtain ⟨x0, x1, x2, x3⟩ := x
   have HX := Lib.hid hx
   simp only [fresh, Cell.val] at NW BO
   clear hx rf hmild hbi hes hbn hli hee hqq hsn hol
   unfold Pool.IdlePost at ID
   rw [hfi] at ID
   clear hv hik hsh htame hfd hvv hfi hq
   go_enter Try.func38, Try.ntmps38
   go_wp2_with fail
   refine FI.out.mono ?_
   rintro e1 w1 ⟨rfl, hM1⟩
   rw [show Pool.cellAt B.P none = .pointer none from rfl]
   have M1 := Lib.hid hM1
   clear hM1
   obtain ⟨⟨k13, k14'⟩, _⟩ := CB.out w1 M1.out
   go_wp2_with fail
   refine (FU.out _ M1.out).mono ?_
   rintro e2 w2 ⟨rfl, hM2⟩
   have M2 := Lib.hid (M1.out.trans hM2)
   clear hM2 k13 k14'
   obtain ⟨⟨k13, k14'⟩, k9, k10, k11, k12⟩ := CB.out w2 M2.out
   go_wp2_with fail
   refine Go.YtndekdafiaogmaaLex.wp_region_lex (by kernel_rfl) (by kernel_rfl) ?_
   go_wp2_with fail
   refine (ID.out _ M2.out.drew).mono ?_
   rintro e4 w4 ⟨rfl, hM4⟩
   have M4 := Lib.hid (M2.out.drew.trans hM4)
   clear hM4 k13 k14' k9 k10 k11 k12
   obtain ⟨⟨k13, k14'⟩, _⟩ := CB.out w4 M4.out
   go_wp2_with fail
   refine ⟨by kernel_rfl, ?_⟩
   go_wp2_with fail
   refine (RM.out _ M4.out).mono ?_
   rintro e5 w5 ⟨rfl, hP5, hM5⟩
   have L5 := Lib.hid ((HH.out.mod0 M4.out).setPool hP5 hM5)
   have M5 : Hid (Mod B.all w w5) := Lib.hid ((M4.out.mono (by simp)).trans (hM5.mono (fun b hb => .inl (all_P B hb))))
   clear hP5 hM5
   rw [HX.out]
   simp only [Cell.val]
   have k9 := L5.out.blk.cell (i := 9) rfl
   have k10 := L5.out.blk.cell (i := 10) rfl
   have k11 := L5.out.blk.cell (i := 11) rfl
   have k12 := L5.out.blk.cell (i := 12) rfl
   have k14 := L5.out.blk.cell (i := 14) rfl
   have hp5 := L5.out.blk.lt
   have hp5n : ¬ B.p = w5.heap.size := by omega
   have XB := Lib.hid (Blk.new w5 [.int .i64 x0, .int .i64 x1, .int .i64 x2, .int .i64 x3] 56)
   have IS5 := Lib.hid (show IsC (w5.alloc (.cells #[.int .i64 x0, .int .i64 x1, .int .i64 x2, .int .i64 x3] 56)).drew B.p from isC_of_cell (w := w5.alloc _) ((L5.out.blk.alloc _).cell (i := 9) rfl))
   clear k13 k14' c13
   go_wp2_with fail
   refine Go.YtndekdafiaogmaaLex.wp_region_held [12] [3] [] (by kernel_rfl) (by kernel_rfl) ?_
   simp only [wpCut, List.take_succ_cons, List.take_zero, List.drop_succ_cons, List.drop_zero, List.cons_append, List.nil_append]
   go_wp2_with fail
   refine (BO.out _).mono ?_
   rintro e6 w6 ⟨rfl, hM6⟩
   have N6 := Lib.hid hM6
   have M6 := Lib.hid (((Mod.refl [] w5).alloc (.cells #[.int .i64 x0, .int .i64 x1, .int .i64 x2, .int .i64 x3] 56)).drew.trans hM6)
   have L6 := Lib.hid (L5.out.mod0 M6.out)
   have AD := Lib.hid (Ring.add_any L6.out.ring HSM.out out HOL.out bnd HBI.out)
   clear hM6
   go_wp2_with fail
   refine ⟨N6.out, ?_⟩
   go_wp2_with fail
   refine AD.out.mono ?_
   rintro e7 w7 ⟨⟨v7, rfl⟩, hR7, hM7⟩
   have L7 : Hid (LimAt w7 B c (evict c s (s.ring.now : Int) out)) := Lib.hid (by
    have := L6.out.setRing hR7 hM7 (fun b hb => hb)
    unfold evict
    rw [HX.out, HBN.out]
    exact this)
   have M7 : Hid (Mod B.all w w7) := Lib.hid ((M5.out.trans (M6.out.mono (by simp))).trans (hM7.mono (fun b hb => .inl (all_Q B hb))))
   clear hR7 hM7 k9 k10 k11 k12 k14 hp5 hp5n
   go_wp2_with fail
   refine ⟨by kernel_rfl, ⟨⟨by simp, IS5.out⟩, trivial⟩, ?_⟩
   have hz7 := M7.out.size
   have HB7 := Lib.hid (Blk.new w7 (Ev.cells ⟨out, false, (s.ring.now : Int)⟩) 54)
   have OE7 := Lib.hid (OwnE.nil (w7.alloc (.cells #[.int .i64 0, .string ⟨out.toArray⟩, .bool false, .int .i64 (s.ring.now : Int)] 54)) w.heap.size)
   have hB7 : w.heap.size ≤ (w7.alloc (.cells #[.int .i64 0, .string ⟨out.toArray⟩, .bool false, .int .i64 (s.ring.now : Int)] 54)).heap.size := by simp; omega
   have MA7 := Lib.hid ((Mod.refl [] w7).alloc (.cells #[.int .i64 0, .string ⟨out.toArray⟩, .bool false, .int .i64 (s.ring.now : Int)] 54))
   go_wp2_with (at_builtin; go_must (refine app_ev ⟨out, false, (s.ring.now : Int)⟩ _ OE7.out rfl _ _ rfl rfl rfl HB7.out hB7 (by simp) ?_; intro v8 w8 ho8 hM8; obtain ⟨a8, c8, rfl⟩ := ho8.slice; have O8 := Lib.hid ho8; have M8 := Lib.hid (MA7.out.trans hM8); have L8 := Lib.hid (L7.out.mod0 M8.out); have k13 := L8.out.blk.cell (i := 13) rfl; have k14 := L8.out.blk.cell (i := 14) rfl; clear ho8 hM8 hB7))
   have MM8 : Hid (Mod B.all w w8) := Lib.hid (M7.out.trans (M8.out.mono (by simp)))
   have ES := Lib.hid (fun W (hM : Mod [] w8 W) => Ring.estimate_any (L8.out.ring.mod hM (by simp) (by simp)) HSE.out key HKL.out)
   have PU := Lib.hid (fun W (hM : Mod [] w8 W) => Pool.put_at (L8.out.pool.mod hM (by simp)) key HKL.out (fresh (s.ring.now : Int) es) HFO.out)
   have IS8 := Lib.hid (show IsC w8.drew B.p from isC_of_cell (w := w8) k13)
   rw [HES.out] at ES
   rw [HQQ.out] at PU
   simp only [fresh, Cell.val] at PU
   go_wp2_with fail
   refine Go.YtndekdafiaogmaaLex.wp_region_held [12, 1] [3] [] (by kernel_rfl) (by kernel_rfl) ?_
   simp only [wpCut, List.take_succ_cons, List.take_zero, List.drop_succ_cons, List.drop_zero, List.cons_append, List.nil_append]
   go_wp2_with fail
   refine (ES.out _ (Mod.refl [] w8).drew).mono ?_
   rintro e9 w9 ⟨rfl, hM9⟩
   have N9 := Lib.hid hM9
   have M9 := Lib.hid ((Mod.refl [] w8).drew.trans hM9)
   clear hM9
   go_wp2_with fail
   refine ⟨N9.out, ?_⟩
   go_wp2_with fail
   refine (NW.out _).mono ?_
   rintro e10 w10 ⟨rfl, hM10⟩
   have N10 := Lib.hid hM10
   have M10 := Lib.hid (M9.out.trans hM10)
   clear hM10
   simp only [fresh, Cell.val]
   go_wp2_with fail
   refine ⟨N9.out.trans N10.out, ?_⟩
   go_wp2_with fail
   refine (PU.out _ M10.out).mono ?_
   rintro e11 w11 ⟨rfl, hP11, hM11⟩
   have L11 : Hid (LimAt w11 B c { evict c s (s.ring.now : Int) out with pool := q.2 }) := Lib.hid ((L8.out.mod0 M10.out).setPool hP11 hM11)
   have M11 : Hid (Mod B.all w w11) := Lib.hid ((MM8.out.trans (M10.out.mono (by simp))).trans (hM11.mono (fun b hb => .inl (all_P B hb))))
   have O11 := Lib.hid ((O8.out.mod M10.out (by simp)).mod hM11 (fun b hb => HLT.out b (all_P B hb)))
   clear hP11 hM11
   go_wp2_with fail
   refine ⟨by kernel_rfl, ⟨⟨by simp, IS8.out⟩, trivial⟩, ?_⟩
   have hz11 := M11.out.size
   have HB11 := Lib.hid (Blk.new w11 (Ev.cells ⟨key, true, (s.ring.now : Int)⟩) 54)
   have OE11 := Lib.hid (OwnE.mod O11.out ((Mod.refl [] w11).alloc (.cells #[.int .i64 0, .string ⟨key.toArray⟩, .bool true, .int .i64 (s.ring.now : Int)] 54)) (by simp))
   have hB11 : w.heap.size ≤ (w11.alloc (.cells #[.int .i64 0, .string ⟨key.toArray⟩, .bool true, .int .i64 (s.ring.now : Int)] 54)).heap.size := by simp; omega
   have MA11 := Lib.hid ((Mod.refl [] w11).alloc (.cells #[.int .i64 0, .string ⟨key.toArray⟩, .bool true, .int .i64 (s.ring.now : Int)] 54))
   have HOB := Lib.hid (own_block O11.out)
   go_wp2_with (at_builtin; go_must (refine app_ev ⟨key, true, (s.ring.now : Int)⟩ _ OE11.out rfl _ _ rfl rfl rfl HB11.out hB11 (by simp) ?_; intro v12 w12 ho12 hM12; have O12 := Lib.hid ho12; have L12 := Lib.hid ((L11.out.mod0 MA11.out).mod hM12 (fun b hb hb' => by have h1 := HLT.out b hb; have h2 := HOB.out b (by simpa using hb'); omega) (fun hb' => by have h1 := HRB.out; have h2 := HOB.out _ (by simpa using hb'); omega)); have MF := Lib.hid ((M11.out.trans (MA11.out.mono (S' := B.all) (by simp))).trans' hM12 (fun b hb => .inr (HOB.out b (by simpa using hb)))); clear ho12 hM12))
   go_wp2_with fail
   go_ret2
   exact ⟨v12, rfl, O12.out, L12.out, MF.out⟩
 | none =>
   have hfi : firstIdle c.r.pace s.ring.now (pairs s.pool.S s.pool.C) = (.string ⟨#[]⟩, false) := by unfold firstIdle; rw [hfd]
   have hvc : victim c s s.ring.now key = if (coldR c s.E (pairs s.pool.S s.pool.C) key).2 then some (coldR c s.E (pairs s.pool.S s.pool.C) key).1 else none := by rw [hv, hik, hfd, ← coldS_eq]; rfl
   have hco : (coldR c s.E (pairs s.pool.S s.pool.C) key).1.length ≤ 64 := by
    unfold coldR coldB
    split
    ·exact cold_short _ _ hsh (by simp)
    ·simp
   unfold Pool.IdlePost at ID
   unfold ColdPost at CL
   rw [hfi] at ID
   cases hcr : coldR c s.E (pairs s.pool.S s.pool.C) key with
   | mk out found =>
     rw [hcr] at hvc hco CL
     simp only at hvc hco CL
     have hol := hco
     cases found with
     | false =>
       rw [if_neg (by simp)] at hvc
       rw [hvc] at hq
       simp only at hq
       rw [hq]
       clear hv hik hsh htame hfd hvc hfi hq hcr hco
       go_enter Try.func38, Try.ntmps38
       go_wp2_with fail
       refine FI.out.mono ?_
       rintro e1 w1 ⟨rfl, hM1⟩
       rw [show Pool.cellAt B.P none = .pointer none from rfl]
       have M1 := Lib.hid hM1
       clear hM1
       obtain ⟨⟨k13, k14'⟩, _⟩ := CB.out w1 M1.out
       go_wp2_with fail
       refine (FU.out _ M1.out).mono ?_
       rintro e2 w2 ⟨rfl, hM2⟩
       have M2 := Lib.hid (M1.out.trans hM2)
       clear hM2 k13 k14'
       obtain ⟨⟨k13, k14'⟩, k9, k10, k11, k12⟩ := CB.out w2 M2.out
       go_wp2_with fail
       refine Go.YtndekdafiaogmaaLex.wp_region_lex (by kernel_rfl) (by kernel_rfl) ?_
       go_wp2_with fail
       refine (ID.out _ M2.out.drew).mono ?_
       rintro e4 w4 ⟨rfl, hM4⟩
       have M4 := Lib.hid (M2.out.drew.trans hM4)
       clear hM4 k13 k14' k9 k10 k11 k12
       obtain ⟨⟨k13, k14'⟩, _⟩ := CB.out w4 M4.out
       go_wp2_with fail
       refine ⟨by kernel_rfl, ?_⟩
       go_wp2_with fail
       refine (CL.out _ M4.out).mono ?_
       rintro e5 w5 ⟨rfl, hM5⟩
       have M5 := Lib.hid (M4.out.trans hM5)
       clear hM5
       go_wp2_with fail
       go_ret2
       exact ⟨_, rfl, OwnE.nil _ _, HH.out.mod0 M5.out, M5.out.mono (by simp)⟩
     | true =>
       rw [if_pos rfl] at hvc
       rw [hvc] at hq
       simp only at hq
       rw [hq]
       have RM := Lib.hid (REM.out out hol)
       have HOL := Lib.hid (show out.length ≤ 1000000 by omega)
       obtain ⟨x, hx⟩ : ∃ x, (remP s.pool out).1 = x := ⟨_, rfl⟩
       have rf := (RF.out out).1
       rw [hx] at rf
       have hmild := MI.out x rf
       have BO := Lib.hid (fun W : World => Cell.bound_any x c.r.pace s.ring.now hmild TM.out W)
       have hbi := bound_in (x := x) (p := c.r.pace) (now := s.ring.now) HLI.out.1 rf.used.1
       have HSE := Lib.hid (EV.out out).1.small
       have hes := EF.out out
       obtain ⟨bnd, hbn⟩ : ∃ bnd, x.bound c.r.pace (s.ring.now : Int) = bnd := ⟨_, rfl⟩
       rw [hbn] at BO hbi
       have HBN := Lib.hid hbn
       have hli := HLI.out
       have HBI := Lib.hid (show I64 bnd by unfold I64; omega)
       obtain ⟨es, hee⟩ : ∃ es, estS c.R c.wd (evict c s (s.ring.now : Int) out).ring key = es := ⟨_, rfl⟩
       rw [hee] at hes
       have HES := Lib.hid hee
       have HFO := Lib.hid (show (fresh (s.ring.now : Int) es).ok from fresh_ok (by unfold I64; omega) (by unfold I64; omega))
       have NW := Lib.hid (fun W : World => Cell.new_any ((s.ring.now : Int) : Int) es W)
       obtain ⟨q, hqq⟩ : ∃ q, putP (evict c s (s.ring.now : Int) out).pool key (fresh (s.ring.now : Int) es) = q := ⟨_, rfl⟩
       have HQQ := Lib.hid hqq
       have hsn : settleNew c (evict c s (s.ring.now : Int) out) (s.ring.now : Int) key = (q.1, { evict c s (s.ring.now : Int) out with pool := q.2 }) := by unfold settleNew; rw [hee, hqq]
       rw [hsn]
       obtain ⟨x0, x1, x2, x3⟩ := x
       have HX := Lib.hid hx
       simp only [fresh, Cell.val] at NW BO
       clear hx rf hmild hbi hes hbn hli hee hqq hsn hol
       clear hv hik hsh htame hfd hvc hfi hq hcr hco
       go_enter Try.func38, Try.ntmps38
       go_wp2_with fail
       refine FI.out.mono ?_
       rintro e1 w1 ⟨rfl, hM1⟩
       rw [show Pool.cellAt B.P none = .pointer none from rfl]
       have M1 := Lib.hid hM1
       clear hM1
       obtain ⟨⟨k13, k14'⟩, _⟩ := CB.out w1 M1.out
       go_wp2_with fail
       refine (FU.out _ M1.out).mono ?_
       rintro e2 w2 ⟨rfl, hM2⟩
       have M2 := Lib.hid (M1.out.trans hM2)
       clear hM2 k13 k14'
       obtain ⟨⟨k13, k14'⟩, k9, k10, k11, k12⟩ := CB.out w2 M2.out
       go_wp2_with fail
       refine Go.YtndekdafiaogmaaLex.wp_region_lex (by kernel_rfl) (by kernel_rfl) ?_
       go_wp2_with fail
       refine (ID.out _ M2.out.drew).mono ?_
       rintro e4 w4 ⟨rfl, hM4⟩
       have M4 := Lib.hid (M2.out.drew.trans hM4)
       clear hM4 k13 k14' k9 k10 k11 k12
       obtain ⟨⟨k13, k14'⟩, _⟩ := CB.out w4 M4.out
       go_wp2_with fail
       refine ⟨by kernel_rfl, ?_⟩
       go_wp2_with fail
       refine (CL.out _ M4.out).mono ?_
       rintro e5 w5 ⟨rfl, hM5⟩
       have M4' := Lib.hid (M4.out.trans hM5)
       clear hM5 k13 k14'
       clear M4
       have M4 := Lib.hid M4'.out
       clear M4'
       obtain ⟨⟨k13, k14'⟩, _⟩ := CB.out w5 M4.out
       go_wp2_with fail
       refine (RM.out _ M4.out).mono ?_
       rintro e5 w5 ⟨rfl, hP5, hM5⟩
       have L5 := Lib.hid ((HH.out.mod0 M4.out).setPool hP5 hM5)
       have M5 : Hid (Mod B.all w w5) := Lib.hid ((M4.out.mono (by simp)).trans (hM5.mono (fun b hb => .inl (all_P B hb))))
       clear hP5 hM5
       rw [HX.out]
       simp only [Cell.val]
       have k9 := L5.out.blk.cell (i := 9) rfl
       have k10 := L5.out.blk.cell (i := 10) rfl
       have k11 := L5.out.blk.cell (i := 11) rfl
       have k12 := L5.out.blk.cell (i := 12) rfl
       have k14 := L5.out.blk.cell (i := 14) rfl
       have hp5 := L5.out.blk.lt
       have hp5n : ¬ B.p = w5.heap.size := by omega
       have XB := Lib.hid (Blk.new w5 [.int .i64 x0, .int .i64 x1, .int .i64 x2, .int .i64 x3] 56)
       have IS5 := Lib.hid (show IsC (w5.alloc (.cells #[.int .i64 x0, .int .i64 x1, .int .i64 x2, .int .i64 x3] 56)).drew B.p from isC_of_cell (w := w5.alloc _) ((L5.out.blk.alloc _).cell (i := 9) rfl))
       clear k13 k14' c13
       go_wp2_with fail
       refine Go.YtndekdafiaogmaaLex.wp_region_held [12] [3] [] (by kernel_rfl) (by kernel_rfl) ?_
       simp only [wpCut, List.take_succ_cons, List.take_zero, List.drop_succ_cons, List.drop_zero, List.cons_append, List.nil_append]
       go_wp2_with fail
       refine (BO.out _).mono ?_
       rintro e6 w6 ⟨rfl, hM6⟩
       have N6 := Lib.hid hM6
       have M6 := Lib.hid (((Mod.refl [] w5).alloc (.cells #[.int .i64 x0, .int .i64 x1, .int .i64 x2, .int .i64 x3] 56)).drew.trans hM6)
       have L6 := Lib.hid (L5.out.mod0 M6.out)
       have AD := Lib.hid (Ring.add_any L6.out.ring HSM.out out HOL.out bnd HBI.out)
       clear hM6
       go_wp2_with fail
       refine ⟨N6.out, ?_⟩
       go_wp2_with fail
       refine AD.out.mono ?_
       rintro e7 w7 ⟨⟨v7, rfl⟩, hR7, hM7⟩
       have L7 : Hid (LimAt w7 B c (evict c s (s.ring.now : Int) out)) := Lib.hid (by
        have := L6.out.setRing hR7 hM7 (fun b hb => hb)
        unfold evict
        rw [HX.out, HBN.out]
        exact this)
       have M7 : Hid (Mod B.all w w7) := Lib.hid ((M5.out.trans (M6.out.mono (by simp))).trans (hM7.mono (fun b hb => .inl (all_Q B hb))))
       clear hR7 hM7 k9 k10 k11 k12 k14 hp5 hp5n
       go_wp2_with fail
       refine ⟨by kernel_rfl, ⟨⟨by simp, IS5.out⟩, trivial⟩, ?_⟩
       have hz7 := M7.out.size
       have HB7 := Lib.hid (Blk.new w7 (Ev.cells ⟨out, false, (s.ring.now : Int)⟩) 54)
       have OE7 := Lib.hid (OwnE.nil (w7.alloc (.cells #[.int .i64 0, .string ⟨out.toArray⟩, .bool false, .int .i64 (s.ring.now : Int)] 54)) w.heap.size)
       have hB7 : w.heap.size ≤ (w7.alloc (.cells #[.int .i64 0, .string ⟨out.toArray⟩, .bool false, .int .i64 (s.ring.now : Int)] 54)).heap.size := by simp; omega
       have MA7 := Lib.hid ((Mod.refl [] w7).alloc (.cells #[.int .i64 0, .string ⟨out.toArray⟩, .bool false, .int .i64 (s.ring.now : Int)] 54))
       go_wp2_with (at_builtin; go_must (refine app_ev ⟨out, false, (s.ring.now : Int)⟩ _ OE7.out rfl _ _ rfl rfl rfl HB7.out hB7 (by simp) ?_; intro v8 w8 ho8 hM8; obtain ⟨a8, c8, rfl⟩ := ho8.slice; have O8 := Lib.hid ho8; have M8 := Lib.hid (MA7.out.trans hM8); have L8 := Lib.hid (L7.out.mod0 M8.out); have k13 := L8.out.blk.cell (i := 13) rfl; have k14 := L8.out.blk.cell (i := 14) rfl; clear ho8 hM8 hB7))
       have MM8 : Hid (Mod B.all w w8) := Lib.hid (M7.out.trans (M8.out.mono (by simp)))
       have ES := Lib.hid (fun W (hM : Mod [] w8 W) => Ring.estimate_any (L8.out.ring.mod hM (by simp) (by simp)) HSE.out key HKL.out)
       have PU := Lib.hid (fun W (hM : Mod [] w8 W) => Pool.put_at (L8.out.pool.mod hM (by simp)) key HKL.out (fresh (s.ring.now : Int) es) HFO.out)
       have IS8 := Lib.hid (show IsC w8.drew B.p from isC_of_cell (w := w8) k13)
       rw [HES.out] at ES
       rw [HQQ.out] at PU
       simp only [fresh, Cell.val] at PU
       go_wp2_with fail
       refine Go.YtndekdafiaogmaaLex.wp_region_held [12, 1] [3] [] (by kernel_rfl) (by kernel_rfl) ?_
       simp only [wpCut, List.take_succ_cons, List.take_zero, List.drop_succ_cons, List.drop_zero, List.cons_append, List.nil_append]
       go_wp2_with fail
       refine (ES.out _ (Mod.refl [] w8).drew).mono ?_
       rintro e9 w9 ⟨rfl, hM9⟩
       have N9 := Lib.hid hM9
       have M9 := Lib.hid ((Mod.refl [] w8).drew.trans hM9)
       clear hM9
       go_wp2_with fail
       refine ⟨N9.out, ?_⟩
       go_wp2_with fail
       refine (NW.out _).mono ?_
       rintro e10 w10 ⟨rfl, hM10⟩
       have N10 := Lib.hid hM10
       have M10 := Lib.hid (M9.out.trans hM10)
       clear hM10
       simp only [fresh, Cell.val]
       go_wp2_with fail
       refine ⟨N9.out.trans N10.out, ?_⟩
       go_wp2_with fail
       refine (PU.out _ M10.out).mono ?_
       rintro e11 w11 ⟨rfl, hP11, hM11⟩
       have L11 : Hid (LimAt w11 B c { evict c s (s.ring.now : Int) out with pool := q.2 }) := Lib.hid ((L8.out.mod0 M10.out).setPool hP11 hM11)
       have M11 : Hid (Mod B.all w w11) := Lib.hid ((MM8.out.trans (M10.out.mono (by simp))).trans (hM11.mono (fun b hb => .inl (all_P B hb))))
       have O11 := Lib.hid ((O8.out.mod M10.out (by simp)).mod hM11 (fun b hb => HLT.out b (all_P B hb)))
       clear hP11 hM11
       go_wp2_with fail
       refine ⟨by kernel_rfl, ⟨⟨by simp, IS8.out⟩, trivial⟩, ?_⟩
       have hz11 := M11.out.size
       have HB11 := Lib.hid (Blk.new w11 (Ev.cells ⟨key, true, (s.ring.now : Int)⟩) 54)
       have OE11 := Lib.hid (OwnE.mod O11.out ((Mod.refl [] w11).alloc (.cells #[.int .i64 0, .string ⟨key.toArray⟩, .bool true, .int .i64 (s.ring.now : Int)] 54)) (by simp))
       have hB11 : w.heap.size ≤ (w11.alloc (.cells #[.int .i64 0, .string ⟨key.toArray⟩, .bool true, .int .i64 (s.ring.now : Int)] 54)).heap.size := by simp; omega
       have MA11 := Lib.hid ((Mod.refl [] w11).alloc (.cells #[.int .i64 0, .string ⟨key.toArray⟩, .bool true, .int .i64 (s.ring.now : Int)] 54))
       have HOB := Lib.hid (own_block O11.out)
       go_wp2_with (at_builtin; go_must (refine app_ev ⟨key, true, (s.ring.now : Int)⟩ _ OE11.out rfl _ _ rfl rfl rfl HB11.out hB11 (by simp) ?_; intro v12 w12 ho12 hM12; have O12 := Lib.hid ho12; have L12 := Lib.hid ((L11.out.mod0 MA11.out).mod hM12 (fun b hb hb' => by have h1 := HLT.out b hb; have h2 := HOB.out b (by simpa using hb'); omega) (fun hb' => by have h1 := HRB.out; have h2 := HOB.out _ (by simpa using hb'); omega)); have MF := Lib.hid ((M11.out.trans (MA11.out.mono (S' := B.all) (by simp))).trans' hM12 (fun b hb => .inr (HOB.out b (by simpa using hb)))); clear ho12 hM12))
       go_wp2_with fail
       go_ret2
       exact ⟨v12, rfl, O12.out, L12.out, MF.out⟩
theorem settle_any {K : Nat} (h : LimAt w B c s) (hi : Inv c s K) (hc : c.Ok) (key : List UInt8) (hl : key.length ≤ 1000000) (hK : K + c.r.limit.toNat ≤ 4194304) :
  Calls Try.prog 38 #[.pointer (some ⟨B.p, 0, none⟩), .int .i64 (s.ring.now : Int), .string ⟨key.toArray⟩] w (SettlePost B c (settle c s s.ring.now key) w) := by
 cases hp : placeOf s.pool.S key with
 | none =>
   by_cases hf : s.pool.fl = []
   ·exact settle_full h hi hc key hl hK hp hf
   ·exact settle_free h hi hc key hl hp hf
 | some i =>
   have hq : settle c s s.ring.now key = (some i, [], s) := by unfold settle; rw [hp]
   rw [hq]
   have HH := Lib.hid h
   have c13 := h.blk.cell (i := 13) rfl
   have FI := Lib.hid (Pool.find_any h.pool key hl)
   rw [hp] at FI
   clear h hi hc hq hp
   go_enter Try.func38, Try.ntmps38
   go_wp2_with fail
   refine FI.out.mono ?_
   rintro e1 w1 ⟨rfl, hM1⟩
   rw [show Pool.cellAt B.P (some i) = .pointer (some ⟨B.P.cb, i * 4, none⟩) from rfl]
   go_wp2_with fail
   go_ret2
   exact ⟨_, rfl, OwnE.nil _ _, HH.out.mod0 hM1, hM1.mono (by simp)⟩
end
end Go.Proofs.Ytndekdafiaogmaa.Lim
end
