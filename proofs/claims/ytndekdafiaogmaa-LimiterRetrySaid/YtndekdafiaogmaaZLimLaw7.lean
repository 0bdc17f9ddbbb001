/- limiter's laws: LimiterRetry. No condition. (written by wip/tools) -/
import Derived.Test.YtndekdafiaogmaaZLimC
import Derived.Test.YtndekdafiaogmaaZLimD
import Derived.Test.YtndekdafiaogmaaZPerm
section
namespace Go.Proofs.Ytndekdafiaogmaa.Lim
open Go Go.RowKit Go.YtndekdafiaogmaaMem Go.YtndekdafiaogmaaLex Go.Proofs.Ytndekdafiaogmaa.Hash Go.Proofs.Ytndekdafiaogmaa.Arith Go.Proofs.Ytndekdafiaogmaa.Index Go.Proofs.Ytndekdafiaogmaa.Cell Go.Proofs.Ytndekdafiaogmaa.Slot
open Go.Proofs.Ytndekdafiaogmaa.Pool (PS putP remP pairs PB PoolAt firstIdle)
open Go.Proofs.Ytndekdafiaogmaa.Ring (Rs RiB RingAt estS addR waitS massS Small small_get leastV leastV_small ring0)
open Go.Proofs.Ytndekdafiaogmaa.Sum (Ent OkE SB SumAt countE leastOf)
set_option linter.unusedVariables false
set_option linter.unusedSimpArgs false

/-- A peek of a key that has a cell. -/
theorem peek_cell {c : Cf} {s : Lm} {key : List UInt8} {i : Nat} (hp : placeOf s.pool.S key = some i) {now held cost : Int} (hf : refuse c.r now held cost = none) :
    peek c s now held key cost = (⟨if 0 < (s.pool.C.getD i .zero).wait c.r.pace now cost then 2 else 1, (s.pool.C.getD i .zero).room c.r.pace now, (s.pool.C.getD i .zero).wait c.r.pace now cost⟩, s.to now) := by
  have hq : peekC c (s.to now) now key = some (s.pool.C.getD i .zero) := by
    unfold peekC
    rw [show placeOf (s.to now).pool.S key = some i from hp]
    rfl
  unfold Lim.peek
  rw [hf]
  unfold peekA
  rw [hq]
/-- How long it is to be waited, and what is answered then. -/
structure Waits (c : Cf) (s : Lm) (i t : Nat) (cost : Int) (W : Nat) : Prop where
  now : (s.pool.C.getD i .zero).wait c.r.pace t cost = W
  most : W ≤ 1125899906842624
  room : W = 0 ↔ cost ≤ (s.pool.C.getD i .zero).room c.r.pace t
  later : ∀ d : Nat, d ≤ W → (s.pool.C.getD i .zero).wait c.r.pace ((t + d : Nat) : Int) cost = ((W - d : Nat) : Int)
  roomL : cost ≤ (s.pool.C.getD i .zero).room c.r.pace ((t + W : Nat) : Int)
theorem waits {c : Cf} {s : Lm} {K : Nat} (h : Inv c s K) (hc : c.Ok) {i t : Nat} (ht : s.ring.now ≤ t) (htb : t ≤ 1000000) {cost : Int} (hcost : 1 ≤ cost ∧ cost ≤ c.r.burst) : ∃ W, Waits c s i t cost W := by
  have hx := h.cell hc i
  obtain ⟨x, hxx⟩ : ∃ x, s.pool.C.getD i .zero = x := ⟨_, rfl⟩
  rw [hxx] at hx
  have hx2 : CellIn c.r.pace K t x := hx.mono (by omega) (by omega)
  have hbig := h.big
  have tm : ∀ u : Nat, u < 4611686018427387904 → Tame c.r.pace u := fun u hu => hc.tame (by omega)
  have hm := hx2.mild (tm t (by omega)) (by omega)
  have h0 := wait_nonneg (x := x) (p := c.r.pace) (now := (t : Int)) (cost := cost)
  have hpa := hc.pace
  have hwi := hc.window
  have hub : x.wait c.r.pace t cost ≤ 1125899906842624 := by
    have hB : 0 ≤ (c.r.pace.burst - cost) * c.r.pace.unit := Int.mul_nonneg (by have : c.r.pace.burst = c.r.burst := rfl; omega) (by omega)
    have hl : x.lag c.r.pace t cost ≤ 4398046511104 := by
      unfold Cell.lag
      have := hx2.full
      have e : c.r.pace.burst = c.r.burst := rfl
      rw [e] at this ⊢
      rw [e] at hB
      omega
    unfold Cell.wait
    have := hx2.since
    have e : c.r.pace.window = c.r.window := rfl
    rw [e]
    split <;> omega
  obtain ⟨W, hW⟩ : ∃ W : Nat, x.wait c.r.pace t cost = W := ⟨(x.wait c.r.pace t cost).toNat, by omega⟩
  have later : ∀ d : Nat, d ≤ W → x.wait c.r.pace ((t + d : Nat) : Int) cost = ((W - d : Nat) : Int) := fun d hd => by
    have := wait_later (d := (d : Int)) hm (tm t (by omega)) (by have := tm (t + d) (by omega); rw [show ((t + d : Nat) : Int) = (t : Int) + d by omega] at this; exact this) hcost (by omega)
    rw [show ((t + d : Nat) : Int) = (t : Int) + d by omega, this, hW]
    omega
  refine ⟨W, by rw [hxx]; exact hW, by omega, ?_, by rw [hxx]; exact later, ?_⟩
  · rw [hxx]
    have := wait_room hm (tm t (by omega)) hcost
    rw [hW] at this
    constructor
    · intro hz; exact this.1 (by omega)
    · intro hz; have := this.2 hz; omega
  · rw [hxx]
    refine (wait_room hm (tm (t + W) (by omega)) hcost).1 ?_
    rw [later W (Nat.le_refl _)]; simp
set_option maxRecDepth 8000 in
set_option maxHeartbeats 12800000 in
theorem retry_main (w : World) (p : Plan) (a : Option Addr) (cp : Nat) (l : List Call) (hm : l.length ≤ maxLen) (hP : InRow w a 4 Call.cells l) (ask : Int) (hL : lightB l = true) :
    Calls Try.prog 13 #[p.val, .slice a l.length cp, .int .i64 ask] w fun e w' => e = .returned (.bool true) ∧ Mod [] w w' := by
  obtain ⟨hl150, hkeys⟩ := light_spec hL
  obtain ⟨hro, hlim⟩ := rule_ok p
  have LI := Lib.hid (fun W (hM : Mod [] w W) => light_any (inrow_mod hP hM) hm cp)
  rw [hL] at LI
  have GET := Lib.hid (fun j q (hq : l[j]? = some q) => inrow_get hP hq)
  have KEY := Lib.hid (fun j q (hq : l[j]? = some q) => hkeys q (List.mem_of_getElem? hq))
  have RU := Lib.hid (fun W : World => rule_any p W)
  have hrg0 : RingOf (cfOf p.rule [1, 2, 3]) (new0 (cfOf p.rule [1, 2, 3])).ring := ring_of0 (rule_ok p).1
  obtain ⟨r, hr⟩ : ∃ r, p.rule = r := ⟨_, rfl⟩
  rw [hr] at RU hro hlim hrg0
  have HRO := Lib.hid hro
  have NW := Lib.hid (fun (W : World) v (hv : Sl W v (v64 [1, 2, 3])) => new_any hv (by simp) r hro)
  have CO := Lib.hid (fun z (W : World) => cost_any r (by have := hro.burst; omega) z W)
  obtain ⟨c, hc⟩ : ∃ c, cfOf r [1, 2, 3] = c := ⟨_, rfl⟩
  have hcr : c.r = r := by rw [← hc]; rfl
  have HCR := Lib.hid hcr
  have HC := Lib.hid (show c.Ok by rw [← hc]; exact hro.cf [1, 2, 3])
  rw [hc] at NW hrg0
  have HG0 := Lib.hid hrg0
  have HLIM := Lib.hid hlim
  have hbur := hro.burst
  obtain ⟨p0, p1, p2, p3, p4, p5, p6, p7, p8⟩ := p
  obtain ⟨r0, r1, r2, r3, r4, r5, r6, r7, r8⟩ := r
  simp only [Plan.val, Rule.val] at *
  obtain ⟨a9, ha9, hb9, hc9⟩ : ∃ a, bits .and .i64 ask 31 = a ∧ 0 ≤ a ∧ a < 32 := ⟨_, rfl, ba31 ask⟩
  obtain ⟨q9, hq9⟩ : ∃ q, a9.tmod r2 = q := ⟨_, rfl⟩
  have HQ := Lib.hid (show a9.tmod r2 = q9 ∧ a9 % r2 = q9 ∧ 0 ≤ q9 ∧ q9 < r2 from by
    have := tmod_in hb9 (show 1 ≤ r2 by omega)
    rw [hq9] at this
    exact ⟨hq9, by rw [← hq9, Int.tmod_eq_emod_of_nonneg hb9], this⟩)
  clear hq9
  have PB0 := Lib.hid (Blk.new w [.int .i64 p0, .int .i64 p1, .int .i64 p2, .int .i64 p3, .int .i64 p4, .int .i64 p5, .int .i64 p6, .int .i64 p7, .bool p8] 23)
  have M0 := Lib.hid ((Mod.refl [] w).alloc (.cells #[.int .i64 p0, .int .i64 p1, .int .i64 p2, .int .i64 p3, .int .i64 p4, .int .i64 p5, .int .i64 p6, .int .i64 p7, .bool p8] 23))
  obtain ⟨n, hn⟩ : ∃ n, l.length = n := ⟨_, rfl⟩
  have HN := Lib.hid hn
  rw [hn] at LI hl150 ⊢
  clear hP hm hL hkeys hro hr hc hcr hlim hn hrg0 
  go_enter Try.func13, Try.ntmps13
  go_wp2_with fail
  refine (fit_any _).mono ?_
  rintro e1 w1 ⟨rfl, hM1⟩
  have M1 := Lib.hid (M0.out.trans hM1)
  have PB1 := Lib.hid (hM1.blk PB0.out (by simp))
  clear hM1
  go_wp2_with fail
  refine (LI.out _ M1.out).mono ?_
  rintro e2 w2 ⟨rfl, hM2⟩
  have M2 := Lib.hid (M1.out.trans hM2)
  have PB2 := Lib.hid (hM2.blk PB1.out (by simp))
  have b0 := PB2.out.cell (i := 0) rfl
  have b1 := PB2.out.cell (i := 1) rfl
  have b2 := PB2.out.cell (i := 2) rfl
  have b3 := PB2.out.cell (i := 3) rfl
  have b4 := PB2.out.cell (i := 4) rfl
  have b5 := PB2.out.cell (i := 5) rfl
  have b6 := PB2.out.cell (i := 6) rfl
  have b7 := PB2.out.cell (i := 7) rfl
  have b8 := PB2.out.cell (i := 8) rfl
  clear hM2
  go_wp2_with fail
  refine (RU.out _).mono ?_
  rintro e3 w3 ⟨rfl, hM3⟩
  have M3 := Lib.hid (M2.out.trans hM3)
  have RB3 := Lib.hid (Blk.new w3 [.int .i64 r0, .int .i64 r1, .int .i64 r2, .int .i64 r3, .int .i64 r4, .int .i64 r5, .int .i64 r6, .int .i64 r7, .bool r8] 29)
  have A3 := Lib.hid ((Mod.refl [] w3).alloc (.cells #[.int .i64 r0, .int .i64 r1, .int .i64 r2, .int .i64 r3, .int .i64 r4, .int .i64 r5, .int .i64 r6, .int .i64 r7, .bool r8] 29))
  have hlt3 : w.heap.size < w3.heap.size := (hM3.blk PB2.out (by simp)).lt
  clear hM3 b0 b1 b2 b3 b4 b5 b6 b7 b8
  simp only [Rule.val]
  have DR := Lib.hid (Blk.new (w3.alloc (.cells #[.int .i64 r0, .int .i64 r1, .int .i64 r2, .int .i64 r3, .int .i64 r4, .int .i64 r5, .int .i64 r6, .int .i64 r7, .bool r8] 29)) [.int .u64 1, .int .u64 2, .int .u64 3] 47)
  have A3b := Lib.hid (A3.out.alloc (.cells #[.int .u64 1, .int .u64 2, .int .u64 3] 47))
  rw [show (w3.alloc (.cells #[.int .i64 r0, .int .i64 r1, .int .i64 r2, .int .i64 r3, .int .i64 r4, .int .i64 r5, .int .i64 r6, .int .i64 r7, .bool r8] 29)).heap.size = w3.heap.size + 1 by simp] at DR
  have hsl : Sl ((w3.alloc (.cells #[.int .i64 r0, .int .i64 r1, .int .i64 r2, .int .i64 r3, .int .i64 r4, .int .i64 r5, .int .i64 r6, .int .i64 r7, .bool r8] 29)).alloc (.cells #[.int .u64 1, .int .u64 2, .int .u64 3] 47)) (.slice (some ⟨w3.heap.size + 1, 0, none⟩) 3 3) (v64 [1, 2, 3]) :=
    .inr ⟨w3.heap.size + 1, 0, 3, rfl, Nat.le_refl _, by unfold maxLen; omega, DR.out.lt, fun i u hu => by rw [Nat.zero_add]; exact DR.out.cell hu⟩
  have SL := Lib.hid hsl
  clear hsl
  go_wp2_with fail
  refine (NW.out _ _ SL.out).mono ?_
  rintro e4 w4 ⟨B, rfl, hL4, hB4, hrb4, hM4⟩
  have BL := Lib.hid (show (∀ b, b ∈ B.all → w.heap.size < b) ∧ w3.heap.size ∉ B.all from by
    have h3 : w3.heap.size + 2 ≤ ((w3.alloc (.cells #[.int .i64 r0, .int .i64 r1, .int .i64 r2, .int .i64 r3, .int .i64 r4, .int .i64 r5, .int .i64 r6, .int .i64 r7, .bool r8] 29)).alloc (.cells #[.int .u64 1, .int .u64 2, .int .u64 3] 47)).heap.size := by simp
    exact ⟨fun b hb => by have := hB4 b hb; omega, fun hb => by have := hB4 _ hb; omega⟩)
  have RB4 := Lib.hid (hM4.blk (RB3.out.alloc _) (by simp))
  have L4 := Lib.hid hL4
  have M4 := Lib.hid ((M3.out.trans A3b.out).trans hM4)
  clear hL4 hB4 hrb4 hM4
  go_wp2_with fail
  go_loopw [9, 32] (fun now i W => ∃ (k t : Nat) (s : Lm), k ≤ n ∧ i = .int .i64 (k : Int) ∧ now = .int .i64 (t : Int) ∧ LimAt W B c s ∧ Kept c s k t ∧ Blk W w3.heap.size 29 [.int .i64 r0, .int .i64 r1, .int .i64 r2, .int .i64 r3, .int .i64 r4, .int .i64 r5, .int .i64 r6, .int .i64 r7, .bool r8] ∧ Mod [] w W) (fun _ i _ => n - (intOf i).toNat)
  case atStart => exact ⟨0, 0, new0 c, Nat.zero_le _, rfl, rfl, L4.out, kept0 c HC.out, RB4.out, M4.out⟩
  case round =>
    obtain ⟨k, t, s, hk, rfl, rfl, hLr, hKr, hRr, hM⟩ := hrel
    have LR := Lib.hid hLr
    have HK := Lib.hid hKr
    have RR := Lib.hid hRr
    have MR := Lib.hid hM
    by_cases hlt : k < n
    · obtain ⟨q, hq⟩ : ∃ q, l[k]? = some q := ⟨_, List.getElem?_eq_getElem (by have := HN.out; omega)⟩
      obtain ⟨b, off, rfl, hcells⟩ := GET.out k q hq
      have hk64 := KEY.out k q hq
      obtain ⟨x0, x1, x2, x3⟩ := hcells wr hM
      obtain ⟨gz, cz, key, pk⟩ := q
      simp only at x0 x1 x2 x3 hk64
      have HF := Lib.hid (hLr.ring.few.2)
      have CC := Lib.hid (Blk.new wr [.int .i64 gz, .int .i64 cz, .string ⟨key.toArray⟩, .bool pk] 35)
      have AC := Lib.hid ((Mod.refl [] wr).alloc (.cells #[.int .i64 gz, .int .i64 cz, .string ⟨key.toArray⟩, .bool pk] 35))
      have hrw : w3.heap.size < wr.heap.size := hRr.lt
      have hrw' : ¬ w3.heap.size = wr.heap.size := by omega
      have hti := hKr.time
      have rb0 := hRr.cell (i := 0) rfl
      have rb1 := hRr.cell (i := 1) rfl
      have rb2 := hRr.cell (i := 2) rfl
      have rb3 := hRr.cell (i := 3) rfl
      have rb4 := hRr.cell (i := 4) rfl
      have rb5 := hRr.cell (i := 5) rfl
      have rb6 := hRr.cell (i := 6) rfl
      have rb7 := hRr.cell (i := 7) rfl
      have rb8 := hRr.cell (i := 8) rfl
      have dk : decide ((k : Int) < (n : Int)) = true := by simp; omega
      obtain ⟨hk150, ht2⟩ := small_kt (show k ≤ 149 by omega) hti.2
      clear hLr hKr hRr hM hcells hq
      go_wp2_with fail
      refine (gap_any gz _).mono ?_
      rintro e5 w5 ⟨g, rfl, hg, rfl⟩
      go_wp2_with fail
      have ISC := Lib.hid (isC_of_blk CC.out.drew)
      refine Go.YtndekdafiaogmaaLex.wp_region_held [8] [3] [] (by kernel_rfl) (by kernel_rfl) ?_
      simp only [wpCut, List.take_succ_cons, List.take_zero, List.drop_succ_cons, List.drop_zero, List.cons_append, List.nil_append]
      go_wp2_with fail
      refine (CO.out cz _).mono ?_
      rintro e6 w6 ⟨n1, rfl, hn1, hM6⟩
      have MC6 := Lib.hid (AC.out.drew.trans hM6)
      have RB6 := Lib.hid (MC6.out.blk RR.out (by simp))
      have HM6 := Lib.hid hM6
      obtain ⟨T, hT⟩ : ∃ T, t + g = T := ⟨_, rfl⟩
      have hTi : (t : Int) + (g : Int) = (T : Int) := by omega
      have hlim2 : c.r.limit ≤ 32 := by rw [HCR.out]; exact HLIM.out
      have hst : c.step = 2 * c.r.limit.toNat + 1 := rfl
      have hkb : 65 * k ≤ 10000 := by omega
      have hsT : s.ring.now ≤ T := by have := HK.out.time; omega
      have CK := Lib.hid (fun W (hL : LimAt W B c s) => check_any hL HK.out.inv HC.out (by omega) hsT 0 key (by omega) (n1 : Int))
      have KC0 := HK.out.check HC.out hlim2 (by omega) HF.out hg 0 hk64 hn1
      rw [hT] at KC0
      have KC := Lib.hid KC0
      rw [hTi]
      clear hM6 x0 x1 x2 x3 rb0 rb1 rb2 rb3 rb4 rb5 rb6 rb7 rb8 KC0 hst hkb hsT hT hTi hlim2 hti
      go_wp2_with fail
      refine ⟨HM6.out, ?_⟩
      go_wp2_with fail
      refine (CK.out _ (LR.out.mod0 MC6.out)).mono ?_
      rintro e7 w7 ⟨v7, rfl, hO7, hL7, hM7⟩
      have L7 := Lib.hid hL7
      have RB7 := Lib.hid (hM7.blk RB6.out BL.out.2)
      have M7 := Lib.hid ((MR.out.trans MC6.out).trans' hM7 (fun b hb => .inr (by have := BL.out.1 b hb; omega)))
      clear hO7 hL7 hM7
      go_wp2_with fail
      refine ⟨by kernel_rfl, ⟨⟨by simp, ISC.out⟩, trivial⟩, ?_⟩
      go_wp2_with fail
      go_roundw
      case rel => exact ⟨k + 1, T, (check c s (T : Int) 0 key (n1 : Int)).2.2, by omega, by go_num, rfl, L7.out, KC.out, RB7.out, M7.out⟩
      case measure => simp [intOf]; omega
    · obtain rfl : k = n := by omega
      have dk : decide ((k : Int) < (k : Int)) = false := by simp
      clear hLr hKr hRr hM
      obtain ⟨hqe1, hqe2, hqi0, hqi1⟩ := HQ.out
      have rb2 := RR.out.cell (i := 2) rfl
      have hl0 : ¬ r2 = 0 := by omega
      have hl1 : ¬ r2 = -1 := by omega
      have hr32 : r2 ≤ 32 := by have h1 := HRO.out.burst; have h2 := HLIM.out; simp only at h1 h2; omega
      have RS := Lib.hid (resident_any LR.out [97] (by decide))
      have hb2 : c.r.burst = r2 := by rw [HCR.out]
      have htb : t ≤ 1000000 := by have := HK.out.time; omega
      have hrf : ∀ u : Nat, u < 4611686018427387904 → refuse c.r (u : Int) 0 (q9 + 1) = none := fun u hu => by
        unfold refuse
        rw [if_neg (by omega), if_neg (by omega), if_neg (by omega)]
      cases hp : placeOf s.pool.S [97] with
      | none =>
        have hv : resV s [97] = .tuple #[Cell.zero.val, .bool false] := by unfold resV; rw [hp]
        rw [hv] at RS
        clear hv hp hrf hb2
        go_wp2_with fail
        refine RS.out.mono ?_
        rintro e5 w5 ⟨rfl, hM5⟩
        have M5 := Lib.hid (MR.out.trans hM5)
        clear hM5
        simp only [Cell.val, Cell.zero]
        go_wp2_with fail
        go_ret
        exact ⟨rfl, M5.out.alloc _⟩
      | some i0 =>
        have hv : resV s [97] = .tuple #[(s.pool.C.getD i0 .zero).val, .bool true] := by unfold resV; rw [hp]
        rw [hv] at RS
        have hWs := waits HK.out.inv HC.out (i := i0) HK.out.time.1 htb (cost := q9 + 1) (by omega)
        obtain ⟨W, hW⟩ := hWs
        have PE0 := peek_cell hp (hrf t (by omega))
        have hnow := hW.now
        have hmost := hW.most
        have hroom := hW.room
        have hlater := hW.later
        have hroomL := hW.roomL
        rw [hnow] at PE0
        obtain ⟨rm, hrm⟩ : ∃ rm, (s.pool.C.getD i0 .zero).room c.r.pace t = rm := ⟨_, rfl⟩
        rw [hrm] at PE0 hroom
        have PK0 := fun W' (hL : LimAt W' B c s) => peek_any hL HK.out.inv HC.out HK.out.time.1 0 [97] (by decide) (q9 + 1)
        rw [PE0] at PK0
        simp only at PK0
        have KI := HK.out.inv
        obtain ⟨j1, j2⟩ := KI.to (now := t) HK.out.time.1 (by omega)
        have PCK := peek_check j1 HC.out (now := t) (by omega) (held := 0) (key := [97]) (cost := q9 + 1) (i := i0) hp
        have PEs := peek_cell (s := s.to (t : Int)) hp (hrf t (by omega))
        rw [show (s.to (t : Int)).pool = s.pool from rfl, hnow] at PEs
        have hst : c.step = 2 * c.r.limit.toNat + 1 := rfl
        have hlim2 : c.r.limit ≤ 32 := by rw [HCR.out]; exact HLIM.out
        have hkb : 65 * k ≤ 10000 := by omega
        have HBIG : 65 * k + c.step ≤ 4194304 := by omega
        by_cases hW0 : W = 0
        · subst hW0
          have hle : q9 + 1 ≤ rm := hroom.1 rfl
          have CK0 := fun W' (hL : LimAt W' B c (s.to (t : Int))) => check_any hL j1 HC.out HBIG (now := t) (by omega) 0 [97] (by decide) (q9 + 1)
          rw [PEs] at PCK
          simp only at PCK PK0
          rcases hck : check c (s.to (t : Int)) (t : Int) 0 [97] (q9 + 1) with ⟨⟨av, ar, at_⟩, ev, s2⟩
          rw [hck] at PCK CK0
          simp only at PCK
          obtain ⟨hav, _, _⟩ := PCK
          have hav1 : av = 1 := by simpa using hav
          subst hav1
          have PK := Lib.hid (PK0 : ∀ W', LimAt W' B c s → Calls Try.prog 25 #[.pointer (some ⟨B.p, 0, none⟩), .int .i64 (t : Int), .int .i64 0, .string ⟨#[97]⟩, .int .i64 (q9 + 1)] W' (PeekPost B c ⟨1, rm, 0⟩ (s.to (t : Int)) W'))
          have CK := Lib.hid CK0
          have dle : decide (q9 + 1 ≤ rm) = true := decide_eq_true hle
          generalize s.pool.C.getD i0 .zero = xc at *
          obtain ⟨xc0, xc1, xc2, xc3⟩ := xc
          clear hv hp hrf hb2 hW PE0 hnow hmost hroom hlater hroomL hrm PK0 KI j1 j2 PEs hst hlim2 hkb HBIG hle CK0 hck hav
          go_wp2_with fail
          refine RS.out.mono ?_
          rintro e5 w5 ⟨rfl, hM5⟩
          have L5 := Lib.hid (LR.out.mod0 hM5)
          have M5 := Lib.hid (MR.out.trans hM5)
          clear hM5 rb2
          simp only [Cell.val]
          go_wp2_with fail
          refine (PK.out _ (L5.out.mod0 ((Mod.refl [] w5).alloc _))).mono ?_
          rintro e6 w6 ⟨rfl, hL6, hM6⟩
          have L6 := Lib.hid hL6
          have M6 := Lib.hid ((M5.out.alloc _).trans' hM6 (fun b hb => .inr (by have := BL.out.1 b hb; omega)))
          have XB6 := Lib.hid (Blk.new w6 [.int .i64 1, .int .i64 rm, .int .i64 0] 39)
          have NXB := Lib.hid (show w6.heap.size ∉ B.all from fun hb => by have := hL6.lt _ hb; omega)
          clear hL6 hM6
          simp only [Ans.val]
          go_wp2_with fail
          refine (CK.out _ (L6.out.mod0 ((Mod.refl [] w6).alloc _))).mono ?_
          rintro e7 w7 ⟨v7, rfl, hO7, hL7, hM7⟩
          obtain ⟨a7, c7, rfl⟩ := hO7.slice
          have XB7 := Lib.hid (hM7.blk XB6.out NXB.out)
          have M7 := Lib.hid ((M6.out.alloc _).trans' hM7 (fun b hb => .inr (by have := BL.out.1 b hb; omega)))
          have xb0 := XB7.out.cell (i := 0) rfl
          have xb1 := XB7.out.cell (i := 1) rfl
          have xb2 := XB7.out.cell (i := 2) rfl
          have ltx : w6.heap.size < w7.heap.size := XB7.out.lt
          have ltx' : ¬ w6.heap.size = w7.heap.size := by omega
          clear hO7 hL7 hM7
          simp only [Ans.val]
          go_wp2_with fail
          go_ret
          exact ⟨rfl, M7.out.alloc _⟩
        · have hgt : rm < q9 + 1 := by
            rcases Int.lt_or_le rm (q9 + 1) with h | h
            · exact h
            · exact absurd (hroom.2 h) hW0
          obtain ⟨V, rfl⟩ : ∃ V, W = V + 1 := ⟨W - 1, by omega⟩
          rw [if_pos (by omega)] at PK0
          have PK := Lib.hid PK0
          have w1 : (s.pool.C.getD i0 .zero).wait c.r.pace ((t + V : Nat) : Int) (q9 + 1) = 1 := by rw [hlater V (by omega)]; omega
          have w2 : (s.pool.C.getD i0 .zero).wait c.r.pace ((t + (V + 1) : Nat) : Int) (q9 + 1) = 0 := by rw [hlater (V + 1) (by omega)]; omega
          have PE1 := peek_cell (c := c) (s := s.to (t : Int)) hp (hrf (t + V) (by omega))
          rw [show (s.to (t : Int)).pool = s.pool from rfl, w1, lm_to_to s (show t ≤ t + V by omega), if_pos (by omega)] at PE1
          have PE2 := peek_cell (c := c) (s := s.to ((t + V : Nat) : Int)) hp (hrf (t + (V + 1)) (by omega))
          rw [show (s.to ((t + V : Nat) : Int)).pool = s.pool from rfl, w2, if_neg (by omega)] at PE2
          have E10 := fun W' (hL : LimAt W' B c (s.to (t : Int))) => peek_any hL j1 HC.out (now := t + V) (by omega) 0 [97] (by decide) (q9 + 1)
          rw [PE1] at E10
          obtain ⟨i1, i2⟩ := KI.to (now := t + V) (by have := HK.out.time; omega) (by omega)
          have E20 := fun W' (hL : LimAt W' B c (s.to ((t + V : Nat) : Int))) => peek_any hL i1 HC.out (now := t + (V + 1)) (by omega) 0 [97] (by decide) (q9 + 1)
          rw [PE2] at E20
          simp only at E10 E20
          obtain ⟨er, her⟩ : ∃ er, (s.pool.C.getD i0 .zero).room c.r.pace ((t + V : Nat) : Int) = er := ⟨_, rfl⟩
          obtain ⟨lr, hlr⟩ : ∃ lr, (s.pool.C.getD i0 .zero).room c.r.pace ((t + (V + 1) : Nat) : Int) = lr := ⟨_, rfl⟩
          rw [hlr] at hroomL E20
          rw [her] at E10
          rw [show ((t + V : Nat) : Int) = (t : Int) + (V : Int) by omega] at E10
          rw [show ((t + (V + 1) : Nat) : Int) = (t : Int) + ((V : Int) + 1) by omega] at E20
          have E1 := Lib.hid E10
          have E2 : Hid (∀ W', LimAt W' B c (s.to ((t + V : Nat) : Int)) → _) := Lib.hid E20
          have dl1 : decide (q9 + 1 ≤ rm) = false := decide_eq_false (by omega)
          have dl2 : decide (q9 + 1 ≤ lr) = true := decide_eq_true hroomL
          have hV : V ≤ 1125899906842624 := by omega
          have E1S : (t : Int) + (V : Int) = ((t + V : Nat) : Int) := by omega
          rw [E1S] at E1
          generalize s.pool.C.getD i0 .zero = xc at *
          obtain ⟨xc0, xc1, xc2, xc3⟩ := xc
          have e1s : (t : Int) + ((V : Int) + 1) - 1 = ((t + V : Nat) : Int) := by omega
          have HE1S := Lib.hid e1s
          clear hv hp hrf hb2 hW PE0 hnow hmost hroom hlater hroomL hrm PK0 KI j1 j2 PCK PEs hst hlim2 hkb HBIG hW0 hgt w1 w2 PE1 PE2 E10 E20 i1 i2 her hlr E1S e1s
          go_wp2_with fail
          refine RS.out.mono ?_
          rintro e5 w5 ⟨rfl, hM5⟩
          have L5 := Lib.hid (LR.out.mod0 hM5)
          have M5 := Lib.hid (MR.out.trans hM5)
          clear hM5 rb2
          simp only [Cell.val]
          go_wp2_with fail
          refine (PK.out _ (L5.out.mod0 ((Mod.refl [] w5).alloc _))).mono ?_
          rintro e6 w6 ⟨rfl, hL6, hM6⟩
          have L6 := Lib.hid (hL6.mod0 ((Mod.refl [] w6).alloc (.cells #[.int .i64 2, .int .i64 rm, .int .i64 ((V + 1 : Nat) : Int)] 39)))
          have M6 := Lib.hid (((M5.out.alloc _).trans' hM6 (fun b hb => .inr (by have := BL.out.1 b hb; omega))).alloc (.cells #[.int .i64 2, .int .i64 rm, .int .i64 ((V + 1 : Nat) : Int)] 39))
          have XB6 := Lib.hid (Blk.new w6 [.int .i64 2, .int .i64 rm, .int .i64 ((V + 1 : Nat) : Int)] 39)
          have NXB := Lib.hid (show w6.heap.size ∉ B.all from fun hb => by have := hL6.lt _ hb; omega)
          clear hL6 hM6
          simp only [Ans.val]
          rw [show ((V + 1 : Nat) : Int) = (V : Int) + 1 by omega] at L6 M6 XB6 ⊢
          go_wp2_with fail
          obtain ⟨wE, hwE⟩ : ∃ wE, w6.alloc (.cells #[.int .i64 2, .int .i64 rm, .int .i64 ((V : Int) + 1)] 39) = wE := ⟨_, rfl⟩
          have XB6' : Hid (Blk (w6.alloc (.cells #[.int .i64 2, .int .i64 rm, .int .i64 ((V : Int) + 1)] 39)) w6.heap.size 39 [.int .i64 2, .int .i64 rm, .int .i64 ((V : Int) + 1)]) := XB6
          clear XB6
          rw [hwE] at L6 M6 XB6' ⊢
          have LE := Lib.hid L6.out
          have ME := Lib.hid M6.out
          have XBE := Lib.hid XB6'.out
          have ISX := Lib.hid (isC_of_blk XBE.out.drew)
          have xe2 := XBE.out.cell (i := 2) rfl
          have ltE : w6.heap.size < wE.heap.size := XBE.out.lt
          have ltE' : ¬ w6.heap.size = wE.heap.size := by omega
          clear hwE XB6' L6 M6
          refine wp_region_sched (by kernel_rfl) fun S => ?_
          rcases before_or 15 7 S with q0 | q0
          · rcases before_or 16 15 S with q1 | q1
            · refine ⟨[(15, 7), (16, 15)], by decide, fun p hp => by simp only [List.mem_cons, List.not_mem_nil, or_false] at hp; rcases hp with rfl | rfl <;> assumption, held_perm [0, 1, 2, 3, 4, 5, 6, 8, 9, 10, 11, 12, 13, 16, 15, 7, 14, 17, 18] [16] [3, 10] B.all (by kernel_rfl) (by kernel_rfl) ?_⟩
              simp only [wpCut, edges, edge, perm, reOper, reGuard, List.getElem?_cons_succ, List.getElem?_cons_zero, List.take_succ_cons, List.take_zero, List.drop_succ_cons, List.drop_zero, List.cons_append, List.nil_append]
              go_wp2_with fail
              rw [HE1S.out]
              refine (E1.out _ (LE.out.mod0 (((Mod.refl [] wE).alloc (.cells #[.int .i64 0, .int .i64 0, .int .i64 0] 39)).alloc (.cells #[.int .i64 0, .int .i64 0, .int .i64 0] 39)).drew)).mono ?_
              rintro e20 w20 ⟨rfl, hL20, hM20⟩
              have NB16 := Lib.hid (((Blk.new wE [.int .i64 0, .int .i64 0, .int .i64 0] 39).alloc (.cells #[.int .i64 0, .int .i64 0, .int .i64 0] 39)).drew)
              have G16 := Lib.hid (hM20.blk NB16.out (fun hb => by have := LE.out.lt _ hb; omega))
              have NB15 : Hid (Blk ((wE.alloc (.cells #[.int .i64 0, .int .i64 0, .int .i64 0] 39)).alloc (.cells #[.int .i64 0, .int .i64 0, .int .i64 0] 39)).drew (wE.heap.size + 1) 39 [.int .i64 0, .int .i64 0, .int .i64 0]) := Lib.hid (by have h := ((Blk.new (wE.alloc (.cells #[.int .i64 0, .int .i64 0, .int .i64 0] 39)) [.int .i64 0, .int .i64 0, .int .i64 0] 39).drew); rw [show (wE.alloc (.cells #[.int .i64 0, .int .i64 0, .int .i64 0] 39)).heap.size = wE.heap.size + 1 by simp] at h; exact h)
              have G15 := Lib.hid (hM20.blk NB15.out (fun hb => by have := LE.out.lt _ hb; omega))
              have L20 := Lib.hid hL20
              have HM20 := Lib.hid hM20
              have M20 := Lib.hid ((ME.out.trans (((Mod.refl [] wE).alloc (.cells #[.int .i64 0, .int .i64 0, .int .i64 0] 39)).alloc (.cells #[.int .i64 0, .int .i64 0, .int .i64 0] 39)).drew).trans' hM20 (fun b hb => .inr (by have := BL.out.1 b hb; omega)))
              have XB20 := Lib.hid (hM20.blk ((((Mod.refl [] wE).alloc (.cells #[.int .i64 0, .int .i64 0, .int .i64 0] 39)).alloc (.cells #[.int .i64 0, .int .i64 0, .int .i64 0] 39)).drew.blk XBE.out (by simp)) NXB.out)
              have xb202 := XB20.out.cell (i := 2) rfl
              have Z20 := Lib.hid (show wE.heap.size ≤ w20.heap.size from Nat.le_trans (((Mod.refl [] wE).alloc (.cells #[.int .i64 0, .int .i64 0, .int .i64 0] 39)).alloc (.cells #[.int .i64 0, .int .i64 0, .int .i64 0] 39)).drew.size hM20.size)
              clear hL20 hM20
              simp only [Ans.val]
              go_wp2_with fail
              refine ⟨((((Mod.refl B.all wE.drew).alloc (.cells #[.int .i64 0, .int .i64 0, .int .i64 0] 39)).alloc (.cells #[.int .i64 0, .int .i64 0, .int .i64 0] 39)).trans HM20.out), ?_⟩
              go_wp2_with fail
              refine (E2.out _ (L20.out.mod0 (Mod.refl [] w20))).mono ?_
              rintro e21 w21 ⟨rfl, hL21, hM21⟩
              have K16 := Lib.hid (hM21.blk G16.out (fun hb => by have := LE.out.lt _ hb; omega))
              have K15 := Lib.hid (hM21.blk G15.out (fun hb => by have := LE.out.lt _ hb; omega))
              have M21 := Lib.hid ((M20.out.trans (Mod.refl [] w20)).trans' hM21 (fun b hb => .inr (by have := BL.out.1 b hb; omega)))
              have k150 := K15.out.cell (i := 0) rfl
              have k151 := K15.out.cell (i := 1) rfl
              have k152 := K15.out.cell (i := 2) rfl
              have f150 := K15.out.free 0
              have f151 := K15.out.free 1
              have f152 := K15.out.free 2
              have l15 : wE.heap.size + 1 < w21.heap.size := K15.out.lt
              have l15' : ¬ wE.heap.size + 1 = w21.heap.size := by omega
              have l15'' : ¬ wE.heap.size + 1 = w21.heap.size + 1 := by omega
              have k160 := K16.out.cell (i := 0) rfl
              have k161 := K16.out.cell (i := 1) rfl
              have k162 := K16.out.cell (i := 2) rfl
              have f160 := K16.out.free 0
              have f161 := K16.out.free 1
              have f162 := K16.out.free 2
              have l16 : wE.heap.size < w21.heap.size := K16.out.lt
              have l16' : ¬ wE.heap.size = w21.heap.size := by omega
              have l16'' : ¬ wE.heap.size = w21.heap.size + 1 := by omega
              have z20 := Z20.out
              have hne : ¬ wE.heap.size + 1 = wE.heap.size := by have := NB16.out.lt; omega
              have hne' : ¬ wE.heap.size = wE.heap.size + 1 := fun h => hne h.symm
              have HM21 := Lib.hid hM21
              clear hL21 hM21 xb202
              simp only [Ans.val]
              go_wp2_with fail
              refine ⟨by kernel_rfl, ⟨⟨NXB.out, ISX.out⟩, ⟨NXB.out, ISX.out⟩, trivial⟩, ?_⟩
              go_wp2_with fail
              go_ret
              exact ⟨rfl, (M21.out.trans' (((((((Mod.refl [wE.heap.size + 1, wE.heap.size] w21).setCell (p := ⟨wE.heap.size + 1, 0, none⟩) (.inl (by simp)) (.int .i64 2)).setCell (p := ⟨wE.heap.size + 1, 1, none⟩) (.inl (by simp)) (.int .i64 er)).setCell (p := ⟨wE.heap.size + 1, 2, none⟩) (.inl (by simp)) (.int .i64 1)).setCell (p := ⟨wE.heap.size, 0, none⟩) (.inl (by simp)) (.int .i64 1)).setCell (p := ⟨wE.heap.size, 1, none⟩) (.inl (by simp)) (.int .i64 lr)).setCell (p := ⟨wE.heap.size, 2, none⟩) (.inl (by simp)) (.int .i64 0)) (fun b hb => .inr (by simp only [List.mem_cons, List.not_mem_nil, or_false] at hb; have := ME.out.size; have := Z20.out; omega)))⟩
            · rcases before_or 16 7 S with q2 | q2
              · refine ⟨[(15, 7), (15, 16), (16, 7)], by decide, fun p hp => by simp only [List.mem_cons, List.not_mem_nil, or_false] at hp; rcases hp with rfl | rfl | rfl <;> assumption, held_perm [0, 1, 2, 3, 4, 5, 6, 8, 9, 10, 11, 12, 13, 15, 16, 7, 14, 17, 18] [16] [3, 10] B.all (by kernel_rfl) (by kernel_rfl) ?_⟩
                simp only [wpCut, edges, edge, perm, reOper, reGuard, List.getElem?_cons_succ, List.getElem?_cons_zero, List.take_succ_cons, List.take_zero, List.drop_succ_cons, List.drop_zero, List.cons_append, List.nil_append]
                go_wp2_with fail
                rw [HE1S.out]
                refine (E1.out _ (LE.out.mod0 (((Mod.refl [] wE).alloc (.cells #[.int .i64 0, .int .i64 0, .int .i64 0] 39)).alloc (.cells #[.int .i64 0, .int .i64 0, .int .i64 0] 39)).drew)).mono ?_
                rintro e20 w20 ⟨rfl, hL20, hM20⟩
                have NB15 := Lib.hid (((Blk.new wE [.int .i64 0, .int .i64 0, .int .i64 0] 39).alloc (.cells #[.int .i64 0, .int .i64 0, .int .i64 0] 39)).drew)
                have G15 := Lib.hid (hM20.blk NB15.out (fun hb => by have := LE.out.lt _ hb; omega))
                have NB16 : Hid (Blk ((wE.alloc (.cells #[.int .i64 0, .int .i64 0, .int .i64 0] 39)).alloc (.cells #[.int .i64 0, .int .i64 0, .int .i64 0] 39)).drew (wE.heap.size + 1) 39 [.int .i64 0, .int .i64 0, .int .i64 0]) := Lib.hid (by have h := ((Blk.new (wE.alloc (.cells #[.int .i64 0, .int .i64 0, .int .i64 0] 39)) [.int .i64 0, .int .i64 0, .int .i64 0] 39).drew); rw [show (wE.alloc (.cells #[.int .i64 0, .int .i64 0, .int .i64 0] 39)).heap.size = wE.heap.size + 1 by simp] at h; exact h)
                have G16 := Lib.hid (hM20.blk NB16.out (fun hb => by have := LE.out.lt _ hb; omega))
                have L20 := Lib.hid hL20
                have HM20 := Lib.hid hM20
                have M20 := Lib.hid ((ME.out.trans (((Mod.refl [] wE).alloc (.cells #[.int .i64 0, .int .i64 0, .int .i64 0] 39)).alloc (.cells #[.int .i64 0, .int .i64 0, .int .i64 0] 39)).drew).trans' hM20 (fun b hb => .inr (by have := BL.out.1 b hb; omega)))
                have XB20 := Lib.hid (hM20.blk ((((Mod.refl [] wE).alloc (.cells #[.int .i64 0, .int .i64 0, .int .i64 0] 39)).alloc (.cells #[.int .i64 0, .int .i64 0, .int .i64 0] 39)).drew.blk XBE.out (by simp)) NXB.out)
                have xb202 := XB20.out.cell (i := 2) rfl
                have Z20 := Lib.hid (show wE.heap.size ≤ w20.heap.size from Nat.le_trans (((Mod.refl [] wE).alloc (.cells #[.int .i64 0, .int .i64 0, .int .i64 0] 39)).alloc (.cells #[.int .i64 0, .int .i64 0, .int .i64 0] 39)).drew.size hM20.size)
                clear hL20 hM20
                simp only [Ans.val]
                go_wp2_with fail
                refine ⟨((((Mod.refl B.all wE.drew).alloc (.cells #[.int .i64 0, .int .i64 0, .int .i64 0] 39)).alloc (.cells #[.int .i64 0, .int .i64 0, .int .i64 0] 39)).trans HM20.out), ?_⟩
                go_wp2_with fail
                refine (E2.out _ (L20.out.mod0 (Mod.refl [] w20))).mono ?_
                rintro e21 w21 ⟨rfl, hL21, hM21⟩
                have K15 := Lib.hid (hM21.blk G15.out (fun hb => by have := LE.out.lt _ hb; omega))
                have K16 := Lib.hid (hM21.blk G16.out (fun hb => by have := LE.out.lt _ hb; omega))
                have M21 := Lib.hid ((M20.out.trans (Mod.refl [] w20)).trans' hM21 (fun b hb => .inr (by have := BL.out.1 b hb; omega)))
                have k150 := K15.out.cell (i := 0) rfl
                have k151 := K15.out.cell (i := 1) rfl
                have k152 := K15.out.cell (i := 2) rfl
                have f150 := K15.out.free 0
                have f151 := K15.out.free 1
                have f152 := K15.out.free 2
                have l15 : wE.heap.size < w21.heap.size := K15.out.lt
                have l15' : ¬ wE.heap.size = w21.heap.size := by omega
                have l15'' : ¬ wE.heap.size = w21.heap.size + 1 := by omega
                have k160 := K16.out.cell (i := 0) rfl
                have k161 := K16.out.cell (i := 1) rfl
                have k162 := K16.out.cell (i := 2) rfl
                have f160 := K16.out.free 0
                have f161 := K16.out.free 1
                have f162 := K16.out.free 2
                have l16 : wE.heap.size + 1 < w21.heap.size := K16.out.lt
                have l16' : ¬ wE.heap.size + 1 = w21.heap.size := by omega
                have l16'' : ¬ wE.heap.size + 1 = w21.heap.size + 1 := by omega
                have z20 := Z20.out
                have hne : ¬ wE.heap.size = wE.heap.size + 1 := by have := NB16.out.lt; omega
                have hne' : ¬ wE.heap.size + 1 = wE.heap.size := fun h => hne h.symm
                have HM21 := Lib.hid hM21
                clear hL21 hM21 xb202
                simp only [Ans.val]
                go_wp2_with fail
                refine ⟨by kernel_rfl, ⟨⟨NXB.out, ISX.out⟩, ⟨NXB.out, ISX.out⟩, trivial⟩, ?_⟩
                go_wp2_with fail
                go_ret
                exact ⟨rfl, (M21.out.trans' (((((((Mod.refl [wE.heap.size, wE.heap.size + 1] w21).setCell (p := ⟨wE.heap.size, 0, none⟩) (.inl (by simp)) (.int .i64 2)).setCell (p := ⟨wE.heap.size, 1, none⟩) (.inl (by simp)) (.int .i64 er)).setCell (p := ⟨wE.heap.size, 2, none⟩) (.inl (by simp)) (.int .i64 1)).setCell (p := ⟨wE.heap.size + 1, 0, none⟩) (.inl (by simp)) (.int .i64 1)).setCell (p := ⟨wE.heap.size + 1, 1, none⟩) (.inl (by simp)) (.int .i64 lr)).setCell (p := ⟨wE.heap.size + 1, 2, none⟩) (.inl (by simp)) (.int .i64 0)) (fun b hb => .inr (by simp only [List.mem_cons, List.not_mem_nil, or_false] at hb; have := ME.out.size; have := Z20.out; omega)))⟩
              · rcases before_or 16 14 S with q3 | q3
                · refine ⟨[(15, 7), (7, 16), (16, 14)], by decide, fun p hp => by simp only [List.mem_cons, List.not_mem_nil, or_false] at hp; rcases hp with rfl | rfl | rfl <;> assumption, held_perm [0, 1, 2, 3, 4, 5, 6, 8, 9, 10, 11, 12, 13, 15, 7, 16, 14, 17, 18] [15] [3, 10] B.all (by kernel_rfl) (by kernel_rfl) ?_⟩
                  simp only [wpCut, edges, edge, perm, reOper, reGuard, List.getElem?_cons_succ, List.getElem?_cons_zero, List.take_succ_cons, List.take_zero, List.drop_succ_cons, List.drop_zero, List.cons_append, List.nil_append]
                  go_wp2_with fail
                  rw [HE1S.out]
                  refine (E1.out _ (LE.out.mod0 ((Mod.refl [] wE).alloc (.cells #[.int .i64 0, .int .i64 0, .int .i64 0] 39)).drew)).mono ?_
                  rintro e20 w20 ⟨rfl, hL20, hM20⟩
                  have NB15 := Lib.hid ((Blk.new wE [.int .i64 0, .int .i64 0, .int .i64 0] 39).drew)
                  have G15 := Lib.hid (hM20.blk NB15.out (fun hb => by have := LE.out.lt _ hb; omega))
                  have L20 := Lib.hid hL20
                  have HM20 := Lib.hid hM20
                  have M20 := Lib.hid ((ME.out.trans ((Mod.refl [] wE).alloc (.cells #[.int .i64 0, .int .i64 0, .int .i64 0] 39)).drew).trans' hM20 (fun b hb => .inr (by have := BL.out.1 b hb; omega)))
                  have XB20 := Lib.hid (hM20.blk (((Mod.refl [] wE).alloc (.cells #[.int .i64 0, .int .i64 0, .int .i64 0] 39)).drew.blk XBE.out (by simp)) NXB.out)
                  have xb202 := XB20.out.cell (i := 2) rfl
                  have Z20 := Lib.hid (show wE.heap.size ≤ w20.heap.size from Nat.le_trans ((Mod.refl [] wE).alloc (.cells #[.int .i64 0, .int .i64 0, .int .i64 0] 39)).drew.size hM20.size)
                  clear hL20 hM20
                  simp only [Ans.val]
                  go_wp2_with fail
                  refine ⟨(((Mod.refl B.all wE.drew).alloc (.cells #[.int .i64 0, .int .i64 0, .int .i64 0] 39)).trans HM20.out), ?_⟩
                  go_wp2_with fail
                  refine (E2.out _ (L20.out.mod0 ((Mod.refl [] w20).alloc (.cells #[.int .i64 0, .int .i64 0, .int .i64 0] 39)))).mono ?_
                  rintro e21 w21 ⟨rfl, hL21, hM21⟩
                  have K15 := Lib.hid (hM21.blk (G15.out.alloc (.cells #[.int .i64 0, .int .i64 0, .int .i64 0] 39)) (fun hb => by have := LE.out.lt _ hb; omega))
                  have NB16 := Lib.hid (Blk.new w20 [.int .i64 0, .int .i64 0, .int .i64 0] 39)
                  have K16 := Lib.hid (hM21.blk NB16.out (fun hb => by have := LE.out.lt _ hb; have := Z20.out; omega))
                  have M21 := Lib.hid ((M20.out.trans ((Mod.refl [] w20).alloc (.cells #[.int .i64 0, .int .i64 0, .int .i64 0] 39))).trans' hM21 (fun b hb => .inr (by have := BL.out.1 b hb; omega)))
                  have k150 := K15.out.cell (i := 0) rfl
                  have k151 := K15.out.cell (i := 1) rfl
                  have k152 := K15.out.cell (i := 2) rfl
                  have f150 := K15.out.free 0
                  have f151 := K15.out.free 1
                  have f152 := K15.out.free 2
                  have l15 : wE.heap.size < w21.heap.size := K15.out.lt
                  have l15' : ¬ wE.heap.size = w21.heap.size := by omega
                  have l15'' : ¬ wE.heap.size = w21.heap.size + 1 := by omega
                  have k160 := K16.out.cell (i := 0) rfl
                  have k161 := K16.out.cell (i := 1) rfl
                  have k162 := K16.out.cell (i := 2) rfl
                  have f160 := K16.out.free 0
                  have f161 := K16.out.free 1
                  have f162 := K16.out.free 2
                  have l16 : w20.heap.size < w21.heap.size := K16.out.lt
                  have l16' : ¬ w20.heap.size = w21.heap.size := by omega
                  have l16'' : ¬ w20.heap.size = w21.heap.size + 1 := by omega
                  have z20 := Z20.out
                  have hne : ¬ wE.heap.size = w20.heap.size := by have := NB16.out.lt; have h0 := G15.out.lt; omega
                  have hne' : ¬ w20.heap.size = wE.heap.size := fun h => hne h.symm
                  have HM21 := Lib.hid hM21
                  clear hL21 hM21 xb202
                  simp only [Ans.val]
                  go_wp2_with fail
                  refine ⟨by kernel_rfl, ⟨⟨NXB.out, ISX.out⟩, ⟨NXB.out, ISX.out⟩, trivial⟩, ?_⟩
                  go_wp2_with fail
                  go_ret
                  exact ⟨rfl, (M21.out.trans' (((((((Mod.refl [wE.heap.size, w20.heap.size] w21).setCell (p := ⟨wE.heap.size, 0, none⟩) (.inl (by simp)) (.int .i64 2)).setCell (p := ⟨wE.heap.size, 1, none⟩) (.inl (by simp)) (.int .i64 er)).setCell (p := ⟨wE.heap.size, 2, none⟩) (.inl (by simp)) (.int .i64 1)).setCell (p := ⟨w20.heap.size, 0, none⟩) (.inl (by simp)) (.int .i64 1)).setCell (p := ⟨w20.heap.size, 1, none⟩) (.inl (by simp)) (.int .i64 lr)).setCell (p := ⟨w20.heap.size, 2, none⟩) (.inl (by simp)) (.int .i64 0)) (fun b hb => .inr (by simp only [List.mem_cons, List.not_mem_nil, or_false] at hb; have := ME.out.size; have := Z20.out; omega)))⟩
                · refine ⟨[(15, 7), (14, 16)], by decide, fun p hp => by simp only [List.mem_cons, List.not_mem_nil, or_false] at hp; rcases hp with rfl | rfl <;> assumption, held_perm [0, 1, 2, 3, 4, 5, 6, 8, 9, 10, 11, 12, 13, 15, 7, 14, 16, 17, 18] [15, 1] [3, 10] B.all (by kernel_rfl) (by kernel_rfl) ?_⟩
                  simp only [wpCut, edges, edge, perm, reOper, reGuard, List.getElem?_cons_succ, List.getElem?_cons_zero, List.take_succ_cons, List.take_zero, List.drop_succ_cons, List.drop_zero, List.cons_append, List.nil_append]
                  go_wp2_with fail
                  rw [HE1S.out]
                  refine (E1.out _ (LE.out.mod0 ((Mod.refl [] wE).alloc (.cells #[.int .i64 0, .int .i64 0, .int .i64 0] 39)).drew)).mono ?_
                  rintro e20 w20 ⟨rfl, hL20, hM20⟩
                  have NB15 := Lib.hid ((Blk.new wE [.int .i64 0, .int .i64 0, .int .i64 0] 39).drew)
                  have G15 := Lib.hid (hM20.blk NB15.out (fun hb => by have := LE.out.lt _ hb; omega))
                  have L20 := Lib.hid hL20
                  have HM20 := Lib.hid hM20
                  have M20 := Lib.hid ((ME.out.trans ((Mod.refl [] wE).alloc (.cells #[.int .i64 0, .int .i64 0, .int .i64 0] 39)).drew).trans' hM20 (fun b hb => .inr (by have := BL.out.1 b hb; omega)))
                  have XB20 := Lib.hid (hM20.blk (((Mod.refl [] wE).alloc (.cells #[.int .i64 0, .int .i64 0, .int .i64 0] 39)).drew.blk XBE.out (by simp)) NXB.out)
                  have xb202 := XB20.out.cell (i := 2) rfl
                  have Z20 := Lib.hid (show wE.heap.size ≤ w20.heap.size from Nat.le_trans ((Mod.refl [] wE).alloc (.cells #[.int .i64 0, .int .i64 0, .int .i64 0] 39)).drew.size hM20.size)
                  clear hL20 hM20
                  simp only [Ans.val]
                  go_wp2_with fail
                  refine ⟨(((Mod.refl B.all wE.drew).alloc (.cells #[.int .i64 0, .int .i64 0, .int .i64 0] 39)).trans HM20.out), ?_⟩
                  go_wp2_with fail
                  refine (E2.out _ (L20.out.mod0 (Mod.refl [] w20))).mono ?_
                  rintro e21 w21 ⟨rfl, hL21, hM21⟩
                  have K15 := Lib.hid (hM21.blk G15.out (fun hb => by have := LE.out.lt _ hb; omega))
                  have M21 := Lib.hid ((M20.out.trans (Mod.refl [] w20)).trans' hM21 (fun b hb => .inr (by have := BL.out.1 b hb; omega)))
                  have k150 := K15.out.cell (i := 0) rfl
                  have k151 := K15.out.cell (i := 1) rfl
                  have k152 := K15.out.cell (i := 2) rfl
                  have f150 := K15.out.free 0
                  have f151 := K15.out.free 1
                  have f152 := K15.out.free 2
                  have l15 : wE.heap.size < w21.heap.size := K15.out.lt
                  have l15' : ¬ wE.heap.size = w21.heap.size := by omega
                  have l15'' : ¬ wE.heap.size = w21.heap.size + 1 := by omega
                  have HM21 := Lib.hid hM21
                  clear hL21 hM21 xb202
                  simp only [Ans.val]
                  go_wp2_with fail
                  refine ⟨((((Mod.refl B.all wE.drew).alloc (.cells #[.int .i64 0, .int .i64 0, .int .i64 0] 39)).trans HM20.out).trans HM21.out), ?_⟩
                  go_wp2_with fail
                  refine ⟨by kernel_rfl, ⟨⟨NXB.out, ISX.out⟩, ⟨NXB.out, ISX.out⟩, trivial⟩, ?_⟩
                  go_wp2_with fail
                  go_ret
                  exact ⟨rfl, ((M21.out.trans' ((((Mod.refl [wE.heap.size] w21).setCell (p := ⟨wE.heap.size, 0, none⟩) (.inl (by simp)) (.int .i64 2)).setCell (p := ⟨wE.heap.size, 1, none⟩) (.inl (by simp)) (.int .i64 er)).setCell (p := ⟨wE.heap.size, 2, none⟩) (.inl (by simp)) (.int .i64 1)) (fun b hb => .inr (by simp only [List.mem_cons, List.not_mem_nil, or_false] at hb; have := ME.out.size; have := Z20.out; omega))).alloc _)⟩
          · rcases before_or 15 14 S with q1 | q1
            · rcases before_or 16 7 S with q2 | q2
              · refine ⟨[(7, 15), (15, 14), (16, 7)], by decide, fun p hp => by simp only [List.mem_cons, List.not_mem_nil, or_false] at hp; rcases hp with rfl | rfl | rfl <;> assumption, held_perm [0, 1, 2, 3, 4, 5, 6, 8, 9, 10, 11, 12, 13, 16, 7, 15, 14, 17, 18] [15] [3, 10] B.all (by kernel_rfl) (by kernel_rfl) ?_⟩
                simp only [wpCut, edges, edge, perm, reOper, reGuard, List.getElem?_cons_succ, List.getElem?_cons_zero, List.take_succ_cons, List.take_zero, List.drop_succ_cons, List.drop_zero, List.cons_append, List.nil_append]
                go_wp2_with fail
                rw [HE1S.out]
                refine (E1.out _ (LE.out.mod0 ((Mod.refl [] wE).alloc (.cells #[.int .i64 0, .int .i64 0, .int .i64 0] 39)).drew)).mono ?_
                rintro e20 w20 ⟨rfl, hL20, hM20⟩
                have NB16 := Lib.hid ((Blk.new wE [.int .i64 0, .int .i64 0, .int .i64 0] 39).drew)
                have G16 := Lib.hid (hM20.blk NB16.out (fun hb => by have := LE.out.lt _ hb; omega))
                have L20 := Lib.hid hL20
                have HM20 := Lib.hid hM20
                have M20 := Lib.hid ((ME.out.trans ((Mod.refl [] wE).alloc (.cells #[.int .i64 0, .int .i64 0, .int .i64 0] 39)).drew).trans' hM20 (fun b hb => .inr (by have := BL.out.1 b hb; omega)))
                have XB20 := Lib.hid (hM20.blk (((Mod.refl [] wE).alloc (.cells #[.int .i64 0, .int .i64 0, .int .i64 0] 39)).drew.blk XBE.out (by simp)) NXB.out)
                have xb202 := XB20.out.cell (i := 2) rfl
                have Z20 := Lib.hid (show wE.heap.size ≤ w20.heap.size from Nat.le_trans ((Mod.refl [] wE).alloc (.cells #[.int .i64 0, .int .i64 0, .int .i64 0] 39)).drew.size hM20.size)
                clear hL20 hM20
                simp only [Ans.val]
                go_wp2_with fail
                refine ⟨(((Mod.refl B.all wE.drew).alloc (.cells #[.int .i64 0, .int .i64 0, .int .i64 0] 39)).trans HM20.out), ?_⟩
                go_wp2_with fail
                refine (E2.out _ (L20.out.mod0 ((Mod.refl [] w20).alloc (.cells #[.int .i64 0, .int .i64 0, .int .i64 0] 39)))).mono ?_
                rintro e21 w21 ⟨rfl, hL21, hM21⟩
                have K16 := Lib.hid (hM21.blk (G16.out.alloc (.cells #[.int .i64 0, .int .i64 0, .int .i64 0] 39)) (fun hb => by have := LE.out.lt _ hb; omega))
                have NB15 := Lib.hid (Blk.new w20 [.int .i64 0, .int .i64 0, .int .i64 0] 39)
                have K15 := Lib.hid (hM21.blk NB15.out (fun hb => by have := LE.out.lt _ hb; have := Z20.out; omega))
                have M21 := Lib.hid ((M20.out.trans ((Mod.refl [] w20).alloc (.cells #[.int .i64 0, .int .i64 0, .int .i64 0] 39))).trans' hM21 (fun b hb => .inr (by have := BL.out.1 b hb; omega)))
                have k150 := K15.out.cell (i := 0) rfl
                have k151 := K15.out.cell (i := 1) rfl
                have k152 := K15.out.cell (i := 2) rfl
                have f150 := K15.out.free 0
                have f151 := K15.out.free 1
                have f152 := K15.out.free 2
                have l15 : w20.heap.size < w21.heap.size := K15.out.lt
                have l15' : ¬ w20.heap.size = w21.heap.size := by omega
                have l15'' : ¬ w20.heap.size = w21.heap.size + 1 := by omega
                have k160 := K16.out.cell (i := 0) rfl
                have k161 := K16.out.cell (i := 1) rfl
                have k162 := K16.out.cell (i := 2) rfl
                have f160 := K16.out.free 0
                have f161 := K16.out.free 1
                have f162 := K16.out.free 2
                have l16 : wE.heap.size < w21.heap.size := K16.out.lt
                have l16' : ¬ wE.heap.size = w21.heap.size := by omega
                have l16'' : ¬ wE.heap.size = w21.heap.size + 1 := by omega
                have z20 := Z20.out
                have hne : ¬ w20.heap.size = wE.heap.size := by have := NB16.out.lt; have h0 := G16.out.lt; omega
                have hne' : ¬ wE.heap.size = w20.heap.size := fun h => hne h.symm
                have HM21 := Lib.hid hM21
                clear hL21 hM21 xb202
                simp only [Ans.val]
                go_wp2_with fail
                refine ⟨by kernel_rfl, ⟨⟨NXB.out, ISX.out⟩, ⟨NXB.out, ISX.out⟩, trivial⟩, ?_⟩
                go_wp2_with fail
                go_ret
                exact ⟨rfl, (M21.out.trans' (((((((Mod.refl [w20.heap.size, wE.heap.size] w21).setCell (p := ⟨w20.heap.size, 0, none⟩) (.inl (by simp)) (.int .i64 2)).setCell (p := ⟨w20.heap.size, 1, none⟩) (.inl (by simp)) (.int .i64 er)).setCell (p := ⟨w20.heap.size, 2, none⟩) (.inl (by simp)) (.int .i64 1)).setCell (p := ⟨wE.heap.size, 0, none⟩) (.inl (by simp)) (.int .i64 1)).setCell (p := ⟨wE.heap.size, 1, none⟩) (.inl (by simp)) (.int .i64 lr)).setCell (p := ⟨wE.heap.size, 2, none⟩) (.inl (by simp)) (.int .i64 0)) (fun b hb => .inr (by simp only [List.mem_cons, List.not_mem_nil, or_false] at hb; have := ME.out.size; have := Z20.out; omega)))⟩
              · rcases before_or 16 15 S with q3 | q3
                · refine ⟨[(7, 15), (15, 14), (7, 16), (16, 15)], by decide, fun p hp => by simp only [List.mem_cons, List.not_mem_nil, or_false] at hp; rcases hp with rfl | rfl | rfl | rfl <;> assumption, held_perm [0, 1, 2, 3, 4, 5, 6, 8, 9, 10, 11, 12, 13, 7, 16, 15, 14, 17, 18] [14] [10] B.all (by kernel_rfl) (by kernel_rfl) ?_⟩
                  simp only [wpCut, edges, edge, perm, reOper, reGuard, List.getElem?_cons_succ, List.getElem?_cons_zero, List.take_succ_cons, List.take_zero, List.drop_succ_cons, List.drop_zero, List.cons_append, List.nil_append]
                  go_wp2_with fail
                  rw [HE1S.out]
                  refine (E1.out _ (LE.out.mod0 (Mod.refl [] wE).drew)).mono ?_
                  rintro e20 w20 ⟨rfl, hL20, hM20⟩
                  have L20 := Lib.hid hL20
                  have HM20 := Lib.hid hM20
                  have M20 := Lib.hid ((ME.out.trans (Mod.refl [] wE).drew).trans' hM20 (fun b hb => .inr (by have := BL.out.1 b hb; omega)))
                  have XB20 := Lib.hid (hM20.blk ((Mod.refl [] wE).drew.blk XBE.out (by simp)) NXB.out)
                  have xb202 := XB20.out.cell (i := 2) rfl
                  have Z20 := Lib.hid (show wE.heap.size ≤ w20.heap.size from Nat.le_trans (Mod.refl [] wE).drew.size hM20.size)
                  clear hL20 hM20
                  simp only [Ans.val]
                  go_wp2_with fail
                  refine ⟨((Mod.refl B.all wE.drew).trans HM20.out), ?_⟩
                  go_wp2_with fail
                  refine (E2.out _ (L20.out.mod0 (((Mod.refl [] w20).alloc (.cells #[.int .i64 0, .int .i64 0, .int .i64 0] 39)).alloc (.cells #[.int .i64 0, .int .i64 0, .int .i64 0] 39)))).mono ?_
                  rintro e21 w21 ⟨rfl, hL21, hM21⟩
                  have NB16 := Lib.hid ((Blk.new w20 [.int .i64 0, .int .i64 0, .int .i64 0] 39).alloc (.cells #[.int .i64 0, .int .i64 0, .int .i64 0] 39))
                  have K16 := Lib.hid (hM21.blk NB16.out (fun hb => by have := LE.out.lt _ hb; have := Z20.out; omega))
                  have NB15 : Hid (Blk ((w20.alloc (.cells #[.int .i64 0, .int .i64 0, .int .i64 0] 39)).alloc (.cells #[.int .i64 0, .int .i64 0, .int .i64 0] 39)) (w20.heap.size + 1) 39 [.int .i64 0, .int .i64 0, .int .i64 0]) := Lib.hid (by have h := (Blk.new (w20.alloc (.cells #[.int .i64 0, .int .i64 0, .int .i64 0] 39)) [.int .i64 0, .int .i64 0, .int .i64 0] 39); rw [show (w20.alloc (.cells #[.int .i64 0, .int .i64 0, .int .i64 0] 39)).heap.size = w20.heap.size + 1 by simp] at h; exact h)
                  have K15 := Lib.hid (hM21.blk NB15.out (fun hb => by have := LE.out.lt _ hb; have := Z20.out; omega))
                  have M21 := Lib.hid ((M20.out.trans (((Mod.refl [] w20).alloc (.cells #[.int .i64 0, .int .i64 0, .int .i64 0] 39)).alloc (.cells #[.int .i64 0, .int .i64 0, .int .i64 0] 39))).trans' hM21 (fun b hb => .inr (by have := BL.out.1 b hb; omega)))
                  have k150 := K15.out.cell (i := 0) rfl
                  have k151 := K15.out.cell (i := 1) rfl
                  have k152 := K15.out.cell (i := 2) rfl
                  have f150 := K15.out.free 0
                  have f151 := K15.out.free 1
                  have f152 := K15.out.free 2
                  have l15 : w20.heap.size + 1 < w21.heap.size := K15.out.lt
                  have l15' : ¬ w20.heap.size + 1 = w21.heap.size := by omega
                  have l15'' : ¬ w20.heap.size + 1 = w21.heap.size + 1 := by omega
                  have k160 := K16.out.cell (i := 0) rfl
                  have k161 := K16.out.cell (i := 1) rfl
                  have k162 := K16.out.cell (i := 2) rfl
                  have f160 := K16.out.free 0
                  have f161 := K16.out.free 1
                  have f162 := K16.out.free 2
                  have l16 : w20.heap.size < w21.heap.size := K16.out.lt
                  have l16' : ¬ w20.heap.size = w21.heap.size := by omega
                  have l16'' : ¬ w20.heap.size = w21.heap.size + 1 := by omega
                  have z20 := Z20.out
                  have hne : ¬ w20.heap.size + 1 = w20.heap.size := by have := NB16.out.lt; omega
                  have hne' : ¬ w20.heap.size = w20.heap.size + 1 := fun h => hne h.symm
                  have HM21 := Lib.hid hM21
                  clear hL21 hM21 xb202
                  simp only [Ans.val]
                  go_wp2_with fail
                  refine ⟨by kernel_rfl, ⟨⟨NXB.out, ISX.out⟩, trivial⟩, ?_⟩
                  go_wp2_with fail
                  go_ret
                  exact ⟨rfl, (M21.out.trans' (((((((Mod.refl [w20.heap.size + 1, w20.heap.size] w21).setCell (p := ⟨w20.heap.size + 1, 0, none⟩) (.inl (by simp)) (.int .i64 2)).setCell (p := ⟨w20.heap.size + 1, 1, none⟩) (.inl (by simp)) (.int .i64 er)).setCell (p := ⟨w20.heap.size + 1, 2, none⟩) (.inl (by simp)) (.int .i64 1)).setCell (p := ⟨w20.heap.size, 0, none⟩) (.inl (by simp)) (.int .i64 1)).setCell (p := ⟨w20.heap.size, 1, none⟩) (.inl (by simp)) (.int .i64 lr)).setCell (p := ⟨w20.heap.size, 2, none⟩) (.inl (by simp)) (.int .i64 0)) (fun b hb => .inr (by simp only [List.mem_cons, List.not_mem_nil, or_false] at hb; have := ME.out.size; have := Z20.out; omega)))⟩
                · rcases before_or 16 14 S with q4 | q4
                  · refine ⟨[(7, 15), (15, 14), (15, 16), (16, 14)], by decide, fun p hp => by simp only [List.mem_cons, List.not_mem_nil, or_false] at hp; rcases hp with rfl | rfl | rfl | rfl <;> assumption, held_perm [0, 1, 2, 3, 4, 5, 6, 8, 9, 10, 11, 12, 13, 7, 15, 16, 14, 17, 18] [14] [10] B.all (by kernel_rfl) (by kernel_rfl) ?_⟩
                    simp only [wpCut, edges, edge, perm, reOper, reGuard, List.getElem?_cons_succ, List.getElem?_cons_zero, List.take_succ_cons, List.take_zero, List.drop_succ_cons, List.drop_zero, List.cons_append, List.nil_append]
                    go_wp2_with fail
                    rw [HE1S.out]
                    refine (E1.out _ (LE.out.mod0 (Mod.refl [] wE).drew)).mono ?_
                    rintro e20 w20 ⟨rfl, hL20, hM20⟩
                    have L20 := Lib.hid hL20
                    have HM20 := Lib.hid hM20
                    have M20 := Lib.hid ((ME.out.trans (Mod.refl [] wE).drew).trans' hM20 (fun b hb => .inr (by have := BL.out.1 b hb; omega)))
                    have XB20 := Lib.hid (hM20.blk ((Mod.refl [] wE).drew.blk XBE.out (by simp)) NXB.out)
                    have xb202 := XB20.out.cell (i := 2) rfl
                    have Z20 := Lib.hid (show wE.heap.size ≤ w20.heap.size from Nat.le_trans (Mod.refl [] wE).drew.size hM20.size)
                    clear hL20 hM20
                    simp only [Ans.val]
                    go_wp2_with fail
                    refine ⟨((Mod.refl B.all wE.drew).trans HM20.out), ?_⟩
                    go_wp2_with fail
                    refine (E2.out _ (L20.out.mod0 (((Mod.refl [] w20).alloc (.cells #[.int .i64 0, .int .i64 0, .int .i64 0] 39)).alloc (.cells #[.int .i64 0, .int .i64 0, .int .i64 0] 39)))).mono ?_
                    rintro e21 w21 ⟨rfl, hL21, hM21⟩
                    have NB15 := Lib.hid ((Blk.new w20 [.int .i64 0, .int .i64 0, .int .i64 0] 39).alloc (.cells #[.int .i64 0, .int .i64 0, .int .i64 0] 39))
                    have K15 := Lib.hid (hM21.blk NB15.out (fun hb => by have := LE.out.lt _ hb; have := Z20.out; omega))
                    have NB16 : Hid (Blk ((w20.alloc (.cells #[.int .i64 0, .int .i64 0, .int .i64 0] 39)).alloc (.cells #[.int .i64 0, .int .i64 0, .int .i64 0] 39)) (w20.heap.size + 1) 39 [.int .i64 0, .int .i64 0, .int .i64 0]) := Lib.hid (by have h := (Blk.new (w20.alloc (.cells #[.int .i64 0, .int .i64 0, .int .i64 0] 39)) [.int .i64 0, .int .i64 0, .int .i64 0] 39); rw [show (w20.alloc (.cells #[.int .i64 0, .int .i64 0, .int .i64 0] 39)).heap.size = w20.heap.size + 1 by simp] at h; exact h)
                    have K16 := Lib.hid (hM21.blk NB16.out (fun hb => by have := LE.out.lt _ hb; have := Z20.out; omega))
                    have M21 := Lib.hid ((M20.out.trans (((Mod.refl [] w20).alloc (.cells #[.int .i64 0, .int .i64 0, .int .i64 0] 39)).alloc (.cells #[.int .i64 0, .int .i64 0, .int .i64 0] 39))).trans' hM21 (fun b hb => .inr (by have := BL.out.1 b hb; omega)))
                    have k150 := K15.out.cell (i := 0) rfl
                    have k151 := K15.out.cell (i := 1) rfl
                    have k152 := K15.out.cell (i := 2) rfl
                    have f150 := K15.out.free 0
                    have f151 := K15.out.free 1
                    have f152 := K15.out.free 2
                    have l15 : w20.heap.size < w21.heap.size := K15.out.lt
                    have l15' : ¬ w20.heap.size = w21.heap.size := by omega
                    have l15'' : ¬ w20.heap.size = w21.heap.size + 1 := by omega
                    have k160 := K16.out.cell (i := 0) rfl
                    have k161 := K16.out.cell (i := 1) rfl
                    have k162 := K16.out.cell (i := 2) rfl
                    have f160 := K16.out.free 0
                    have f161 := K16.out.free 1
                    have f162 := K16.out.free 2
                    have l16 : w20.heap.size + 1 < w21.heap.size := K16.out.lt
                    have l16' : ¬ w20.heap.size + 1 = w21.heap.size := by omega
                    have l16'' : ¬ w20.heap.size + 1 = w21.heap.size + 1 := by omega
                    have z20 := Z20.out
                    have hne : ¬ w20.heap.size = w20.heap.size + 1 := by have := NB16.out.lt; omega
                    have hne' : ¬ w20.heap.size + 1 = w20.heap.size := fun h => hne h.symm
                    have HM21 := Lib.hid hM21
                    clear hL21 hM21 xb202
                    simp only [Ans.val]
                    go_wp2_with fail
                    refine ⟨by kernel_rfl, ⟨⟨NXB.out, ISX.out⟩, trivial⟩, ?_⟩
                    go_wp2_with fail
                    go_ret
                    exact ⟨rfl, (M21.out.trans' (((((((Mod.refl [w20.heap.size, w20.heap.size + 1] w21).setCell (p := ⟨w20.heap.size, 0, none⟩) (.inl (by simp)) (.int .i64 2)).setCell (p := ⟨w20.heap.size, 1, none⟩) (.inl (by simp)) (.int .i64 er)).setCell (p := ⟨w20.heap.size, 2, none⟩) (.inl (by simp)) (.int .i64 1)).setCell (p := ⟨w20.heap.size + 1, 0, none⟩) (.inl (by simp)) (.int .i64 1)).setCell (p := ⟨w20.heap.size + 1, 1, none⟩) (.inl (by simp)) (.int .i64 lr)).setCell (p := ⟨w20.heap.size + 1, 2, none⟩) (.inl (by simp)) (.int .i64 0)) (fun b hb => .inr (by simp only [List.mem_cons, List.not_mem_nil, or_false] at hb; have := ME.out.size; have := Z20.out; omega)))⟩
                  · refine ⟨[(7, 15), (15, 14), (14, 16)], by decide, fun p hp => by simp only [List.mem_cons, List.not_mem_nil, or_false] at hp; rcases hp with rfl | rfl | rfl <;> assumption, held_perm [0, 1, 2, 3, 4, 5, 6, 8, 9, 10, 11, 12, 13, 7, 15, 14, 16, 17, 18] [14, 2] [10] B.all (by kernel_rfl) (by kernel_rfl) ?_⟩
                    simp only [wpCut, edges, edge, perm, reOper, reGuard, List.getElem?_cons_succ, List.getElem?_cons_zero, List.take_succ_cons, List.take_zero, List.drop_succ_cons, List.drop_zero, List.cons_append, List.nil_append]
                    go_wp2_with fail
                    rw [HE1S.out]
                    refine (E1.out _ (LE.out.mod0 (Mod.refl [] wE).drew)).mono ?_
                    rintro e20 w20 ⟨rfl, hL20, hM20⟩
                    have L20 := Lib.hid hL20
                    have HM20 := Lib.hid hM20
                    have M20 := Lib.hid ((ME.out.trans (Mod.refl [] wE).drew).trans' hM20 (fun b hb => .inr (by have := BL.out.1 b hb; omega)))
                    have XB20 := Lib.hid (hM20.blk ((Mod.refl [] wE).drew.blk XBE.out (by simp)) NXB.out)
                    have xb202 := XB20.out.cell (i := 2) rfl
                    have Z20 := Lib.hid (show wE.heap.size ≤ w20.heap.size from Nat.le_trans (Mod.refl [] wE).drew.size hM20.size)
                    clear hL20 hM20
                    simp only [Ans.val]
                    go_wp2_with fail
                    refine ⟨((Mod.refl B.all wE.drew).trans HM20.out), ?_⟩
                    go_wp2_with fail
                    refine (E2.out _ (L20.out.mod0 ((Mod.refl [] w20).alloc (.cells #[.int .i64 0, .int .i64 0, .int .i64 0] 39)))).mono ?_
                    rintro e21 w21 ⟨rfl, hL21, hM21⟩
                    have NB15 := Lib.hid (Blk.new w20 [.int .i64 0, .int .i64 0, .int .i64 0] 39)
                    have K15 := Lib.hid (hM21.blk NB15.out (fun hb => by have := LE.out.lt _ hb; have := Z20.out; omega))
                    have M21 := Lib.hid ((M20.out.trans ((Mod.refl [] w20).alloc (.cells #[.int .i64 0, .int .i64 0, .int .i64 0] 39))).trans' hM21 (fun b hb => .inr (by have := BL.out.1 b hb; omega)))
                    have k150 := K15.out.cell (i := 0) rfl
                    have k151 := K15.out.cell (i := 1) rfl
                    have k152 := K15.out.cell (i := 2) rfl
                    have f150 := K15.out.free 0
                    have f151 := K15.out.free 1
                    have f152 := K15.out.free 2
                    have l15 : w20.heap.size < w21.heap.size := K15.out.lt
                    have l15' : ¬ w20.heap.size = w21.heap.size := by omega
                    have l15'' : ¬ w20.heap.size = w21.heap.size + 1 := by omega
                    have HM21 := Lib.hid hM21
                    clear hL21 hM21 xb202
                    simp only [Ans.val]
                    go_wp2_with fail
                    refine ⟨((((Mod.refl B.all wE.drew).trans HM20.out).alloc (.cells #[.int .i64 0, .int .i64 0, .int .i64 0] 39)).trans HM21.out), ?_⟩
                    go_wp2_with fail
                    refine ⟨by kernel_rfl, ⟨⟨NXB.out, ISX.out⟩, trivial⟩, ?_⟩
                    go_wp2_with fail
                    go_ret
                    exact ⟨rfl, ((M21.out.trans' ((((Mod.refl [w20.heap.size] w21).setCell (p := ⟨w20.heap.size, 0, none⟩) (.inl (by simp)) (.int .i64 2)).setCell (p := ⟨w20.heap.size, 1, none⟩) (.inl (by simp)) (.int .i64 er)).setCell (p := ⟨w20.heap.size, 2, none⟩) (.inl (by simp)) (.int .i64 1)) (fun b hb => .inr (by simp only [List.mem_cons, List.not_mem_nil, or_false] at hb; have := ME.out.size; have := Z20.out; omega))).alloc _)⟩
            · rcases before_or 16 7 S with q2 | q2
              · refine ⟨[(14, 15), (16, 7)], by decide, fun p hp => by simp only [List.mem_cons, List.not_mem_nil, or_false] at hp; rcases hp with rfl | rfl <;> assumption, held_perm [0, 1, 2, 3, 4, 5, 6, 8, 9, 10, 11, 12, 13, 16, 7, 14, 15, 17, 18] [15, 1] [3, 10] B.all (by kernel_rfl) (by kernel_rfl) ?_⟩
                simp only [wpCut, edges, edge, perm, reOper, reGuard, List.getElem?_cons_succ, List.getElem?_cons_zero, List.take_succ_cons, List.take_zero, List.drop_succ_cons, List.drop_zero, List.cons_append, List.nil_append]
                go_wp2_with fail
                rw [HE1S.out]
                refine (E1.out _ (LE.out.mod0 ((Mod.refl [] wE).alloc (.cells #[.int .i64 0, .int .i64 0, .int .i64 0] 39)).drew)).mono ?_
                rintro e20 w20 ⟨rfl, hL20, hM20⟩
                have NB16 := Lib.hid ((Blk.new wE [.int .i64 0, .int .i64 0, .int .i64 0] 39).drew)
                have G16 := Lib.hid (hM20.blk NB16.out (fun hb => by have := LE.out.lt _ hb; omega))
                have L20 := Lib.hid hL20
                have HM20 := Lib.hid hM20
                have M20 := Lib.hid ((ME.out.trans ((Mod.refl [] wE).alloc (.cells #[.int .i64 0, .int .i64 0, .int .i64 0] 39)).drew).trans' hM20 (fun b hb => .inr (by have := BL.out.1 b hb; omega)))
                have XB20 := Lib.hid (hM20.blk (((Mod.refl [] wE).alloc (.cells #[.int .i64 0, .int .i64 0, .int .i64 0] 39)).drew.blk XBE.out (by simp)) NXB.out)
                have xb202 := XB20.out.cell (i := 2) rfl
                have Z20 := Lib.hid (show wE.heap.size ≤ w20.heap.size from Nat.le_trans ((Mod.refl [] wE).alloc (.cells #[.int .i64 0, .int .i64 0, .int .i64 0] 39)).drew.size hM20.size)
                clear hL20 hM20
                simp only [Ans.val]
                go_wp2_with fail
                refine ⟨(((Mod.refl B.all wE.drew).alloc (.cells #[.int .i64 0, .int .i64 0, .int .i64 0] 39)).trans HM20.out), ?_⟩
                go_wp2_with fail
                refine (E2.out _ (L20.out.mod0 (Mod.refl [] w20))).mono ?_
                rintro e21 w21 ⟨rfl, hL21, hM21⟩
                have K16 := Lib.hid (hM21.blk G16.out (fun hb => by have := LE.out.lt _ hb; omega))
                have M21 := Lib.hid ((M20.out.trans (Mod.refl [] w20)).trans' hM21 (fun b hb => .inr (by have := BL.out.1 b hb; omega)))
                have k160 := K16.out.cell (i := 0) rfl
                have k161 := K16.out.cell (i := 1) rfl
                have k162 := K16.out.cell (i := 2) rfl
                have f160 := K16.out.free 0
                have f161 := K16.out.free 1
                have f162 := K16.out.free 2
                have l16 : wE.heap.size < w21.heap.size := K16.out.lt
                have l16' : ¬ wE.heap.size = w21.heap.size := by omega
                have l16'' : ¬ wE.heap.size = w21.heap.size + 1 := by omega
                have HM21 := Lib.hid hM21
                clear hL21 hM21 xb202
                simp only [Ans.val]
                go_wp2_with fail
                refine ⟨((((Mod.refl B.all wE.drew).alloc (.cells #[.int .i64 0, .int .i64 0, .int .i64 0] 39)).trans HM20.out).trans HM21.out), ?_⟩
                go_wp2_with fail
                refine ⟨by kernel_rfl, ⟨⟨NXB.out, ISX.out⟩, ⟨NXB.out, ISX.out⟩, trivial⟩, ?_⟩
                go_wp2_with fail
                go_ret
                exact ⟨rfl, ((M21.out.trans' ((((Mod.refl [wE.heap.size] w21).setCell (p := ⟨wE.heap.size, 0, none⟩) (.inl (by simp)) (.int .i64 1)).setCell (p := ⟨wE.heap.size, 1, none⟩) (.inl (by simp)) (.int .i64 lr)).setCell (p := ⟨wE.heap.size, 2, none⟩) (.inl (by simp)) (.int .i64 0)) (fun b hb => .inr (by simp only [List.mem_cons, List.not_mem_nil, or_false] at hb; have := ME.out.size; have := Z20.out; omega))).alloc _)⟩
              · rcases before_or 16 14 S with q3 | q3
                · refine ⟨[(14, 15), (7, 16), (16, 14)], by decide, fun p hp => by simp only [List.mem_cons, List.not_mem_nil, or_false] at hp; rcases hp with rfl | rfl | rfl <;> assumption, held_perm [0, 1, 2, 3, 4, 5, 6, 8, 9, 10, 11, 12, 13, 7, 16, 14, 15, 17, 18] [14, 2] [10] B.all (by kernel_rfl) (by kernel_rfl) ?_⟩
                  simp only [wpCut, edges, edge, perm, reOper, reGuard, List.getElem?_cons_succ, List.getElem?_cons_zero, List.take_succ_cons, List.take_zero, List.drop_succ_cons, List.drop_zero, List.cons_append, List.nil_append]
                  go_wp2_with fail
                  rw [HE1S.out]
                  refine (E1.out _ (LE.out.mod0 (Mod.refl [] wE).drew)).mono ?_
                  rintro e20 w20 ⟨rfl, hL20, hM20⟩
                  have L20 := Lib.hid hL20
                  have HM20 := Lib.hid hM20
                  have M20 := Lib.hid ((ME.out.trans (Mod.refl [] wE).drew).trans' hM20 (fun b hb => .inr (by have := BL.out.1 b hb; omega)))
                  have XB20 := Lib.hid (hM20.blk ((Mod.refl [] wE).drew.blk XBE.out (by simp)) NXB.out)
                  have xb202 := XB20.out.cell (i := 2) rfl
                  have Z20 := Lib.hid (show wE.heap.size ≤ w20.heap.size from Nat.le_trans (Mod.refl [] wE).drew.size hM20.size)
                  clear hL20 hM20
                  simp only [Ans.val]
                  go_wp2_with fail
                  refine ⟨((Mod.refl B.all wE.drew).trans HM20.out), ?_⟩
                  go_wp2_with fail
                  refine (E2.out _ (L20.out.mod0 ((Mod.refl [] w20).alloc (.cells #[.int .i64 0, .int .i64 0, .int .i64 0] 39)))).mono ?_
                  rintro e21 w21 ⟨rfl, hL21, hM21⟩
                  have NB16 := Lib.hid (Blk.new w20 [.int .i64 0, .int .i64 0, .int .i64 0] 39)
                  have K16 := Lib.hid (hM21.blk NB16.out (fun hb => by have := LE.out.lt _ hb; have := Z20.out; omega))
                  have M21 := Lib.hid ((M20.out.trans ((Mod.refl [] w20).alloc (.cells #[.int .i64 0, .int .i64 0, .int .i64 0] 39))).trans' hM21 (fun b hb => .inr (by have := BL.out.1 b hb; omega)))
                  have k160 := K16.out.cell (i := 0) rfl
                  have k161 := K16.out.cell (i := 1) rfl
                  have k162 := K16.out.cell (i := 2) rfl
                  have f160 := K16.out.free 0
                  have f161 := K16.out.free 1
                  have f162 := K16.out.free 2
                  have l16 : w20.heap.size < w21.heap.size := K16.out.lt
                  have l16' : ¬ w20.heap.size = w21.heap.size := by omega
                  have l16'' : ¬ w20.heap.size = w21.heap.size + 1 := by omega
                  have HM21 := Lib.hid hM21
                  clear hL21 hM21 xb202
                  simp only [Ans.val]
                  go_wp2_with fail
                  refine ⟨((((Mod.refl B.all wE.drew).trans HM20.out).alloc (.cells #[.int .i64 0, .int .i64 0, .int .i64 0] 39)).trans HM21.out), ?_⟩
                  go_wp2_with fail
                  refine ⟨by kernel_rfl, ⟨⟨NXB.out, ISX.out⟩, trivial⟩, ?_⟩
                  go_wp2_with fail
                  go_ret
                  exact ⟨rfl, ((M21.out.trans' ((((Mod.refl [w20.heap.size] w21).setCell (p := ⟨w20.heap.size, 0, none⟩) (.inl (by simp)) (.int .i64 1)).setCell (p := ⟨w20.heap.size, 1, none⟩) (.inl (by simp)) (.int .i64 lr)).setCell (p := ⟨w20.heap.size, 2, none⟩) (.inl (by simp)) (.int .i64 0)) (fun b hb => .inr (by simp only [List.mem_cons, List.not_mem_nil, or_false] at hb; have := ME.out.size; have := Z20.out; omega))).alloc _)⟩
                · rcases before_or 16 15 S with q4 | q4
                  · refine ⟨[(14, 15), (14, 16), (16, 15)], by decide, fun p hp => by simp only [List.mem_cons, List.not_mem_nil, or_false] at hp; rcases hp with rfl | rfl | rfl <;> assumption, held_perm [0, 1, 2, 3, 4, 5, 6, 8, 9, 10, 11, 12, 13, 7, 14, 16, 15, 17, 18] [14, 1] [10] B.all (by kernel_rfl) (by kernel_rfl) ?_⟩
                    simp only [wpCut, edges, edge, perm, reOper, reGuard, List.getElem?_cons_succ, List.getElem?_cons_zero, List.take_succ_cons, List.take_zero, List.drop_succ_cons, List.drop_zero, List.cons_append, List.nil_append]
                    go_wp2_with fail
                    rw [HE1S.out]
                    refine (E1.out _ (LE.out.mod0 (Mod.refl [] wE).drew)).mono ?_
                    rintro e20 w20 ⟨rfl, hL20, hM20⟩
                    have L20 := Lib.hid hL20
                    have HM20 := Lib.hid hM20
                    have M20 := Lib.hid ((ME.out.trans (Mod.refl [] wE).drew).trans' hM20 (fun b hb => .inr (by have := BL.out.1 b hb; omega)))
                    have XB20 := Lib.hid (hM20.blk ((Mod.refl [] wE).drew.blk XBE.out (by simp)) NXB.out)
                    have xb202 := XB20.out.cell (i := 2) rfl
                    have Z20 := Lib.hid (show wE.heap.size ≤ w20.heap.size from Nat.le_trans (Mod.refl [] wE).drew.size hM20.size)
                    clear hL20 hM20
                    simp only [Ans.val]
                    go_wp2_with fail
                    refine ⟨((Mod.refl B.all wE.drew).trans HM20.out), ?_⟩
                    go_wp2_with fail
                    refine (E2.out _ (L20.out.mod0 (Mod.refl [] w20))).mono ?_
                    rintro e21 w21 ⟨rfl, hL21, hM21⟩
                    have M21 := Lib.hid ((M20.out.trans (Mod.refl [] w20)).trans' hM21 (fun b hb => .inr (by have := BL.out.1 b hb; omega)))
                    have HM21 := Lib.hid hM21
                    clear hL21 hM21 xb202
                    simp only [Ans.val]
                    go_wp2_with fail
                    refine ⟨(((Mod.refl B.all wE.drew).trans HM20.out).trans HM21.out), ?_⟩
                    go_wp2_with fail
                    refine ⟨by kernel_rfl, ⟨⟨NXB.out, ISX.out⟩, trivial⟩, ?_⟩
                    go_wp2_with fail
                    go_ret
                    exact ⟨rfl, ((M21.out.alloc _).alloc _)⟩
                  · refine ⟨[(14, 15), (15, 16)], by decide, fun p hp => by simp only [List.mem_cons, List.not_mem_nil, or_false] at hp; rcases hp with rfl | rfl <;> assumption, held_perm [0, 1, 2, 3, 4, 5, 6, 8, 9, 10, 11, 12, 13, 7, 14, 15, 16, 17, 18] [14, 1] [10] B.all (by kernel_rfl) (by kernel_rfl) ?_⟩
                    simp only [wpCut, edges, edge, perm, reOper, reGuard, List.getElem?_cons_succ, List.getElem?_cons_zero, List.take_succ_cons, List.take_zero, List.drop_succ_cons, List.drop_zero, List.cons_append, List.nil_append]
                    go_wp2_with fail
                    rw [HE1S.out]
                    refine (E1.out _ (LE.out.mod0 (Mod.refl [] wE).drew)).mono ?_
                    rintro e20 w20 ⟨rfl, hL20, hM20⟩
                    have L20 := Lib.hid hL20
                    have HM20 := Lib.hid hM20
                    have M20 := Lib.hid ((ME.out.trans (Mod.refl [] wE).drew).trans' hM20 (fun b hb => .inr (by have := BL.out.1 b hb; omega)))
                    have XB20 := Lib.hid (hM20.blk ((Mod.refl [] wE).drew.blk XBE.out (by simp)) NXB.out)
                    have xb202 := XB20.out.cell (i := 2) rfl
                    have Z20 := Lib.hid (show wE.heap.size ≤ w20.heap.size from Nat.le_trans (Mod.refl [] wE).drew.size hM20.size)
                    clear hL20 hM20
                    simp only [Ans.val]
                    go_wp2_with fail
                    refine ⟨((Mod.refl B.all wE.drew).trans HM20.out), ?_⟩
                    go_wp2_with fail
                    refine (E2.out _ (L20.out.mod0 (Mod.refl [] w20))).mono ?_
                    rintro e21 w21 ⟨rfl, hL21, hM21⟩
                    have M21 := Lib.hid ((M20.out.trans (Mod.refl [] w20)).trans' hM21 (fun b hb => .inr (by have := BL.out.1 b hb; omega)))
                    have HM21 := Lib.hid hM21
                    clear hL21 hM21 xb202
                    simp only [Ans.val]
                    go_wp2_with fail
                    refine ⟨(((Mod.refl B.all wE.drew).trans HM20.out).trans HM21.out), ?_⟩
                    go_wp2_with fail
                    refine ⟨by kernel_rfl, ⟨⟨NXB.out, ISX.out⟩, trivial⟩, ?_⟩
                    go_wp2_with fail
                    go_ret
                    exact ⟨rfl, ((M21.out.alloc _).alloc _)⟩
theorem retry_law (w : World) (p : Plan) (a : Option Addr) (cp : Nat) (l : List Call) (hm : l.length ≤ maxLen) (hP : InRow w a 4 Call.cells l) (ask : Int) (hask : (Lit.int .i64 ask).wf = true) :
    Calls Try.prog 13 #[p.val, .slice a l.length cp, .int .i64 ask] w fun e w' => e = .returned (.bool true) ∧ Mod [] w w' := by
  cases hL : lightB l with
  | true => exact retry_main w p a cp l hm hP ask hL
  | false =>
    have LI := Lib.hid (fun W (hM : Mod [] w W) => light_any (inrow_mod hP hM) hm cp)
    rw [hL] at LI
    obtain ⟨p0, p1, p2, p3, p4, p5, p6, p7, p8⟩ := p
    simp only [Plan.val] at *
    have M0 := Lib.hid ((Mod.refl [] w).alloc (.cells #[.int .i64 p0, .int .i64 p1, .int .i64 p2, .int .i64 p3, .int .i64 p4, .int .i64 p5, .int .i64 p6, .int .i64 p7, .bool p8] 23))
    clear hP hm hL
    generalize l.length = n at *
    go_enter Try.func13, Try.ntmps13
    go_wp2_with fail
    refine (fit_any _).mono ?_
    rintro e1 w1 ⟨rfl, hM1⟩
    have M1 := Lib.hid (M0.out.trans hM1)
    clear hM1
    go_wp2_with fail
    refine (LI.out _ M1.out).mono ?_
    rintro e2 w2 ⟨rfl, hM2⟩
    go_wp2_with fail
    go_ret
    exact ⟨rfl, M1.out.trans hM2⟩
end Go.Proofs.Ytndekdafiaogmaa.Lim
end
