/- limiter's laws: LimiterShift. No condition. (written by wip/tools) -/
import Derived.Test.YtndekdafiaogmaaZLimC
import Derived.Test.YtndekdafiaogmaaZLimPlainC
section
namespace Go.Proofs.Ytndekdafiaogmaa.Lim
open Go Go.RowKit Go.YtndekdafiaogmaaMem Go.YtndekdafiaogmaaLex Go.Proofs.Ytndekdafiaogmaa.Hash Go.Proofs.Ytndekdafiaogmaa.Arith Go.Proofs.Ytndekdafiaogmaa.Index Go.Proofs.Ytndekdafiaogmaa.Cell Go.Proofs.Ytndekdafiaogmaa.Slot
open Go.Proofs.Ytndekdafiaogmaa.Pool (PS putP remP pairs PB PoolAt firstIdle)
open Go.Proofs.Ytndekdafiaogmaa.Ring (Rs RiB RingAt estS addR waitS massS Small small_get leastV leastV_small ring0)
open Go.Proofs.Ytndekdafiaogmaa.Sum (Ent OkE SB SumAt countE leastOf)
set_option linter.unusedVariables false
set_option linter.unusedSimpArgs false

theorem Kept.to {c : Cf} {s : Lm} {k now : Nat} (h : Kept c s k now) (hk : k < 150) {g : Nat} (hg : g ≤ 1023) : Kept c (s.to ((now + g : Nat) : Int)) (k + 1) (now + g) := by
  have h1 := h.time
  have h2 := h.t
  obtain ⟨j1, j2⟩ := h.inv.to (now := now + g) (by omega) (by omega)
  exact ⟨j1.mono (by omega) (by omega), ⟨by omega, by omega⟩, ⟨h2.1, by show s.t ≤ _; omega⟩, h.len⟩
/-- Behind a peek. -/
theorem Kept.peek {c : Cf} {s : Lm} {k now : Nat} (h : Kept c s k now) (hk : k < 150) {g : Nat} (hg : g ≤ 1023) (held : Int) (key : List UInt8) (cost : Int) :
    Kept c (Lim.peek c s ((now + g : Nat) : Int) held key cost).2 (k + 1) (now + g) ∧ Inv c (Lim.peek c s ((now + g : Nat) : Int) held key cost).2 (65 * k) ∧ (Lim.peek c s ((now + g : Nat) : Int) held key cost).2.ring.now ≤ now + g := by
  have h1 := h.time
  unfold Lim.peek
  split
  · exact ⟨h.skip hk hg, h.inv, by simp only; omega⟩
  · obtain ⟨j1, j2⟩ := h.inv.to (now := now + g) (by omega) (by omega)
    exact ⟨h.to hk hg, j1, by simp only; omega⟩
theorem Kept.peekCheck {c : Cf} {s : Lm} {k now : Nat} (h : Kept c s k now) (hc : c.Ok) (hl : c.r.limit ≤ 32) (hk : k < 150) (hf : s.ring.st.length ≤ 65) {g : Nat} (hg : g ≤ 1023) {key : List UInt8} (hkey : key.length ≤ 64) {n : Nat} (hn : n ≤ 63) (pc : Int) :
    Kept c (Lim.check c (Lim.peek c s ((now + g : Nat) : Int) 0 key pc).2 ((now + g : Nat) : Int) 0 key n).2.2 (k + 1) (now + g) := by
  unfold Lim.peek
  split
  · exact h.check hc hl hk hf hg 0 hkey hn
  · exact h.both hc hl hk hf hg hkey hn
theorem div_nat {a b : Int} (ha : 0 ≤ a) (hb : 1 ≤ b) : a.tdiv b = ((a.toNat / b.toNat : Nat) : Int) ∧ a / b = ((a.toNat / b.toNat : Nat) : Int) := by
  obtain ⟨x, rfl⟩ : ∃ x : Nat, a = (x : Int) := ⟨a.toNat, by omega⟩
  obtain ⟨y, rfl⟩ : ∃ y : Nat, b = (y : Int) := ⟨b.toNat, by omega⟩
  have e : ((x : Int) / (y : Int)) = ((x / y : Nat) : Int) := (Int.natCast_ediv x y).symm
  rw [Int.tdiv_eq_ediv_of_nonneg (by omega), e]
  exact ⟨rfl, rfl⟩
theorem width_plan (p : Plan) : 1 ≤ p.rule.window.toNat / p.rule.slots.toNat ∧ p.rule.window.toNat / p.rule.slots.toNat ≤ 32 := by
  have hw := ba31 p.window
  have hs := ba7 p.slots
  obtain ⟨A, hA⟩ : ∃ A : Nat, ba p.window 31 + 1 = (A : Int) := ⟨(ba p.window 31 + 1).toNat, by omega⟩
  obtain ⟨S, hS⟩ : ∃ S : Nat, ba p.slots 7 + 1 = (S : Int) := ⟨(ba p.slots 7 + 1).toNat, by omega⟩
  have ew : p.rule.window = ((A * S : Nat) : Int) := by
    show (ba p.window 31 + 1) * (ba p.slots 7 + 1) = _
    rw [hA, hS, Int.natCast_mul]
  have es : p.rule.slots = (S : Int) := hS
  rw [ew, es]
  show 1 ≤ (A * S) / S ∧ (A * S) / S ≤ 32
  rw [Nat.mul_div_cancel _ (by omega)]
  omega
/-- What is kept of the later one. -/
structure KeptM (c : Cf) (m : Lm) (k u : Nat) : Prop where
  inv : Inv c m (65 * k)
  time : m.ring.now ≤ u
theorem KeptM.peek {c : Cf} {m : Lm} {k u : Nat} (h : KeptM c m k u) {U : Nat} (hu : u ≤ U) (hU : U < 4611686018427387904) (held : Int) (key : List UInt8) (cost : Int) : KeptM c (Lim.peek c m (U : Int) held key cost).2 k U := by
  have h1 := h.time
  unfold Lim.peek
  split
  · exact ⟨h.inv, by simp only; omega⟩
  · obtain ⟨j1, j2⟩ := h.inv.to (now := U) (by omega) hU
    exact ⟨j1, by simp only; omega⟩
theorem KeptM.check {c : Cf} {m : Lm} {k U : Nat} (h : KeptM c m k U) (hc : c.Ok) (hl : c.r.limit ≤ 32) (hk : k < 150) (hf : m.ring.st.length ≤ 65) (held : Int) (key : List UInt8) (cost : Int) : KeptM c (Lim.check c m (U : Int) held key cost).2.2 (k + 1) U := by
  have hst : c.step = 2 * c.r.limit.toNat + 1 := rfl
  obtain ⟨i1, i2, i3⟩ := h.inv.check hc hf (now := U) h.time held key cost (by omega)
  exact ⟨i1.mono (by omega) (by omega), i3⟩
theorem totV_shift {c : Cf} {sh : Nat} {d : Int} {s m : Lm} (h : LShift c sh d s m) : totV m = totV s := by
  unfold totV
  rw [h.pool.S, h.t, h.al, h.de, h.bad]
theorem width_peek {c : Cf} {s : Lm} {now held cost : Int} {key : List UInt8} : (Lim.peek c s now held key cost).2.ring.width = s.ring.width ∧ (Lim.peek c s now held key cost).2.ring.st.length = s.ring.st.length := by
  unfold Lim.peek
  split <;> exact ⟨rfl, rfl⟩
theorem width_check {c : Cf} {s : Lm} {now held cost : Int} {key : List UInt8} : (Lim.check c s now held key cost).2.2.ring.width = s.ring.width := by
  have h := rk_check c s now held key cost
  unfold Lim.rk at h
  simp only [Prod.mk.injEq] at h
  exact h.1
set_option maxRecDepth 8000 in
set_option maxHeartbeats 12800000 in
theorem shift_main (w : World) (p : Plan) (shf : Int) (a : Option Addr) (cp : Nat) (l : List Call) (hm : l.length ≤ maxLen) (hP : InRow w a 4 Call.cells l) (hL : lightB l = true) :
    Calls Try.prog 10 #[p.val, .int .i64 shf, .slice a l.length cp] w fun e w' => e = .returned (.bool true) ∧ Mod [] w w' := by
  obtain ⟨hl150, hkeys⟩ := light_spec hL
  obtain ⟨hro, hlim⟩ := rule_ok p
  have LI := Lib.hid (fun W (hM : Mod [] w W) => light_any (inrow_mod hP hM) hm cp)
  rw [hL] at LI
  have GET := Lib.hid (fun j q (hq : l[j]? = some q) => inrow_get hP hq)
  have KEY := Lib.hid (fun j q (hq : l[j]? = some q) => hkeys q (List.mem_of_getElem? hq))
  have RU := Lib.hid (fun W : World => rule_any p W)
  have hrg0 : RingOf (cfOf p.rule [7, 9, 11, 13, 15, 17]) (new0 (cfOf p.rule [7, 9, 11, 13, 15, 17])).ring := ring_of0 (rule_ok p).1
  have hwp0 := width_plan p
  have hsl0 := (rule_ok p).1.slots
  have hdn0 := div_nat (a := p.rule.window) (b := p.rule.slots) (by have := (rule_ok p).1.window; omega) (by omega)
  obtain ⟨r, hr⟩ : ∃ r, p.rule = r := ⟨_, rfl⟩
  rw [hr] at RU hro hlim hrg0 hwp0 hsl0 hdn0
  have HRO := Lib.hid hro
  have NW := Lib.hid (fun (W : World) v (hv : Sl W v (v64 [7, 9, 11, 13, 15, 17])) => new_any hv (by simp) r hro)
  have CO := Lib.hid (fun z (W : World) => cost_any r (by have := hro.burst; omega) z W)
  obtain ⟨c, hc⟩ : ∃ c, cfOf r [7, 9, 11, 13, 15, 17] = c := ⟨_, rfl⟩
  have hcr : c.r = r := by rw [← hc]; rfl
  have HCR := Lib.hid hcr
  have HC := Lib.hid (show c.Ok by rw [← hc]; exact hro.cf [7, 9, 11, 13, 15, 17])
  rw [hc] at NW hrg0
  have HG0 := Lib.hid hrg0
  have HLIM := Lib.hid hlim
  have hbur := hro.burst
  have hwid : (new0 c).ring.width = r.window.toNat / r.slots.toNat := by rw [← hc]; rfl
  obtain ⟨A, hA⟩ : ∃ A, r.window.toNat / r.slots.toNat = A := ⟨_, rfl⟩
  rw [hA] at hwp0 hdn0 hwid
  have HW0 := Lib.hid hwid
  obtain ⟨s32, hs32, hs0, hs1⟩ : ∃ s32 : Int, bits .and .i64 shf 4294967295 = s32 ∧ 0 ≤ s32 ∧ s32 < 4294967296 := ⟨_, rfl, by rw [show (4294967295 : Int) = 2 ^ 32 - 1 from rfl, and_mask _ _ (by omega)]; omega⟩
  obtain ⟨sh, rfl⟩ : ∃ sh : Nat, s32 = (sh : Int) := ⟨s32.toNat, by omega⟩
  obtain ⟨D, hDD⟩ : ∃ D : Nat, sh * A = D := ⟨_, rfl⟩
  have HDS := Lib.hid hDD.symm
  have hDb : D ≤ 137438953472 := by
    have : sh * A ≤ 4294967296 * 32 := Nat.mul_le_mul (by omega) (by omega)
    omega
  have HDB := Lib.hid hDb
  have HDD := Lib.hid (show (sh : Int) * (A : Int) = (D : Int) ∧ wrap64 (D : Int) = (D : Int) from ⟨by rw [← hDD, Int.natCast_mul], by unfold wrap64; omega⟩)
  have hA32 : A ≤ 32 := hwp0.2
  have hsh32 : sh < 4294967296 := by omega
  obtain ⟨p0, p1, p2, p3, p4, p5, p6, p7, p8⟩ := p
  obtain ⟨r0, r1, r2, r3, r4, r5, r6, r7, r8⟩ := r
  simp only [Plan.val, Rule.val] at *
  have HQD := Lib.hid hdn0
  clear hwp0 hsl0 hdn0 hwid hA hDD hDb hs0 hs1
  have PB0 := Lib.hid (Blk.new w [.int .i64 p0, .int .i64 p1, .int .i64 p2, .int .i64 p3, .int .i64 p4, .int .i64 p5, .int .i64 p6, .int .i64 p7, .bool p8] 23)
  have M0 := Lib.hid ((Mod.refl [] w).alloc (.cells #[.int .i64 p0, .int .i64 p1, .int .i64 p2, .int .i64 p3, .int .i64 p4, .int .i64 p5, .int .i64 p6, .int .i64 p7, .bool p8] 23))
  obtain ⟨n, hn⟩ : ∃ n, l.length = n := ⟨_, rfl⟩
  have HN := Lib.hid hn
  rw [hn] at LI hl150 ⊢
  clear hP hm hL hkeys hro hr hc hcr hlim hn hrg0 
  go_enter Try.func10, Try.ntmps10
  go_wp2_with fail
  refine (fit_any _).mono ?_
  rintro e1 w1 ⟨rfl, hM1⟩
  have M1 := Lib.hid (M0.out.trans hM1)
  have PB1 := Lib.hid (hM1.blk PB0.out (by simp))
  clear hM1
  go_wp2_with fail
  refine (LI.out _ M1.out).mono ?_
  rintro e2 w2 ⟨rfl, hM2⟩
  have M2 := Lib.hid (M1.out.trans hM2)
  have PB2 := Lib.hid (hM2.blk PB1.out (by simp))
  have b0 := PB2.out.cell (i := 0) rfl
  have b1 := PB2.out.cell (i := 1) rfl
  have b2 := PB2.out.cell (i := 2) rfl
  have b3 := PB2.out.cell (i := 3) rfl
  have b4 := PB2.out.cell (i := 4) rfl
  have b5 := PB2.out.cell (i := 5) rfl
  have b6 := PB2.out.cell (i := 6) rfl
  have b7 := PB2.out.cell (i := 7) rfl
  have b8 := PB2.out.cell (i := 8) rfl
  clear hM2
  go_wp2_with fail
  refine (RU.out _).mono ?_
  rintro e3 w3 ⟨rfl, hM3⟩
  have M3 := Lib.hid (M2.out.trans hM3)
  have RB3 := Lib.hid (Blk.new w3 [.int .i64 r0, .int .i64 r1, .int .i64 r2, .int .i64 r3, .int .i64 r4, .int .i64 r5, .int .i64 r6, .int .i64 r7, .bool r8] 29)
  have A3 := Lib.hid ((Mod.refl [] w3).alloc (.cells #[.int .i64 r0, .int .i64 r1, .int .i64 r2, .int .i64 r3, .int .i64 r4, .int .i64 r5, .int .i64 r6, .int .i64 r7, .bool r8] 29))
  have hlt3 : w.heap.size < w3.heap.size := (hM3.blk PB2.out (by simp)).lt
  clear hM3 b0 b1 b2 b3 b4 b5 b6 b7 b8
  simp only [Rule.val]
  have RBx := Lib.hid (RB3.out.alloc (.cells #[.int .u64 7, .int .u64 9, .int .u64 11, .int .u64 13, .int .u64 15, .int .u64 17] 47))
  have DR := Lib.hid (Blk.new (w3.alloc (.cells #[.int .i64 r0, .int .i64 r1, .int .i64 r2, .int .i64 r3, .int .i64 r4, .int .i64 r5, .int .i64 r6, .int .i64 r7, .bool r8] 29)) [.int .u64 7, .int .u64 9, .int .u64 11, .int .u64 13, .int .u64 15, .int .u64 17] 47)
  have Mx := Lib.hid ((M3.out.trans A3.out).alloc (.cells #[.int .u64 7, .int .u64 9, .int .u64 11, .int .u64 13, .int .u64 15, .int .u64 17] 47))
  rw [show (w3.alloc (.cells #[.int .i64 r0, .int .i64 r1, .int .i64 r2, .int .i64 r3, .int .i64 r4, .int .i64 r5, .int .i64 r6, .int .i64 r7, .bool r8] 29)).heap.size = w3.heap.size + 1 by simp] at DR
  have hsl : Sl ((w3.alloc (.cells #[.int .i64 r0, .int .i64 r1, .int .i64 r2, .int .i64 r3, .int .i64 r4, .int .i64 r5, .int .i64 r6, .int .i64 r7, .bool r8] 29)).alloc (.cells #[.int .u64 7, .int .u64 9, .int .u64 11, .int .u64 13, .int .u64 15, .int .u64 17] 47)) (.slice (some ⟨w3.heap.size + 1, 0, none⟩) 6 6) (v64 [7, 9, 11, 13, 15, 17]) :=
    .inr ⟨w3.heap.size + 1, 0, 6, rfl, Nat.le_refl _, by unfold maxLen; omega, DR.out.lt, fun i u hu => by rw [Nat.zero_add]; exact DR.out.cell hu⟩
  have SLx := Lib.hid hsl
  clear hsl
  go_wp2_with fail
  obtain ⟨wx, hwx⟩ : ∃ wx, (w3.alloc (.cells #[.int .i64 r0, .int .i64 r1, .int .i64 r2, .int .i64 r3, .int .i64 r4, .int .i64 r5, .int .i64 r6, .int .i64 r7, .bool r8] 29)).alloc (.cells #[.int .u64 7, .int .u64 9, .int .u64 11, .int .u64 13, .int .u64 15, .int .u64 17] 47) = wx := ⟨_, rfl⟩
  rw [hwx] at RBx DR Mx SLx ⊢
  clear hwx DR
  have HLx := Lib.hid (show w3.heap.size < wx.heap.size from RBx.out.lt)
  have HIS := Lib.hid (isC_of_blk RBx.out.drew)
  have rz0 := RBx.out.cell (i := 0) rfl
  have rz1 := RBx.out.cell (i := 1) rfl
  have rz2 := RBx.out.cell (i := 2) rfl
  have rz3 := RBx.out.cell (i := 3) rfl
  have rz4 := RBx.out.cell (i := 4) rfl
  have rz5 := RBx.out.cell (i := 5) rfl
  have rz6 := RBx.out.cell (i := 6) rfl
  have rz7 := RBx.out.cell (i := 7) rfl
  have rz8 := RBx.out.cell (i := 8) rfl
  refine Go.YtndekdafiaogmaaLex.wp_region_held [3] [3] [] (by kernel_rfl) (by kernel_rfl) ?_
  simp only [wpCut, List.take_succ_cons, List.take_zero, List.drop_succ_cons, List.drop_zero, List.cons_append, List.nil_append]
  go_wp2_with fail
  refine (NW.out _ _ (SLx.out.mod (Mod.refl [] wx).drew (by simp))).mono ?_
  rintro e4 w4 ⟨B, rfl, hL4, hB4, hrb4, hM4⟩
  have RB4 := Lib.hid (hM4.blk RBx.out.drew (by simp))
  have SL4 := Lib.hid ((SLx.out.mod (Mod.refl [] wx).drew (by simp)).mod hM4 (by simp))
  have M4 := Lib.hid (Mx.out.drew.trans hM4)
  have L4 := Lib.hid hL4
  have HB4 := Lib.hid hB4
  have HM4 := Lib.hid hM4
  have HQ4 := Lib.hid (show B.Q.rb < w4.heap.size from (hL4.ring.each 0 (by have := hL4.ring.few.1; omega)).rows.1)
  clear hL4 hB4 hrb4 hM4 rz0 rz1 rz2 rz3 rz4 rz5 rz6 rz7 rz8
  go_wp2_with fail
  refine ⟨HM4.out, ?_⟩
  have rz0 := RB4.out.cell (i := 0) rfl
  have rz1 := RB4.out.cell (i := 1) rfl
  have rz2 := RB4.out.cell (i := 2) rfl
  have rz3 := RB4.out.cell (i := 3) rfl
  have rz4 := RB4.out.cell (i := 4) rfl
  have rz5 := RB4.out.cell (i := 5) rfl
  have rz6 := RB4.out.cell (i := 6) rfl
  have rz7 := RB4.out.cell (i := 7) rfl
  have rz8 := RB4.out.cell (i := 8) rfl
  go_wp2_with fail
  refine (NW.out _ _ SL4.out).mono ?_
  rintro e5 w5 ⟨B2, rfl, hL5, hB5, hrb5, hM5⟩
  have RB5 := Lib.hid (hM5.blk RB4.out (by simp))
  have M5 := Lib.hid (M4.out.trans hM5)
  have L5 := Lib.hid (L4.out.mod0 hM5)
  have N5 := Lib.hid hL5
  have BLr := Lib.hid (show (∀ b, b ∈ B.all → w.heap.size < b) ∧ w3.heap.size ∉ B.all ∧ (∀ b, b ∈ B2.all → w.heap.size < b) ∧ w3.heap.size ∉ B2.all from by
    have h3 : w3.heap.size < wx.drew.heap.size := HLx.out
    have h4 : wx.drew.heap.size ≤ w4.heap.size := HM4.out.size
    exact ⟨fun b hb => by have := HB4.out b hb; omega, fun hb => by have := HB4.out _ hb; omega, fun b hb => by have := hB5 b hb; omega, fun hb => by have := hB5 _ hb; omega⟩)
  have AP12 := Lib.hid (show (∀ b, b ∈ B.all → b ∉ B2.all) ∧ B.Q.rb ∉ B2.all from ⟨fun b hb hb' => by have := hB5 b hb'; have := L4.out.lt b hb; omega, fun hb' => by have := hB5 _ hb'; have := HQ4.out; omega⟩)
  have AP21 := Lib.hid (show (∀ b, b ∈ B2.all → b ∉ B.all) ∧ B2.Q.rb ∉ B.all from ⟨fun b hb hb' => by have := hB5 b hb; have := L4.out.lt b hb'; omega, fun hb' => by have := L4.out.lt _ hb'; omega⟩)
  clear hL5 hB5 hrb5 hM5 rz0 rz1 rz2 rz3 rz4 rz5 rz6 rz7 rz8
  go_wp2_with fail
  refine ⟨by kernel_rfl, ⟨⟨by simp, HIS.out⟩, trivial⟩, ?_⟩
  have rz1 := RB5.out.cell (i := 1) rfl
  have rz3 := RB5.out.cell (i := 3) rfl
  obtain ⟨hq1, hq2⟩ := HQD.out
  obtain ⟨hD1, hD2⟩ := HDD.out
  have hl0 : ¬ r3 = 0 := by have := HRO.out.slots; simp only at this; omega
  have hl1 : ¬ r3 = -1 := by have := HRO.out.slots; simp only at this; omega
  go_wp2_with fail
  rw [hD2]
  clear rz1 rz3 hq1 hq2 hD1 hD2 hl0 hl1
  go_loopw [12, 44] (fun now i W => ∃ (k t : Nat) (s m : Lm), k ≤ n ∧ i = .int .i64 (k : Int) ∧ now = .int .i64 (t : Int) ∧ LimAt W B c s ∧ LimAt W B2 c m ∧ Kept c s k t ∧ KeptM c m k (t + D) ∧ LShift c sh (D : Int) s m ∧ s.ring.width = A ∧ Blk W w3.heap.size 29 [.int .i64 r0, .int .i64 r1, .int .i64 r2, .int .i64 r3, .int .i64 r4, .int .i64 r5, .int .i64 r6, .int .i64 r7, .bool r8] ∧ Mod [] w W) (fun _ i _ => n - (intOf i).toNat)
  case atStart => exact ⟨0, 0, new0 c, new0 c, Nat.zero_le _, rfl, rfl, L5.out, N5.out, kept0 c HC.out, ⟨new0_inv c HC.out, Nat.zero_le _⟩, lshift_new c sh _, HW0.out, RB5.out, M5.out⟩
  case round =>
    obtain ⟨k, t, s, m, hk, rfl, rfl, hLr, hLm, hKr, hKm, hSr, hWd, hRr, hM⟩ := hrel
    have LR := Lib.hid hLr
    have LRm := Lib.hid hLm
    have HK := Lib.hid hKr
    have HKm := Lib.hid hKm
    have HSh := Lib.hid hSr
    have HW := Lib.hid hWd
    have RR := Lib.hid hRr
    have MR := Lib.hid hM
    by_cases hlt : k < n
    · obtain ⟨q, hq⟩ : ∃ q, l[k]? = some q := ⟨_, List.getElem?_eq_getElem (by have := HN.out; omega)⟩
      obtain ⟨b, off, rfl, hcells⟩ := GET.out k q hq
      have hk64 := KEY.out k q hq
      obtain ⟨x0, x1, x2, x3⟩ := hcells wr hM
      obtain ⟨gz, cz, key, pk⟩ := q
      simp only at x0 x1 x2 x3 hk64
      have HF := Lib.hid (hLr.ring.few.2)
      have CC := Lib.hid (Blk.new wr [.int .i64 gz, .int .i64 cz, .string ⟨key.toArray⟩, .bool pk] 35)
      have AC := Lib.hid ((Mod.refl [] wr).alloc (.cells #[.int .i64 gz, .int .i64 cz, .string ⟨key.toArray⟩, .bool pk] 35))
      have hrw : w3.heap.size < wr.heap.size := hRr.lt
      have hrw' : ¬ w3.heap.size = wr.heap.size := by omega
      have hti := hKr.time
      have rb0 := hRr.cell (i := 0) rfl
      have rb1 := hRr.cell (i := 1) rfl
      have rb2 := hRr.cell (i := 2) rfl
      have rb3 := hRr.cell (i := 3) rfl
      have rb4 := hRr.cell (i := 4) rfl
      have rb5 := hRr.cell (i := 5) rfl
      have rb6 := hRr.cell (i := 6) rfl
      have rb7 := hRr.cell (i := 7) rfl
      have rb8 := hRr.cell (i := 8) rfl
      have dk : decide ((k : Int) < (n : Int)) = true := by simp; omega
      obtain ⟨hk150, ht2⟩ := small_kt (show k ≤ 149 by omega) hti.2
      clear hLr hLm hKr hKm hSr hWd hRr hM hcells hq
      go_wp2_with fail
      refine (gap_any gz _).mono ?_
      rintro e5 w5 ⟨g, rfl, hg, rfl⟩
      go_wp2_with fail
      refine (CO.out cz _).mono ?_
      rintro e6 w6 ⟨n1, rfl, hn1, hM6⟩
      have MC6 := Lib.hid (AC.out.trans hM6)
      have RB6 := Lib.hid (MC6.out.blk RR.out (by simp))
      have CC6 := Lib.hid (hM6.blk CC.out (by simp))
      have cc2 := CC6.out.cell (i := 2) rfl
      have rb2' := RB6.out.cell (i := 2) rfl
      have hlim2 : c.r.limit ≤ 32 := by rw [HCR.out]; exact HLIM.out
      have hcb : c.r.burst = r2 := by rw [HCR.out]
      clear hM6 x0 x1 x2 x3 rb0 rb1 rb2 rb3 rb4 rb5 rb6 rb7 rb8
      obtain ⟨T, hT⟩ : ∃ T, t + g = T := ⟨_, rfl⟩
      have hTi : (t : Int) + (g : Int) = (T : Int) := by omega
      have hTb : T ≤ 300000 := by omega
      have hDb := HDB.out
      have hsT : s.ring.now ≤ T := by have := HK.out.time; omega
      have hst : c.step = 2 * c.r.limit.toNat + 1 := rfl
      have hkb : 65 * k ≤ 10000 := by omega
      have HFm := Lib.hid (LRm.out.ring.few.2)
      have hTD : ((T : Int) + (D : Int)) = ((T + D : Nat) : Int) := by omega
      have hw1 : 1 ≤ s.ring.width := by have := LR.out.ring.wide.1; exact this
      have hDs : D = sh * s.ring.width := by rw [HW.out]; exact HDS.out
      have hmT : m.ring.now ≤ T + D := by have := HKm.out.time; omega
      obtain ⟨KP0, KI0, KT0⟩ := HK.out.peek (by omega) hg 0 key (n1 : Int)
      have KC0 := HK.out.peekCheck HC.out hlim2 (by omega) HF.out hg hk64 hn1 (n1 : Int)
      rw [hT] at KP0 KI0 KT0 KC0
      have KM0 := HKm.out.peek (show t + D ≤ T + D by omega) (by omega) 0 key (n1 : Int)
      have PK0 := fun W (hL : LimAt W B c s) => peek_any hL HK.out.inv HC.out hsT 0 key (by omega) (n1 : Int)
      have PM0 := fun W (hL : LimAt W B2 c m) => peek_any hL HKm.out.inv HC.out hmT 0 key (by omega) (n1 : Int)
      obtain ⟨a1, a2⟩ := HSh.out.peek hDs HC.out HK.out.inv hw1 LR.out.pok (T := T) hsT hmT (by omega) key (n1 : Int)
      have hwp := width_peek (c := c) (s := s) (now := (T : Int)) (held := 0) (cost := (n1 : Int)) (key := key)
      have hshp1 : Shape c (peek c s (T : Int) 0 key (n1 : Int)).2.ring := by have h := LR.out.shape; unfold peek; split; exact h; exact ⟨h.len, h.lenN, h.each⟩
      have hshp2 : Shape c (peek c m ((T + D : Nat) : Int) 0 key (n1 : Int)).2.ring := by have h := LRm.out.shape; unfold peek; split; exact h; exact ⟨h.len, h.lenN, h.each⟩
      have hpk1 : PoolOk (peek c s (T : Int) 0 key (n1 : Int)).2.pool := by have h := LR.out.pok; unfold peek; split <;> exact h
      have hmst : (peek c m ((T + D : Nat) : Int) 0 key (n1 : Int)).2.ring.st.length ≤ 65 := by rw [width_peek.2]; exact HFm.out
      rw [hTD] at a1 a2
      rcases hpk : peek c s (T : Int) 0 key (n1 : Int) with ⟨⟨pv, pr, pt⟩, p⟩
      rcases hpm : peek c m ((T + D : Nat) : Int) 0 key (n1 : Int) with ⟨⟨qv, qr, qt⟩, pm⟩
      rw [hpk] at KP0 KI0 KT0 KC0 PK0 a1 a2 hwp hshp1 hpk1
      rw [hpm] at KM0 PM0 a1 a2 hshp2 hmst
      simp only at KP0 KI0 KT0 KC0 KM0 PK0 PM0 a1 a2 hwp hshp1 hshp2 hpk1 hmst
      simp only [Ans.mk.injEq] at a1
      obtain ⟨rfl, rfl, rfl⟩ := a1
      have CL0 := fun W (hL : LimAt W B c p) => check_any hL KI0 HC.out (by omega) KT0 0 key (by omega) (n1 : Int)
      have CM0 := fun W (hL : LimAt W B2 c pm) => check_any hL KM0.inv HC.out (by omega) KM0.time 0 key (by omega) (n1 : Int)
      have KN0 := KM0.check HC.out hlim2 (by omega) hmst 0 key (n1 : Int)
      have hDp : D = sh * p.ring.width := by rw [hwp.1]; exact hDs
      obtain ⟨c1, c2, c3⟩ := a2.check hDp HC.out KI0 (by rw [hwp.1]; exact hw1) (by rw [hwp.2]; exact HF.out) hshp1 hshp2 hpk1 (T := T) KT0 KM0.time (by omega) hk64 (n1 : Int) (by omega)
      rw [hTD] at c1 c2 c3
      have hwc := width_check (c := c) (s := p) (now := (T : Int)) (held := 0) (cost := (n1 : Int)) (key := key)
      rcases hcl : check c p (T : Int) 0 key (n1 : Int) with ⟨⟨av, ar, at_⟩, ev, s2⟩
      rcases hcm : check c pm ((T + D : Nat) : Int) 0 key (n1 : Int) with ⟨⟨bv, br, bt⟩, ev', m2⟩
      rw [hcl] at CL0 KC0 c1 c2 c3 hwc
      rw [hcm] at CM0 KN0 c1 c2 c3
      simp only at KC0 KN0 c1 c2 c3 hwc
      simp only [Ans.mk.injEq] at c1
      obtain ⟨rfl, rfl, rfl⟩ := c1
      have KC := Lib.hid KC0
      have KN := Lib.hid KN0
      have S2 := Lib.hid c3
      have W2 := Lib.hid (show s2.ring.width = A by rw [hwc, hwp.1]; exact HW.out)
      rw [← hTD] at PM0 CM0
      have PK := Lib.hid PK0
      have PM := Lib.hid PM0
      have CL := Lib.hid CL0
      have CM := Lib.hid CM0
      have HEL := Lib.hid c2
      have NCC := Lib.hid (show wr.heap.size ∉ B.all ∧ wr.heap.size ∉ B2.all from ⟨fun hb => by have := LR.out.lt _ hb; omega, fun hb => by have := LRm.out.lt _ hb; omega⟩)
      have ISC := Lib.hid (isC_of_blk CC6.out.drew)
      clear KP0 KI0 KT0 KC0 KM0 KN0 PK0 PM0 CL0 CM0 a2 c2 c3 hwp hwc hshp1 hshp2 hpk1 hmst hpk hpm hcl hcm hsT hmT hst hT hcb hlim2 rb2' hti hDs hDp hw1 hTD
      rw [hTi]
      clear hTi
      have L6 := Lib.hid (LR.out.mod0 MC6.out)
      have N6 := Lib.hid (LRm.out.mod0 MC6.out)
      go_wp2_with fail
      refine Go.YtndekdafiaogmaaLex.wp_region_held [6] [11] B.all (by kernel_rfl) (by kernel_rfl) ?_
      simp only [wpCut, List.take_succ_cons, List.take_zero, List.drop_succ_cons, List.drop_zero, List.cons_append, List.nil_append]
      go_wp2_with fail
      refine (PK.out _ (L6.out.mod0 (Mod.refl [] w6).drew)).mono ?_
      rintro e7 w7 ⟨rfl, hL7, hM7⟩
      have L7 := Lib.hid hL7
      have HM7 := Lib.hid hM7
      have N7 := Lib.hid ((N6.out.mod0 (Mod.refl [] w6).drew).mod hM7 AP21.out.1 AP21.out.2)
      have RB7 := Lib.hid (hM7.blk RB6.out.drew BLr.out.2.1)
      have CC7 := Lib.hid (hM7.blk CC6.out.drew NCC.out.1)
      have M7 := Lib.hid ((MR.out.trans MC6.out).drew.trans' hM7 (fun b hb => .inr (by have := BLr.out.1 b hb; omega)))
      have cc72 := CC7.out.cell (i := 2) rfl
      clear hL7 hM7 cc2
      simp only [Ans.val]
      go_wp2_with fail
      refine ⟨HM7.out, ?_⟩
      go_wp2_with fail
      refine (PM.out _ N7.out).mono ?_
      rintro e8 w8 ⟨rfl, hL8, hM8⟩
      have N8 := Lib.hid hL8
      have L8 := Lib.hid (L7.out.mod hM8 AP12.out.1 AP12.out.2)
      have RB8 := Lib.hid (hM8.blk RB7.out BLr.out.2.2.2)
      have CC8 := Lib.hid (hM8.blk CC7.out NCC.out.2)
      have M8 := Lib.hid (M7.out.trans' hM8 (fun b hb => .inr (by have := BLr.out.2.2.1 b hb; omega)))
      have cc82 := CC8.out.cell (i := 2) rfl
      clear hL8 hM8 cc72
      go_wp2_with fail
      refine ⟨by kernel_rfl, ⟨⟨NCC.out.1, ISC.out⟩, trivial⟩, ?_⟩
      go_wp2_with fail
      refine (CL.out _ L8.out).mono ?_
      rintro e9 w9 ⟨v9, rfl, hO9, hL9, hM9⟩
      obtain ⟨a9, c9, rfl⟩ := hO9.slice
      have L9 := Lib.hid hL9
      have N9 := Lib.hid (N8.out.mod hM9 AP21.out.1 AP21.out.2)
      have RB9 := Lib.hid (hM9.blk RB8.out BLr.out.2.1)
      have CC9 := Lib.hid (hM9.blk CC8.out NCC.out.1)
      have AN9 := Lib.hid (Blk.new w9 [.int .i64 bv, .int .i64 br, .int .i64 bt] 39)
      have M9 := Lib.hid (M8.out.trans' hM9 (fun b hb => .inr (by have := BLr.out.1 b hb; omega)))
      have cc92 := CC9.out.cell (i := 2) rfl
      have lt9 : wr.heap.size < w9.heap.size := CC9.out.lt
      have lt9' : ¬ wr.heap.size = w9.heap.size := by omega
      have NW9 := Lib.hid (show w9.heap.size ∉ B2.all from fun hb => by have := N9.out.lt _ hb; omega)
      clear hO9 hL9 hM9 cc82
      go_wp2_with fail
      refine (CM.out _ (N9.out.mod0 ((Mod.refl [] w9).alloc _))).mono ?_
      rintro e10 w10 ⟨v10, rfl, hO10, hL10, hM10⟩
      obtain ⟨a10, c10, rfl⟩ := hO10.slice
      rw [HEL.out]
      have N10 := Lib.hid hL10
      have L10 := Lib.hid ((L9.out.mod0 ((Mod.refl [] w9).alloc _)).mod hM10 AP12.out.1 AP12.out.2)
      have RB10 := Lib.hid (hM10.blk (RB9.out.alloc _) BLr.out.2.2.2)
      have M10 := Lib.hid ((M9.out.alloc _).trans' hM10 (fun b hb => .inr (by have := BLr.out.2.2.1 b hb; omega)))
      have an0 := (hM10.blk AN9.out NW9.out).cell (i := 0) rfl
      have an1 := (hM10.blk AN9.out NW9.out).cell (i := 1) rfl
      have an2 := (hM10.blk AN9.out NW9.out).cell (i := 2) rfl
      have lt10 : w9.heap.size < w10.heap.size := (hM10.blk AN9.out NW9.out).lt
      have lt10' : ¬ w9.heap.size = w10.heap.size := by omega
      clear hO10 hL10 hM10 cc92
      generalize ev.length = le at *
      go_wp2_with fail
      go_roundw
      case rel => exact ⟨k + 1, T, s2, m2, by omega, by go_num, rfl, L10.out.mod0 ((Mod.refl [] w10).alloc _), N10.out.mod0 ((Mod.refl [] w10).alloc _), KC.out, KN.out, S2.out, W2.out, RB10.out.alloc _, M10.out.alloc _⟩
      case measure => simp [intOf]; omega
    · obtain rfl : k = n := by omega
      have dk : decide ((k : Int) < (k : Int)) = false := by simp
      clear hLr hLm hKr hKm hSr hWd hRr hM
      go_wp2_with fail
      have TV := totV_shift HSh.out
      go_wp2_with fail
      refine (totals_any LR.out).mono ?_
      rintro e5 w5 ⟨rfl, hM5⟩
      have N5 := Lib.hid (LRm.out.mod0 hM5)
      have M5 := Lib.hid (MR.out.trans hM5)
      clear hM5
      go_wp2_with fail
      refine (totals_any N5.out).mono ?_
      rintro e6 w6 ⟨rfl, hM6⟩
      rw [TV]
      unfold totV
      have M6 := Lib.hid (M5.out.trans hM6)
      clear hM6 TV
      go_wp2_with fail
      go_ret
      exact ⟨rfl, M6.out⟩
theorem shift_law (w : World) (p : Plan) (shf : Int) (hshf : (Lit.int .i64 shf).wf = true) (a : Option Addr) (cp : Nat) (l : List Call) (hm : l.length ≤ maxLen) (hP : InRow w a 4 Call.cells l) :
    Calls Try.prog 10 #[p.val, .int .i64 shf, .slice a l.length cp] w fun e w' => e = .returned (.bool true) ∧ Mod [] w w' := by
  cases hL : lightB l with
  | true => exact shift_main w p shf a cp l hm hP hL
  | false =>
    have LI := Lib.hid (fun W (hM : Mod [] w W) => light_any (inrow_mod hP hM) hm cp)
    rw [hL] at LI
    obtain ⟨p0, p1, p2, p3, p4, p5, p6, p7, p8⟩ := p
    simp only [Plan.val] at *
    have M0 := Lib.hid ((Mod.refl [] w).alloc (.cells #[.int .i64 p0, .int .i64 p1, .int .i64 p2, .int .i64 p3, .int .i64 p4, .int .i64 p5, .int .i64 p6, .int .i64 p7, .bool p8] 23))
    clear hP hm hL
    generalize l.length = n at *
    go_enter Try.func10, Try.ntmps10
    go_wp2_with fail
    refine (fit_any _).mono ?_
    rintro e1 w1 ⟨rfl, hM1⟩
    have M1 := Lib.hid (M0.out.trans hM1)
    clear hM1
    go_wp2_with fail
    refine (LI.out _ M1.out).mono ?_
    rintro e2 w2 ⟨rfl, hM2⟩
    go_wp2_with fail
    go_ret
    exact ⟨rfl, M1.out.trans hM2⟩
end Go.Proofs.Ytndekdafiaogmaa.Lim
end
