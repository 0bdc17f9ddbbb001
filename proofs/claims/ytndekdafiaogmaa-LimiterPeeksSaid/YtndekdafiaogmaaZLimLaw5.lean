/- limiter's laws: LimiterPeeks. No condition. (written by wip/tools) -/
import Derived.Test.YtndekdafiaogmaaZLimAlike
import Derived.Test.YtndekdafiaogmaaZLimD
section
namespace Go.Proofs.Ytndekdafiaogmaa.Lim
open Go Go.RowKit Go.YtndekdafiaogmaaMem Go.YtndekdafiaogmaaLex Go.Proofs.Ytndekdafiaogmaa.Hash Go.Proofs.Ytndekdafiaogmaa.Arith Go.Proofs.Ytndekdafiaogmaa.Index Go.Proofs.Ytndekdafiaogmaa.Cell Go.Proofs.Ytndekdafiaogmaa.Slot
open Go.Proofs.Ytndekdafiaogmaa.Pool (PS putP remP pairs PB PoolAt firstIdle)
open Go.Proofs.Ytndekdafiaogmaa.Ring (Rs RiB RingAt estS addR waitS massS Small small_get leastV leastV_small ring0)
open Go.Proofs.Ytndekdafiaogmaa.Sum (Ent OkE SB SumAt countE leastOf)
set_option linter.unusedVariables false
set_option linter.unusedSimpArgs false

theorem Kept.to {c : Cf} {s : Lm} {k now : Nat} (h : Kept c s k now) (hk : k < 150) {g : Nat} (hg : g ≤ 1023) : Kept c (s.to ((now + g : Nat) : Int)) (k + 1) (now + g) := by
  have h1 := h.time
  have h2 := h.t
  obtain ⟨j1, j2⟩ := h.inv.to (now := now + g) (by omega) (by omega)
  exact ⟨j1.mono (by omega) (by omega), ⟨by omega, by omega⟩, ⟨h2.1, by show s.t ≤ _; omega⟩, h.len⟩
/-- Behind a peek. -/
theorem Kept.peek {c : Cf} {s : Lm} {k now : Nat} (h : Kept c s k now) (hk : k < 150) {g : Nat} (hg : g ≤ 1023) (held : Int) (key : List UInt8) (cost : Int) :
    Kept c (Lim.peek c s ((now + g : Nat) : Int) held key cost).2 (k + 1) (now + g) ∧ Inv c (Lim.peek c s ((now + g : Nat) : Int) held key cost).2 (65 * k) ∧ (Lim.peek c s ((now + g : Nat) : Int) held key cost).2.ring.now ≤ now + g := by
  have h1 := h.time
  unfold Lim.peek
  split
  · exact ⟨h.skip hk hg, h.inv, by simp only; omega⟩
  · obtain ⟨j1, j2⟩ := h.inv.to (now := now + g) (by omega) (by omega)
    exact ⟨h.to hk hg, j1, by simp only; omega⟩
theorem Kept.peekCheck {c : Cf} {s : Lm} {k now : Nat} (h : Kept c s k now) (hc : c.Ok) (hl : c.r.limit ≤ 32) (hk : k < 150) (hf : s.ring.st.length ≤ 65) {g : Nat} (hg : g ≤ 1023) {key : List UInt8} (hkey : key.length ≤ 64) {n : Nat} (hn : n ≤ 63) (pc : Int) :
    Kept c (Lim.check c (Lim.peek c s ((now + g : Nat) : Int) 0 key pc).2 ((now + g : Nat) : Int) 0 key n).2.2 (k + 1) (now + g) := by
  unfold Lim.peek
  split
  · exact h.check hc hl hk hf hg 0 hkey hn
  · exact h.both hc hl hk hf hg hkey hn
theorem check_evs {c : Cf} {s : Lm} {now held cost : Int} {key : List UInt8} : (check c s now held key cost).2.1.length ≤ 2 := by
  unfold check
  split
  · simp
  · simp only
    unfold settle
    split
    · simp
    · split
      · split <;> simp
      · simp
theorem totV_near {s m : Lm} {now : Nat} (h : Near s m now) : totV s = totV m := by
  obtain ⟨h1, h2, h3, h4, h5, h6⟩ := h.pool
  unfold totV
  rw [h1, h3, h4, h5, h6]
set_option maxRecDepth 8000 in
set_option maxHeartbeats 12800000 in
theorem peeks_main (w : World) (p : Plan) (v : Value) (ds : List Nat) (hd : Sl w v (v64 ds)) (hdx : ∀ x, x ∈ ds → x < 18446744073709551616) (hd60 : ds.length ≤ 60) (a : Option Addr) (cp : Nat) (l : List Call) (hm : l.length ≤ maxLen) (hP : InRow w a 4 Call.cells l) (hL : lightB l = true) :
    Calls Try.prog 12 #[p.val, v, .slice a l.length cp] w fun e w' => e = .returned (.bool true) ∧ Mod [] w w' := by
  obtain ⟨hl150, hkeys⟩ := light_spec hL
  obtain ⟨hro, hlim⟩ := rule_ok p
  have LI := Lib.hid (fun W (hM : Mod [] w W) => light_any (inrow_mod hP hM) hm cp)
  rw [hL] at LI
  have GET := Lib.hid (fun j q (hq : l[j]? = some q) => inrow_get hP hq)
  have KEY := Lib.hid (fun j q (hq : l[j]? = some q) => hkeys q (List.mem_of_getElem? hq))
  have RU := Lib.hid (fun W : World => rule_any p W)
  have hrg0 : RingOf (cfOf p.rule ds) (new0 (cfOf p.rule ds)).ring := ring_of0 (rule_ok p).1
  obtain ⟨r, hr⟩ : ∃ r, p.rule = r := ⟨_, rfl⟩
  rw [hr] at RU hro hlim hrg0
  have HRO := Lib.hid hro
  have NW := Lib.hid (fun (W : World) (hM : Mod [] w W) => new_any (hd.mod hM (by simp)) hdx r hro)
  have CO := Lib.hid (fun z (W : World) => cost_any r (by have := hro.burst; omega) z W)
  obtain ⟨c, hc⟩ : ∃ c, cfOf r ds = c := ⟨_, rfl⟩
  have hcr : c.r = r := by rw [← hc]; rfl
  have HCR := Lib.hid hcr
  have HC := Lib.hid (show c.Ok by rw [← hc]; exact hro.cf ds)
  rw [hc] at NW hrg0
  have HG0 := Lib.hid hrg0
  have HLIM := Lib.hid hlim
  have hbur := hro.burst
  obtain ⟨da, dc, rfl⟩ := sl_slice hd
  have hdl : (v64 ds).length = ds.length := by simp [v64]
  rw [hdl] at NW ⊢
  obtain ⟨p0, p1, p2, p3, p4, p5, p6, p7, p8⟩ := p
  obtain ⟨r0, r1, r2, r3, r4, r5, r6, r7, r8⟩ := r
  simp only [Plan.val, Rule.val] at *
  have PB0 := Lib.hid (Blk.new w [.int .i64 p0, .int .i64 p1, .int .i64 p2, .int .i64 p3, .int .i64 p4, .int .i64 p5, .int .i64 p6, .int .i64 p7, .bool p8] 23)
  have M0 := Lib.hid ((Mod.refl [] w).alloc (.cells #[.int .i64 p0, .int .i64 p1, .int .i64 p2, .int .i64 p3, .int .i64 p4, .int .i64 p5, .int .i64 p6, .int .i64 p7, .bool p8] 23))
  obtain ⟨n, hn⟩ : ∃ n, l.length = n := ⟨_, rfl⟩
  have HN := Lib.hid hn
  rw [hn] at LI hl150 ⊢
  obtain ⟨dn, hdn⟩ : ∃ dn, ds.length = dn := ⟨_, rfl⟩
  rw [hdn] at hd60 NW ⊢
  have d60 : decide ((60 : Int) < (dn : Int)) = false := by simp; omega
  clear hP hm hL hkeys hro hr hc hcr hlim hn hrg0 hd hdx hdl hdn
  go_enter Try.func12, Try.ntmps12
  go_wp2_with fail
  refine (fit_any _).mono ?_
  rintro e1 w1 ⟨rfl, hM1⟩
  have M1 := Lib.hid (M0.out.trans hM1)
  have PB1 := Lib.hid (hM1.blk PB0.out (by simp))
  clear hM1
  go_wp2_with fail
  refine (LI.out _ M1.out).mono ?_
  rintro e2 w2 ⟨rfl, hM2⟩
  have M2 := Lib.hid (M1.out.trans hM2)
  have PB2 := Lib.hid (hM2.blk PB1.out (by simp))
  have b0 := PB2.out.cell (i := 0) rfl
  have b1 := PB2.out.cell (i := 1) rfl
  have b2 := PB2.out.cell (i := 2) rfl
  have b3 := PB2.out.cell (i := 3) rfl
  have b4 := PB2.out.cell (i := 4) rfl
  have b5 := PB2.out.cell (i := 5) rfl
  have b6 := PB2.out.cell (i := 6) rfl
  have b7 := PB2.out.cell (i := 7) rfl
  have b8 := PB2.out.cell (i := 8) rfl
  clear hM2
  go_wp2_with fail
  refine (RU.out _).mono ?_
  rintro e3 w3 ⟨rfl, hM3⟩
  have M3 := Lib.hid (M2.out.trans hM3)
  have RB3 := Lib.hid (Blk.new w3 [.int .i64 r0, .int .i64 r1, .int .i64 r2, .int .i64 r3, .int .i64 r4, .int .i64 r5, .int .i64 r6, .int .i64 r7, .bool r8] 29)
  have A3 := Lib.hid ((Mod.refl [] w3).alloc (.cells #[.int .i64 r0, .int .i64 r1, .int .i64 r2, .int .i64 r3, .int .i64 r4, .int .i64 r5, .int .i64 r6, .int .i64 r7, .bool r8] 29))
  have hlt3 : w.heap.size < w3.heap.size := (hM3.blk PB2.out (by simp)).lt
  clear hM3 b0 b1 b2 b3 b4 b5 b6 b7 b8
  simp only [Rule.val]
  go_wp2_with fail
  refine Go.YtndekdafiaogmaaLex.wp_region_held [3] [3] [] (by kernel_rfl) (by kernel_rfl) ?_
  simp only [wpCut, List.take_succ_cons, List.take_zero, List.drop_succ_cons, List.drop_zero, List.cons_append, List.nil_append]
  go_wp2_with fail
  have HIS := Lib.hid (isC_of_blk RB3.out.drew)
  refine (NW.out _ ((M3.out.trans A3.out).drew)).mono ?_
  rintro e4 w4 ⟨B, rfl, hL4, hB4, hrb4, hM4⟩
  have RB4 := Lib.hid (hM4.blk RB3.out.drew (by simp))
  have M4 := Lib.hid ((M3.out.trans A3.out).drew.trans hM4)
  have L4 := Lib.hid hL4
  have HB4 := Lib.hid hB4
  have HM4 := Lib.hid hM4
  have HRB4 := Lib.hid hrb4
  have HQ4 := Lib.hid (show B.Q.rb < w4.heap.size from (hL4.ring.each 0 (by have := hL4.ring.few.1; omega)).rows.1)
  clear hL4 hB4 hrb4 hM4
  go_wp2_with fail
  refine ⟨HM4.out, ?_⟩
  have rz0 := RB4.out.cell (i := 0) rfl
  have rz1 := RB4.out.cell (i := 1) rfl
  have rz2 := RB4.out.cell (i := 2) rfl
  have rz3 := RB4.out.cell (i := 3) rfl
  have rz4 := RB4.out.cell (i := 4) rfl
  have rz5 := RB4.out.cell (i := 5) rfl
  have rz6 := RB4.out.cell (i := 6) rfl
  have rz7 := RB4.out.cell (i := 7) rfl
  have rz8 := RB4.out.cell (i := 8) rfl
  go_wp2_with fail
  refine (NW.out _ M4.out).mono ?_
  rintro e5 w5 ⟨B2, rfl, hL5, hB5, hrb5, hM5⟩
  have RB5 := Lib.hid (hM5.blk RB4.out (by simp))
  have M5 := Lib.hid (M4.out.trans hM5)
  have L5 := Lib.hid (L4.out.mod0 hM5)
  have N5 := Lib.hid hL5
  have BLr := Lib.hid (show (∀ b, b ∈ B.all → w.heap.size < b) ∧ w3.heap.size ∉ B.all ∧ (∀ b, b ∈ B2.all → w.heap.size < b) ∧ w3.heap.size ∉ B2.all from by
    have h3 : w3.heap.size + 1 ≤ ((w3.alloc (.cells #[.int .i64 r0, .int .i64 r1, .int .i64 r2, .int .i64 r3, .int .i64 r4, .int .i64 r5, .int .i64 r6, .int .i64 r7, .bool r8] 29)).drew).heap.size := by simp
    have h4 : ((w3.alloc (.cells #[.int .i64 r0, .int .i64 r1, .int .i64 r2, .int .i64 r3, .int .i64 r4, .int .i64 r5, .int .i64 r6, .int .i64 r7, .bool r8] 29)).drew).heap.size ≤ w4.heap.size := HM4.out.size
    exact ⟨fun b hb => by have := HB4.out b hb; omega, fun hb => by have := HB4.out _ hb; omega, fun b hb => by have := hB5 b hb; omega, fun hb => by have := hB5 _ hb; omega⟩)
  have AP12 := Lib.hid (show (∀ b, b ∈ B.all → b ∉ B2.all) ∧ B.Q.rb ∉ B2.all from ⟨fun b hb hb' => by have := hB5 b hb'; have := L4.out.lt b hb; omega, fun hb' => by have := hB5 _ hb'; have := HQ4.out; omega⟩)
  have AP21 := Lib.hid (show (∀ b, b ∈ B2.all → b ∉ B.all) ∧ B2.Q.rb ∉ B.all from ⟨fun b hb hb' => by have := hB5 b hb; have := L4.out.lt b hb'; omega, fun hb' => by have := L4.out.lt _ hb'; omega⟩)
  clear hL5 hB5 hrb5 hM5 rz0 rz1 rz2 rz3 rz4 rz5 rz6 rz7 rz8
  go_wp2_with fail
  refine ⟨by kernel_rfl, ⟨⟨by simp, HIS.out⟩, trivial⟩, ?_⟩
  go_wp2_with fail
  go_loopw [10, 41] (fun now i W => ∃ (k t : Nat) (s m : Lm), k ≤ n ∧ i = .int .i64 (k : Int) ∧ now = .int .i64 (t : Int) ∧ LimAt W B c s ∧ LimAt W B2 c m ∧ Kept c s k t ∧ Kept c m k t ∧ Near s m t ∧ Blk W w3.heap.size 29 [.int .i64 r0, .int .i64 r1, .int .i64 r2, .int .i64 r3, .int .i64 r4, .int .i64 r5, .int .i64 r6, .int .i64 r7, .bool r8] ∧ Mod [] w W) (fun _ i _ => n - (intOf i).toNat)
  case atStart => exact ⟨0, 0, new0 c, new0 c, Nat.zero_le _, rfl, rfl, L5.out, N5.out, kept0 c HC.out, kept0 c HC.out, Near.refl _ _, RB5.out, M5.out⟩
  case round =>
    obtain ⟨k, t, s, m, hk, rfl, rfl, hLr, hLm, hKr, hKm, hNr, hRr, hM⟩ := hrel
    have LR := Lib.hid hLr
    have LRm := Lib.hid hLm
    have HK := Lib.hid hKr
    have HKm := Lib.hid hKm
    have HNr := Lib.hid hNr
    have RR := Lib.hid hRr
    have MR := Lib.hid hM
    by_cases hlt : k < n
    · obtain ⟨q, hq⟩ : ∃ q, l[k]? = some q := ⟨_, List.getElem?_eq_getElem (by have := HN.out; omega)⟩
      obtain ⟨b, off, rfl, hcells⟩ := GET.out k q hq
      have hk64 := KEY.out k q hq
      obtain ⟨x0, x1, x2, x3⟩ := hcells wr hM
      obtain ⟨gz, cz, key, pk⟩ := q
      simp only at x0 x1 x2 x3 hk64
      have HF := Lib.hid (hLr.ring.few.2)
      have CC := Lib.hid (Blk.new wr [.int .i64 gz, .int .i64 cz, .string ⟨key.toArray⟩, .bool pk] 35)
      have AC := Lib.hid ((Mod.refl [] wr).alloc (.cells #[.int .i64 gz, .int .i64 cz, .string ⟨key.toArray⟩, .bool pk] 35))
      have hrw : w3.heap.size < wr.heap.size := hRr.lt
      have hrw' : ¬ w3.heap.size = wr.heap.size := by omega
      have hti := hKr.time
      have rb0 := hRr.cell (i := 0) rfl
      have rb1 := hRr.cell (i := 1) rfl
      have rb2 := hRr.cell (i := 2) rfl
      have rb3 := hRr.cell (i := 3) rfl
      have rb4 := hRr.cell (i := 4) rfl
      have rb5 := hRr.cell (i := 5) rfl
      have rb6 := hRr.cell (i := 6) rfl
      have rb7 := hRr.cell (i := 7) rfl
      have rb8 := hRr.cell (i := 8) rfl
      have dk : decide ((k : Int) < (n : Int)) = true := by simp; omega
      obtain ⟨hk150, ht2⟩ := small_kt (show k ≤ 149 by omega) hti.2
      clear hLr hLm hKr hKm hNr hRr hM hcells hq
      go_wp2_with fail
      refine (gap_any gz _).mono ?_
      rintro e5 w5 ⟨g, rfl, hg, rfl⟩
      go_wp2_with fail
      refine (CO.out cz _).mono ?_
      rintro e6 w6 ⟨n1, rfl, hn1, hM6⟩
      have MC6 := Lib.hid (AC.out.trans hM6)
      have RB6 := Lib.hid (MC6.out.blk RR.out (by simp))
      have CC6 := Lib.hid (hM6.blk CC.out (by simp))
      have cc2 := CC6.out.cell (i := 2) rfl
      have rb2' := RB6.out.cell (i := 2) rfl
      have hlim2 : c.r.limit ≤ 32 := by rw [HCR.out]; exact HLIM.out
      have hcb : c.r.burst = r2 := by rw [HCR.out]
      clear hM6 x0 x1 x2 x3 rb0 rb1 rb2 rb3 rb4 rb5 rb6 rb7 rb8
      obtain ⟨T, hT⟩ : ∃ T, t + g = T := ⟨_, rfl⟩
      have hTi : (t : Int) + (g : Int) = (T : Int) := by omega
      have hTb : T ≤ 300000 := by omega
      have hsT : s.ring.now ≤ T := by have := HK.out.time; omega
      have hmT : m.ring.now ≤ T := by have := HKm.out.time; omega
      have hst : c.step = 2 * c.r.limit.toNat + 1 := rfl
      have HFm := Lib.hid (LRm.out.ring.few.2)
      obtain ⟨KP0, KI0, KT0⟩ := HK.out.peek (by omega) hg 0 key (n1 : Int)
      have KC0 := HK.out.peekCheck HC.out hlim2 (by omega) HF.out hg hk64 hn1 (n1 : Int)
      have KM0 := HKm.out.check HC.out hlim2 (by omega) HFm.out hg 0 hk64 hn1
      have KMs := HKm.out.skip (by omega) hg
      rw [hT] at KP0 KI0 KT0 KC0 KM0 KMs
      have NP0 := ((HNr.out).later (show t ≤ T by omega)).peek (c := c) 0 key (n1 : Int)
      have PK0 := fun W (hL : LimAt W B c s) => peek_any hL HK.out.inv HC.out hsT 0 key (by omega) (n1 : Int)
      have PC0 := fun i0 (hp : placeOf s.pool.S key = some i0) => peek_check HK.out.inv HC.out hsT (held := 0) (key := key) (cost := (n1 : Int)) hp
      have NS0 := (Near.refl s T).peek (c := c) 0 key (n1 : Int)
      rcases hpk : peek c s (T : Int) 0 key (n1 : Int) with ⟨⟨pv, pr, pt⟩, p⟩
      rw [hpk] at KP0 KI0 KT0 KC0 NP0 PK0 PC0 NS0
      simp only at KP0 KI0 KT0 KC0 NP0 PK0 PC0 NS0
      have hkb : 65 * k ≤ 10000 := by omega
      have CL0 := fun W (hL : LimAt W B c p) => check_any hL KI0 HC.out (by omega) KT0 0 key (by omega) (n1 : Int)
      have CM0 := fun W (hL : LimAt W B2 c m) => check_any hL HKm.out.inv HC.out (by omega) hmT 0 key (by omega) (n1 : Int)
      obtain ⟨q1, q2, q3⟩ := NP0.check (c := c) 0 key (n1 : Int)
      obtain ⟨u1, u2, u3⟩ := NS0.check (c := c) 0 key (n1 : Int)
      have hpp := NS0.pool.1
      have hev2 := check_evs (c := c) (s := p) (now := (T : Int)) (held := 0) (cost := (n1 : Int)) (key := key)
      rw [← u1, ← hpp] at PC0
      rcases hcl : check c p (T : Int) 0 key (n1 : Int) with ⟨⟨av, ar, at_⟩, ev, s2⟩
      rcases hcm : check c m (T : Int) 0 key (n1 : Int) with ⟨⟨bv, br, bt⟩, ev', m2⟩
      rw [hcl] at CL0 q1 q2 q3 KC0 PC0 hev2
      rw [hcm] at CM0 q1 q2 q3 KM0
      simp only at q1 q2 q3 KC0 KM0 PC0 hev2
      simp only [Ans.mk.injEq] at q1
      obtain ⟨rfl, rfl, rfl⟩ := q1
      subst q2
      have KP := Lib.hid KP0
      have KC := Lib.hid KC0
      have KM := Lib.hid KM0
      have KMS := Lib.hid KMs
      have NP := Lib.hid NP0
      have N2 := Lib.hid q3
      have PK := Lib.hid PK0
      have PC := Lib.hid PC0
      have CL := Lib.hid CL0
      have CM := Lib.hid CM0
      have HEV := Lib.hid hev2
      have RS := Lib.hid (fun W (hL : LimAt W B c p) => resident_any hL key (by omega))
      have NCC := Lib.hid (show wr.heap.size ∉ B.all ∧ wr.heap.size ∉ B2.all from ⟨fun hb => by have := LR.out.lt _ hb; omega, fun hb => by have := LRm.out.lt _ hb; omega⟩)
      clear KP0 KI0 KT0 KC0 KM0 KMs NP0 PK0 PC0 NS0 CL0 CM0 q3 u1 u2 u3 hpp hpk hcl hcm hsT hmT hst hT hcb hlim2 rb2' hti hev2
      rw [hTi]
      clear hTi
      have L6 := Lib.hid (LR.out.mod0 MC6.out)
      have N6 := Lib.hid (LRm.out.mod0 MC6.out)
      go_wp2_with fail
      refine (PK.out _ L6.out).mono ?_
      rintro e7 w7 ⟨rfl, hL7, hM7⟩
      have L7 := Lib.hid hL7
      have N7 := Lib.hid (N6.out.mod hM7 AP21.out.1 AP21.out.2)
      have RB7 := Lib.hid (hM7.blk RB6.out BLr.out.2.1)
      have CC7 := Lib.hid (hM7.blk CC6.out NCC.out.1)
      have PN7 := Lib.hid (Blk.new w7 [.int .i64 pv, .int .i64 pr, .int .i64 pt] 39)
      have M7 := Lib.hid ((MR.out.trans MC6.out).trans' hM7 (fun b hb => .inr (by have := BLr.out.1 b hb; omega)))
      have cc72 := CC7.out.cell (i := 2) rfl
      have lt7 : wr.heap.size < w7.heap.size := CC7.out.lt
      have lt7' : ¬ wr.heap.size = w7.heap.size := by omega
      clear hL7 hM7 cc2
      simp only [Ans.val]
      obtain ⟨th, xc, hres⟩ : ∃ (th : Bool) (xc : Cell), resV p key = .tuple #[xc.val, .bool th] ∧ (th = true → ∃ i0, placeOf p.pool.S key = some i0) := by
        unfold resV
        cases hp : placeOf p.pool.S key with
        | some i0 => exact ⟨true, _, rfl, fun _ => ⟨i0, rfl⟩⟩
        | none => exact ⟨false, _, rfl, fun h => by cases h⟩
      have HTH := Lib.hid hres.2
      have hre := hres.1
      rw [hre] at RS
      clear hre hres
      obtain ⟨xc0, xc1, xc2, xc3⟩ := xc
      go_wp2_with fail
      refine (RS.out _ (L7.out.mod0 ((Mod.refl [] w7).alloc _))).mono ?_
      rintro e8 w8 ⟨rfl, hM8⟩
      have L8 := Lib.hid ((L7.out.mod0 ((Mod.refl [] w7).alloc _)).mod0 hM8)
      have N8 := Lib.hid ((N7.out.mod0 ((Mod.refl [] w7).alloc _)).mod0 hM8)
      have RB8 := Lib.hid (hM8.blk (RB7.out.alloc _) (by simp))
      have CC8 := Lib.hid (hM8.blk (CC7.out.alloc _) (by simp))
      have PN8 := Lib.hid (hM8.blk PN7.out (by simp))
      have M8 := Lib.hid ((M7.out.alloc _).trans hM8)
      have cc82 := CC8.out.cell (i := 2) rfl
      have cc83 := CC8.out.cell (i := 3) rfl
      have lt8 : wr.heap.size < w8.heap.size := CC8.out.lt
      have lt8' : ¬ wr.heap.size = w8.heap.size := by omega
      clear hM8 cc72
      simp only [Cell.val]
      cases pk with
      | true =>
        go_wp2_with fail
        go_roundw
        case rel => exact ⟨k + 1, T, p, m, by omega, by go_num, rfl, L8.out.mod0 ((Mod.refl [] w8).alloc _), N8.out.mod0 ((Mod.refl [] w8).alloc _), KP.out, KMS.out, NP.out, RB8.out.alloc _, M8.out.alloc _⟩
        case measure => simp [intOf]; omega
      | false =>
        have NW8 := Lib.hid (show w7.heap.size ∉ B.all ∧ w7.heap.size ∉ B2.all from ⟨fun hb => by have := L7.out.lt _ hb; omega, fun hb => by have := N7.out.lt _ hb; omega⟩)
        go_wp2_with fail
        refine (CL.out _ (L8.out.mod0 ((Mod.refl [] w8).alloc _))).mono ?_
        rintro e9 w9 ⟨v9, rfl, hO9, hL9, hM9⟩
        obtain ⟨a9, c9, rfl⟩ := hO9.slice
        have O9 := Lib.hid hO9
        have L9 := Lib.hid hL9
        have N9 := Lib.hid ((N8.out.mod0 ((Mod.refl [] w8).alloc _)).mod hM9 AP21.out.1 AP21.out.2)
        have RB9 := Lib.hid (hM9.blk (RB8.out.alloc _) BLr.out.2.1)
        have CC9 := Lib.hid (hM9.blk (CC8.out.alloc _) NCC.out.1)
        have PN9 := Lib.hid (hM9.blk (PN8.out.alloc _) NW8.out.1)
        have AN9 := Lib.hid (Blk.new w9 [.int .i64 av, .int .i64 ar, .int .i64 at_] 39)
        have M9 := Lib.hid ((M8.out.alloc _).trans' hM9 (fun b hb => .inr (by have := BLr.out.1 b hb; omega)))
        have HB28 := Lib.hid (show ∀ b, b ∈ B2.all → b < (w8.alloc (.cells #[.int .i64 xc0, .int .i64 xc1, .int .i64 xc2, .int .i64 xc3] 56)).heap.size from fun b hb => by have := N8.out.lt b hb; simp; omega)
        have cc92 := CC9.out.cell (i := 2) rfl
        have lt9 : wr.heap.size < w9.heap.size := CC9.out.lt
        have lt9' : ¬ wr.heap.size = w9.heap.size := by omega
        have NW9 := Lib.hid (show w9.heap.size ∉ B.all ∧ w9.heap.size ∉ B2.all from ⟨fun hb => by have := L9.out.lt _ hb; omega, fun hb => by have := N9.out.lt _ hb; omega⟩)
        clear hO9 hL9 hM9 cc82 cc83
        simp only [Ans.val]
        go_wp2_with fail
        refine (CM.out _ (N9.out.mod0 ((Mod.refl [] w9).alloc _))).mono ?_
        rintro e10 w10 ⟨v10, rfl, hO10, hL10, hM10⟩
        obtain ⟨a10, c10, rfl⟩ := hO10.slice
        have P10 := Lib.hid (OwnE.mod hO10 ((Mod.refl [] w10).alloc (.cells #[.int .i64 av, .int .i64 ar, .int .i64 at_] 39)) (by simp))
        have O10 := Lib.hid ((O9.out.mod ((Mod.refl [] w9).alloc (.cells #[.int .i64 av, .int .i64 ar, .int .i64 at_] 39)) (by simp)).mod hM10 HB28.out)
        have O10' := Lib.hid (O10.out.mod ((Mod.refl [] w10).alloc (.cells #[.int .i64 av, .int .i64 ar, .int .i64 at_] 39)) (by simp))
        have N10 := Lib.hid hL10
        have L10 := Lib.hid ((L9.out.mod0 ((Mod.refl [] w9).alloc _)).mod hM10 AP12.out.1 AP12.out.2)
        have RB10 := Lib.hid (hM10.blk (RB9.out.alloc _) BLr.out.2.2.2)
        have PN10 := Lib.hid ((hM10.blk (PN9.out.alloc _) NW8.out.2).alloc (.cells #[.int .i64 av, .int .i64 ar, .int .i64 at_] 39))
        have AN10 := Lib.hid ((hM10.blk AN9.out NW9.out.2).alloc (.cells #[.int .i64 av, .int .i64 ar, .int .i64 at_] 39))
        have M10 := Lib.hid ((M9.out.alloc _).trans' hM10 (fun b hb => .inr (by have := BLr.out.2.2.1 b hb; omega)))
        have an0 := (hM10.blk AN9.out NW9.out.2).cell (i := 0) rfl
        have an1 := (hM10.blk AN9.out NW9.out.2).cell (i := 1) rfl
        have an2 := (hM10.blk AN9.out NW9.out.2).cell (i := 2) rfl
        have lt10 : w9.heap.size < w10.heap.size := (hM10.blk AN9.out NW9.out.2).lt
        have lt10' : ¬ w9.heap.size = w10.heap.size := by omega
        have ALK := Lib.hid (alike_any O10'.out P10.out (by have := HEV.out; omega))
        clear hO10 hL10 hM10 cc92
        simp only [Ans.val]
        go_wp2_with fail
        refine ALK.out.mono ?_
        rintro e11 w11 ⟨rfl, hM11⟩
        have L11 := Lib.hid ((L10.out.mod0 ((Mod.refl [] w10).alloc _)).mod0 hM11)
        have N11 := Lib.hid ((N10.out.mod0 ((Mod.refl [] w10).alloc _)).mod0 hM11)
        have RB11 := Lib.hid (hM11.blk (RB10.out.alloc _) (by simp))
        have M11 := Lib.hid ((M10.out.alloc _).trans hM11)
        have PN11 := Lib.hid (hM11.blk PN10.out (by simp))
        have AN11 := Lib.hid (hM11.blk AN10.out (by simp))
        have pn0 := PN11.out.cell (i := 0) rfl
        have pn1 := PN11.out.cell (i := 1) rfl
        have pn2 := PN11.out.cell (i := 2) rfl
        have am0 := AN11.out.cell (i := 0) rfl
        have am1 := AN11.out.cell (i := 1) rfl
        have am2 := AN11.out.cell (i := 2) rfl
        clear hM11 an0 an1 an2
        cases th with
        | false =>
          go_wp2_with fail
          go_roundw
          case rel => exact ⟨k + 1, T, s2, m2, by omega, by go_num, rfl, L11.out, N11.out, KC.out, KM.out, N2.out, RB11.out, M11.out⟩
          case measure => simp [intOf]; omega
        | true =>
          obtain ⟨i0, hi0⟩ := HTH.out rfl
          obtain ⟨rfl, rfl, hrem⟩ := PC.out i0 hi0
          by_cases hv2 : av = 2
          · subst hv2
            obtain rfl := hrem rfl
            clear hi0 hrem
            go_wp2_with fail
            go_roundw
            case rel => exact ⟨k + 1, T, s2, m2, by omega, by go_num, rfl, L11.out, N11.out, KC.out, KM.out, N2.out, RB11.out, M11.out⟩
            case measure => simp [intOf]; omega
          · have ev2 : (av == 2) = false := by simp [hv2]
            clear hi0 hrem hv2
            go_wp2_with fail
            go_roundw
            case rel => exact ⟨k + 1, T, s2, m2, by omega, by go_num, rfl, L11.out, N11.out, KC.out, KM.out, N2.out, RB11.out, M11.out⟩
            case measure => simp [intOf]; omega
    · obtain rfl : k = n := by omega
      have dk : decide ((k : Int) < (k : Int)) = false := by simp
      clear hLr hLm hKr hKm hNr hRr hM
      go_wp2_with fail
      have TV := totV_near HNr.out
      go_wp2_with fail
      refine (totals_any LR.out).mono ?_
      rintro e5 w5 ⟨rfl, hM5⟩
      have N5 := Lib.hid (LRm.out.mod0 hM5)
      have M5 := Lib.hid (MR.out.trans hM5)
      clear hM5
      go_wp2_with fail
      refine (totals_any N5.out).mono ?_
      rintro e6 w6 ⟨rfl, hM6⟩
      rw [← TV]
      unfold totV
      have M6 := Lib.hid (M5.out.trans hM6)
      clear hM6 TV
      go_wp2_with fail
      go_ret
      exact ⟨rfl, M6.out⟩
theorem peeks_law (w : World) (p : Plan) (v : Value) (zs : List Int) (h : Sl w v (zs.map (Value.int .u64))) (hw : ∀ z ∈ zs, (Lit.int .u64 z).wf = true) (a : Option Addr) (cp : Nat) (l : List Call) (hm : l.length ≤ maxLen) (hP : InRow w a 4 Call.cells l) :
    Calls Try.prog 12 #[p.val, v, .slice a l.length cp] w fun e w' => e = .returned (.bool true) ∧ Mod [] w w' := by
  obtain ⟨ds, hds, hdx⟩ := u64s hw
  rw [hds] at h
  clear hds hw
  by_cases hd60 : ds.length ≤ 60
  · cases hL : lightB l with
    | true => exact peeks_main w p v ds h hdx hd60 a cp l hm hP hL
    | false =>
      have LI := Lib.hid (fun W (hM : Mod [] w W) => light_any (inrow_mod hP hM) hm cp)
      rw [hL] at LI
      obtain ⟨da, dc, rfl⟩ := sl_slice h
      have hdl : (v64 ds).length = ds.length := by simp [v64]
      rw [hdl]
      have d60 : decide ((60 : Int) < (ds.length : Int)) = false := by simp; omega
      obtain ⟨p0, p1, p2, p3, p4, p5, p6, p7, p8⟩ := p
      simp only [Plan.val] at *
      have M0 := Lib.hid ((Mod.refl [] w).alloc (.cells #[.int .i64 p0, .int .i64 p1, .int .i64 p2, .int .i64 p3, .int .i64 p4, .int .i64 p5, .int .i64 p6, .int .i64 p7, .bool p8] 23))
      clear hP hm hL h hdx hd60 hdl
      generalize ds.length = dn at *
      generalize l.length = n at *
      go_enter Try.func12, Try.ntmps12
      go_wp2_with fail
      refine (fit_any _).mono ?_
      rintro e1 w1 ⟨rfl, hM1⟩
      have M1 := Lib.hid (M0.out.trans hM1)
      clear hM1
      go_wp2_with fail
      refine (LI.out _ M1.out).mono ?_
      rintro e2 w2 ⟨rfl, hM2⟩
      go_wp2_with fail
      go_ret
      exact ⟨rfl, M1.out.trans hM2⟩
  · obtain ⟨da, dc, rfl⟩ := sl_slice h
    have hdl : (v64 ds).length = ds.length := by simp [v64]
    rw [hdl]
    have d60 : decide ((60 : Int) < (ds.length : Int)) = true := by simp; omega
    obtain ⟨p0, p1, p2, p3, p4, p5, p6, p7, p8⟩ := p
    simp only [Plan.val] at *
    have M0 := Lib.hid ((Mod.refl [] w).alloc (.cells #[.int .i64 p0, .int .i64 p1, .int .i64 p2, .int .i64 p3, .int .i64 p4, .int .i64 p5, .int .i64 p6, .int .i64 p7, .bool p8] 23))
    clear hP hm h hdx hd60 hdl
    generalize ds.length = dn at *
    generalize l.length = n at *
    go_enter Try.func12, Try.ntmps12
    go_wp2_with fail
    refine (fit_any _).mono ?_
    rintro e1 w1 ⟨rfl, hM1⟩
    have M1 := Lib.hid (M0.out.trans hM1)
    clear hM1
    go_wp2_with fail
    go_ret
    exact ⟨rfl, M1.out⟩
end Go.Proofs.Ytndekdafiaogmaa.Lim
end
