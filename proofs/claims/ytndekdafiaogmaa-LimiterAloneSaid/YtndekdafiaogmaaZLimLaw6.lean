/- limiter's laws: LimiterAlone. No condition. (written by wip/tools) -/
import Derived.Test.YtndekdafiaogmaaZLimAlike
import Derived.Test.YtndekdafiaogmaaZLimD
import Derived.Test.YtndekdafiaogmaaZTwoArg
section
namespace Go.Proofs.Ytndekdafiaogmaa.Lim
open Go Go.RowKit Go.YtndekdafiaogmaaMem Go.YtndekdafiaogmaaLex Go.Proofs.Ytndekdafiaogmaa.Hash Go.Proofs.Ytndekdafiaogmaa.Arith Go.Proofs.Ytndekdafiaogmaa.Index Go.Proofs.Ytndekdafiaogmaa.Cell Go.Proofs.Ytndekdafiaogmaa.Slot
open Go.Proofs.Ytndekdafiaogmaa.Pool (PS putP remP pairs PB PoolAt firstIdle)
open Go.Proofs.Ytndekdafiaogmaa.Ring (Rs RiB RingAt estS addR waitS massS Small small_get leastV leastV_small ring0)
open Go.Proofs.Ytndekdafiaogmaa.Sum (Ent OkE SB SumAt countE leastOf)
set_option linter.unusedVariables false
set_option linter.unusedSimpArgs false

/-- The same rule with another ring. -/
def thinR (r : Rule) : Rule := ⟨r.limit, r.window, r.burst, r.slots, r.cells, ba r.rows 3 + 1, ba r.width 15 + 1, r.track, r.smooth⟩
theorem thin_ok {r : Rule} (h : RuleOk r) : RuleOk (thinR r) := by
  have h1 := ba3 r.rows
  have h2 := ba15 r.width
  exact ⟨h.limit, h.burst, h.window, h.slots, h.cells, by show 1 ≤ ba r.rows 3 + 1 ∧ ba r.rows 3 + 1 ≤ 8; omega, by show 1 ≤ ba r.width 15 + 1 ∧ ba r.width 15 + 1 < 4096; omega, h.track, h.pace⟩
theorem thin_alike (r : Rule) (a b : List Nat) : Alike (cfOf r a) (cfOf (thinR r) b) := ⟨rfl, rfl, rfl, rfl⟩
theorem check_evs {c : Cf} {s : Lm} {now held cost : Int} {key : List UInt8} : (check c s now held key cost).2.1.length ≤ 2 := by
  unfold check
  split
  · simp
  · simp only
    unfold settle
    split
    · simp
    · split
      · split <;> simp
      · simp
theorem Kept.peek0 {c : Cf} {s : Lm} {k now : Nat} (h : Kept c s k now) (hn : now < 4611686018427387904) (held : Int) (key : List UInt8) (cost : Int) : Kept c (Lim.peek c s (now : Int) held key cost).2 k now := by
  have h1 := h.time
  unfold Lim.peek
  split
  · exact h
  · obtain ⟨j1, j2⟩ := h.inv.to (now := now) h1.1 hn
    exact ⟨j1, ⟨by show max s.ring.now ((now : Int).toNat) ≤ now; omega, h1.2⟩, h.t, h.len⟩
theorem peek_pool {c : Cf} {s : Lm} {now held cost : Int} {key : List UInt8} : (Lim.peek c s now held key cost).2.pool = s.pool := by
  unfold Lim.peek
  split <;> rfl
theorem totV_twin {s m : Lm} (h : Twin s m) : totV s = totV m := by
  unfold totV
  rw [h.pool, h.t, h.al, h.de, h.bad]
theorem peek_zero {c : Cf} {s : Lm} {now held cost : Int} {key : List UInt8} (h : ZeroN s.ring) : ZeroN (Lim.peek c s now held key cost).2.ring := by
  unfold Lim.peek
  split <;> exact h
theorem peek_st {c : Cf} {s : Lm} {now held cost : Int} {key : List UInt8} : (Lim.peek c s now held key cost).2.ring.st.length = s.ring.st.length := by
  unfold Lim.peek
  split <;> rfl
set_option maxRecDepth 8000 in
set_option maxHeartbeats 12800000 in
theorem alone_main (w : World) (p : Plan) (v0 v1 : Value) (ds es : List Nat) (hd : Sl w v0 (v64 ds)) (he : Sl w v1 (v64 es)) (hdx : ∀ x, x ∈ ds → x < 18446744073709551616) (hex : ∀ x, x ∈ es → x < 18446744073709551616) (hd60 : decide ((60 : Int) < wrap64 ((ds.length : Int) + (es.length : Int))) = false) (a : Option Addr) (cp : Nat) (l : List Call) (hm : l.length ≤ maxLen) (hP : InRow w a 4 Call.cells l) (hL : lightB l = true) :
    Calls Try.prog 8 #[p.val, .agg #[v0, v1], .slice a l.length cp] w fun e w' => e = .returned (.bool true) ∧ Mod [] w w' := by
  obtain ⟨hl150, hkeys⟩ := light_spec hL
  obtain ⟨hro, hlim⟩ := rule_ok p
  have LI := Lib.hid (fun W (hM : Mod [] w W) => light_any (inrow_mod hP hM) hm cp)
  rw [hL] at LI
  have GET := Lib.hid (fun j q (hq : l[j]? = some q) => inrow_get hP hq)
  have KEY := Lib.hid (fun j q (hq : l[j]? = some q) => hkeys q (List.mem_of_getElem? hq))
  have RU := Lib.hid (fun W : World => rule_any p W)
  have hrg0 : RingOf (cfOf p.rule ds) (new0 (cfOf p.rule ds)).ring := ring_of0 (rule_ok p).1
  obtain ⟨r, hr⟩ : ∃ r, p.rule = r := ⟨_, rfl⟩
  rw [hr] at RU hro hlim hrg0
  have HRO := Lib.hid hro
  have NW := Lib.hid (fun (W : World) (hM : Mod [] w W) => new_any (hd.mod hM (by simp)) hdx r hro)
  have NX := Lib.hid (fun (W : World) (hM : Mod [] w W) => new_any (he.mod hM (by simp)) hex (thinR r) (thin_ok hro))
  have HCE := Lib.hid ((thin_ok hro).cf es)
  have ALI := Lib.hid (thin_alike r ds es)
  have hdlim : (cfOf (thinR r) es).r.limit ≤ 32 := hlim
  have hcells := hro.cells
  have hrg1 : RingOf (cfOf (thinR r) es) (new0 (cfOf (thinR r) es)).ring := ring_of0 (thin_ok hro)
  have CO := Lib.hid (fun z (W : World) => cost_any r (by have := hro.burst; omega) z W)
  obtain ⟨c, hc⟩ : ∃ c, cfOf r ds = c := ⟨_, rfl⟩
  have hcr : c.r = r := by rw [← hc]; rfl
  have HCR := Lib.hid hcr
  have HC := Lib.hid (show c.Ok by rw [← hc]; exact hro.cf ds)
  rw [hc] at NW hrg0
  have HG0 := Lib.hid hrg0
  have HLIM := Lib.hid hlim
  have hbur := hro.burst
  have hdcells : (cfOf (thinR r) es).r.cells = r.cells := rfl
  obtain ⟨d, hdd⟩ : ∃ d, cfOf (thinR r) es = d := ⟨_, rfl⟩
  rw [hdd] at NX HCE ALI hdlim hrg1 hdcells
  rw [hc] at ALI
  have HG1 := Lib.hid hrg1
  have HDL := Lib.hid hdlim
  have HDC := Lib.hid hdcells
  have hcc : c.r.cells = r.cells := by rw [hcr]
  have HCCC := Lib.hid hcc
  clear hrg1 hdlim hdd hdcells hcc
  obtain ⟨da, dc, rfl⟩ := sl_slice hd
  obtain ⟨ea, ec, rfl⟩ := sl_slice he
  have hdl : (v64 ds).length = ds.length := by simp [v64]
  have hel : (v64 es).length = es.length := by simp [v64]
  rw [hdl] at NW ⊢
  rw [hel] at NX ⊢
  obtain ⟨p0, p1, p2, p3, p4, p5, p6, p7, p8⟩ := p
  obtain ⟨r0, r1, r2, r3, r4, r5, r6, r7, r8⟩ := r
  simp only [thinR, Plan.val, Rule.val] at *
  obtain ⟨q5, hq5, hb5, hc5⟩ : ∃ a, bits .and .i64 r5 3 = a ∧ 0 ≤ a ∧ a < 4 := ⟨_, rfl, ba3 r5⟩
  obtain ⟨q6, hq6, hb6, hc6⟩ : ∃ a, bits .and .i64 r6 15 = a ∧ 0 ≤ a ∧ a < 16 := ⟨_, rfl, ba15 r6⟩
  unfold ba at NX
  rw [hq5, hq6] at NX
  obtain ⟨dn, hdn⟩ : ∃ dn, ds.length = dn := ⟨_, rfl⟩
  obtain ⟨en, hen⟩ : ∃ en, es.length = en := ⟨_, rfl⟩
  rw [hdn, hen] at hd60
  rw [hdn] at NW ⊢
  rw [hen] at NX ⊢
  have PB0 := Lib.hid (Blk.new w [.int .i64 p0, .int .i64 p1, .int .i64 p2, .int .i64 p3, .int .i64 p4, .int .i64 p5, .int .i64 p6, .int .i64 p7, .bool p8] 23)
  have M0 := Lib.hid (((Mod.refl [] w).alloc (.cells #[.int .i64 p0, .int .i64 p1, .int .i64 p2, .int .i64 p3, .int .i64 p4, .int .i64 p5, .int .i64 p6, .int .i64 p7, .bool p8] 23)).alloc (.cells #[.slice da dn dc, .slice ea en ec] 66))
  have PB0 := Lib.hid (PB0.out.alloc (.cells #[.slice da dn dc, .slice ea en ec] 66))
  have DB0 := Lib.hid (Blk.new (w.alloc (.cells #[.int .i64 p0, .int .i64 p1, .int .i64 p2, .int .i64 p3, .int .i64 p4, .int .i64 p5, .int .i64 p6, .int .i64 p7, .bool p8] 23)) [.slice da dn dc, .slice ea en ec] 66)
  rw [show (w.alloc (.cells #[.int .i64 p0, .int .i64 p1, .int .i64 p2, .int .i64 p3, .int .i64 p4, .int .i64 p5, .int .i64 p6, .int .i64 p7, .bool p8] 23)).heap.size = w.heap.size + 1 by simp] at DB0
  obtain ⟨n, hn⟩ : ∃ n, l.length = n := ⟨_, rfl⟩
  have HN := Lib.hid hn
  rw [hn] at LI hl150 ⊢
  clear hP hm hL hkeys hro hr hc hcr hlim hn hrg0 hd he hdx hex hdl hel hdn hen
  go_enter Try.func8, Try.ntmps8
  go_wp2_with fail
  refine (fit_any _).mono ?_
  rintro e1 w1 ⟨rfl, hM1⟩
  have M1 := Lib.hid (M0.out.trans hM1)
  have PB1 := Lib.hid (hM1.blk PB0.out (by simp))
  have DB1 := Lib.hid (hM1.blk DB0.out (by simp))
  have db0 := DB1.out.cell (i := 0) rfl
  have db1 := DB1.out.cell (i := 1) rfl
  clear hM1
  go_wp2_with fail
  refine (LI.out _ M1.out).mono ?_
  rintro e2 w2 ⟨rfl, hM2⟩
  have M2 := Lib.hid (M1.out.trans hM2)
  have PB2 := Lib.hid (hM2.blk PB1.out (by simp))
  have DB2 := Lib.hid (hM2.blk DB1.out (by simp))
  clear db0 db1
  have b0 := PB2.out.cell (i := 0) rfl
  have b1 := PB2.out.cell (i := 1) rfl
  have b2 := PB2.out.cell (i := 2) rfl
  have b3 := PB2.out.cell (i := 3) rfl
  have b4 := PB2.out.cell (i := 4) rfl
  have b5 := PB2.out.cell (i := 5) rfl
  have b6 := PB2.out.cell (i := 6) rfl
  have b7 := PB2.out.cell (i := 7) rfl
  have b8 := PB2.out.cell (i := 8) rfl
  clear hM2
  go_wp2_with fail
  refine (RU.out _).mono ?_
  rintro e3 w3 ⟨rfl, hM3⟩
  have DB3 := Lib.hid (hM3.blk DB2.out (by simp))
  have M3 := Lib.hid (M2.out.trans hM3)
  have RB3 := Lib.hid (Blk.new w3 [.int .i64 r0, .int .i64 r1, .int .i64 r2, .int .i64 r3, .int .i64 r4, .int .i64 r5, .int .i64 r6, .int .i64 r7, .bool r8] 29)

  have hlt3 : w.heap.size < w3.heap.size := (hM3.blk PB2.out (by simp)).lt
  clear hM3 b0 b1 b2 b3 b4 b5 b6 b7 b8
  simp only [Rule.val]
  have RX3 := Lib.hid (RB3.out.alloc (.cells #[.int .i64 r0, .int .i64 r1, .int .i64 r2, .int .i64 r3, .int .i64 r4, .int .i64 r5, .int .i64 r6, .int .i64 r7, .bool r8] 29))
  have SX3 := Lib.hid (Blk.new (w3.alloc (.cells #[.int .i64 r0, .int .i64 r1, .int .i64 r2, .int .i64 r3, .int .i64 r4, .int .i64 r5, .int .i64 r6, .int .i64 r7, .bool r8] 29)) [.int .i64 r0, .int .i64 r1, .int .i64 r2, .int .i64 r3, .int .i64 r4, .int .i64 r5, .int .i64 r6, .int .i64 r7, .bool r8] 29)
  rw [show (w3.alloc (.cells #[.int .i64 r0, .int .i64 r1, .int .i64 r2, .int .i64 r3, .int .i64 r4, .int .i64 r5, .int .i64 r6, .int .i64 r7, .bool r8] 29)).heap.size = w3.heap.size + 1 by simp] at SX3
  have DX3 := Lib.hid ((DB3.out.alloc (.cells #[.int .i64 r0, .int .i64 r1, .int .i64 r2, .int .i64 r3, .int .i64 r4, .int .i64 r5, .int .i64 r6, .int .i64 r7, .bool r8] 29)).alloc (.cells #[.int .i64 r0, .int .i64 r1, .int .i64 r2, .int .i64 r3, .int .i64 r4, .int .i64 r5, .int .i64 r6, .int .i64 r7, .bool r8] 29))
  have A3 := Lib.hid (((Mod.refl [] w3).alloc (.cells #[.int .i64 r0, .int .i64 r1, .int .i64 r2, .int .i64 r3, .int .i64 r4, .int .i64 r5, .int .i64 r6, .int .i64 r7, .bool r8] 29)).alloc (.cells #[.int .i64 r0, .int .i64 r1, .int .i64 r2, .int .i64 r3, .int .i64 r4, .int .i64 r5, .int .i64 r6, .int .i64 r7, .bool r8] 29))
  have hlt3' : w.heap.size + 1 < w3.heap.size := DB3.out.lt
  go_wp2_with fail
  obtain ⟨w4, hw4⟩ : ∃ w4, ((w3.alloc (.cells #[.int .i64 r0, .int .i64 r1, .int .i64 r2, .int .i64 r3, .int .i64 r4, .int .i64 r5, .int .i64 r6, .int .i64 r7, .bool r8] 29)).alloc (.cells #[.int .i64 r0, .int .i64 r1, .int .i64 r2, .int .i64 r3, .int .i64 r4, .int .i64 r5, .int .i64 r6, .int .i64 r7, .bool r8] 29)) = w4 := ⟨_, rfl⟩
  rw [hw4] at RX3 SX3 DX3 A3 ⊢
  clear hw4
  refine Go.YtndekdafiaogmaaLex.wp_region_held [10] [5] [w3.heap.size + 1] (by kernel_rfl) (by kernel_rfl) ?_
  simp only [wpCut, List.take_succ_cons, List.take_zero, List.drop_succ_cons, List.drop_zero, List.cons_append, List.nil_append]
  have ISX := Lib.hid (isC_of_blk RX3.out.drew)
  have MS5 := Lib.hid ((Mod.refl [w3.heap.size + 1] w4.drew).setCell (p := ⟨w3.heap.size + 1, 5, none⟩) (.inl (by simp)) (.int .i64 (q5 + 1)))
  have MS6 := Lib.hid ((((Mod.refl [w3.heap.size + 1] w4).setCell (p := ⟨w3.heap.size + 1, 5, none⟩) (.inl (by simp)) (.int .i64 (q5 + 1))).setCell (p := ⟨w3.heap.size + 1, 6, none⟩) (.inl (by simp)) (.int .i64 (q6 + 1))).drew)
  have SX6 := ((SX3.out.set 5 (.int .i64 (q5 + 1))).set 6 (.int .i64 (q6 + 1))).drew
  have RX6 := Lib.hid (MS6.out.blk RX3.out (by simp))
  have DX6 := Lib.hid (MS6.out.blk DX3.out (by simp; omega))
  have M6 := Lib.hid ((M3.out.trans A3.out).trans' MS6.out (fun b hb => .inr (by simp at hb; omega)))
  have sf5 := SX3.out.free 5
  have sf6 := SX3.out.free 6
  have sc5 := SX3.out.cell (i := 5) rfl
  have sc6 := SX3.out.cell (i := 6) rfl
  have rx5 := RX3.out.cell (i := 5) rfl
  have rx6 := RX3.out.cell (i := 6) rfl
  go_wp2_with fail
  refine ⟨MS5.out, ?_⟩
  go_wp2_with fail
  refine ⟨by kernel_rfl, ⟨⟨by simp, ISX.out⟩, trivial⟩, ?_⟩
  have SX7 : Hid (Blk (((w4.setCell ⟨w3.heap.size + 1, 5, none⟩ (.int .i64 (q5 + 1))).setCell ⟨w3.heap.size + 1, 6, none⟩ (.int .i64 (q6 + 1))).drew) (w3.heap.size + 1) 29 [.int .i64 r0, .int .i64 r1, .int .i64 r2, .int .i64 r3, .int .i64 r4, .int .i64 (q5 + 1), .int .i64 (q6 + 1), .int .i64 r7, .bool r8]) := Lib.hid SX6
  clear SX6 sf5 sf6 sc5 sc6 rx5 rx6
  obtain ⟨w6, hw6⟩ : ∃ w6, ((w4.setCell ⟨w3.heap.size + 1, 5, none⟩ (.int .i64 (q5 + 1))).setCell ⟨w3.heap.size + 1, 6, none⟩ (.int .i64 (q6 + 1))).drew = w6 := ⟨_, rfl⟩
  rw [hw6] at MS6 SX7 RX6 DX6 M6 ⊢
  have HZ6 := Lib.hid (show w3.heap.size + 1 < w6.heap.size from SX7.out.lt)
  clear hw6 MS5 SX3 RX3 DX3
  have rx0 := RX6.out.cell (i := 0) rfl
  have rx1 := RX6.out.cell (i := 1) rfl
  have rx2 := RX6.out.cell (i := 2) rfl
  have rx3 := RX6.out.cell (i := 3) rfl
  have rx4 := RX6.out.cell (i := 4) rfl
  have rx5 := RX6.out.cell (i := 5) rfl
  have rx6 := RX6.out.cell (i := 6) rfl
  have rx7 := RX6.out.cell (i := 7) rfl
  have rx8 := RX6.out.cell (i := 8) rfl
  have dx0 := DX6.out.cell (i := 0) rfl
  have IS1 := Lib.hid (isC_of_blk SX7.out.drew)
  have IS2 := Lib.hid (isC_of_blk DX6.out.drew)
  go_wp2_with fail
  refine Go.YtndekdafiaogmaaLex.wp_region_held [4] [4, 6] [] (by kernel_rfl) (by kernel_rfl) ?_
  simp only [wpCut, List.take_succ_cons, List.take_zero, List.drop_succ_cons, List.drop_zero, List.cons_append, List.nil_append]
  go_wp2_with fail
  refine (NW.out _ M6.out.drew).mono ?_
  rintro e7 w7 ⟨B, rfl, hL7, hB7, hrb7, hM7⟩
  have RX7 := Lib.hid (hM7.blk RX6.out.drew (by simp))
  have SX8 := Lib.hid (hM7.blk SX7.out.drew (by simp))
  have DX7 := Lib.hid (hM7.blk DX6.out.drew (by simp))
  have M7 := Lib.hid (M6.out.drew.trans hM7)
  have L7 := Lib.hid hL7
  have HB7 := Lib.hid hB7
  have HM7 := Lib.hid hM7
  have HQ7 := Lib.hid (show B.Q.rb < w7.heap.size from (hL7.ring.each 0 (by have := hL7.ring.few.1; omega)).rows.1)
  clear hL7 hB7 hrb7 hM7 rx0 rx1 rx2 rx3 rx4 rx5 rx6 rx7 rx8 dx0
  have sx0 := SX8.out.cell (i := 0) rfl
  have sx1 := SX8.out.cell (i := 1) rfl
  have sx2 := SX8.out.cell (i := 2) rfl
  have sx3 := SX8.out.cell (i := 3) rfl
  have sx4 := SX8.out.cell (i := 4) rfl
  have sx5 := SX8.out.cell (i := 5) rfl
  have sx6 := SX8.out.cell (i := 6) rfl
  have sx7 := SX8.out.cell (i := 7) rfl
  have sx8 := SX8.out.cell (i := 8) rfl
  have dx1 := DX7.out.cell (i := 1) rfl
  go_wp2_with fail
  refine ⟨HM7.out, ?_⟩
  go_wp2_with fail
  refine (NX.out _ M7.out).mono ?_
  rintro e8 w8 ⟨B2, rfl, hL8, hB8, hrb8, hM8⟩
  have RB8 := Lib.hid (hM8.blk RX7.out (by simp))
  have M8 := Lib.hid (M7.out.trans hM8)
  have L8 := Lib.hid (L7.out.mod0 hM8)
  have N8 := Lib.hid hL8
  have BLr := Lib.hid (show (∀ b, b ∈ B.all → w.heap.size < b) ∧ w3.heap.size ∉ B.all ∧ (∀ b, b ∈ B2.all → w.heap.size < b) ∧ w3.heap.size ∉ B2.all from by
    have h4 : w6.drew.heap.size ≤ w7.heap.size := HM7.out.size
    have h5 : w6.drew.heap.size = w6.heap.size := rfl
    have h6 := HZ6.out
    exact ⟨fun b hb => by have := HB7.out b hb; omega, fun hb => by have := HB7.out _ hb; omega, fun b hb => by have := hB8 b hb; omega, fun hb => by have := hB8 _ hb; omega⟩)
  have AP12 := Lib.hid (show (∀ b, b ∈ B.all → b ∉ B2.all) ∧ B.Q.rb ∉ B2.all from ⟨fun b hb hb' => by have := hB8 b hb'; have := L7.out.lt b hb; omega, fun hb' => by have := hB8 _ hb'; have := HQ7.out; omega⟩)
  have AP21 := Lib.hid (show (∀ b, b ∈ B2.all → b ∉ B.all) ∧ B2.Q.rb ∉ B.all from ⟨fun b hb hb' => by have := hB8 b hb; have := L7.out.lt b hb'; omega, fun hb' => by have := L7.out.lt _ hb'; omega⟩)
  clear hL8 hB8 hrb8 hM8 sx0 sx1 sx2 sx3 sx4 sx5 sx6 sx7 sx8 dx1
  go_wp2_with fail
  refine ⟨by kernel_rfl, ⟨⟨by simp, IS1.out⟩, ⟨by simp, IS2.out⟩, trivial⟩, ?_⟩
  go_wp2_with fail
  go_loopw [11, 57] (fun now i W => ∃ (k t : Nat) (s m : Lm), k ≤ n ∧ i = .int .i64 (k : Int) ∧ now = .int .i64 (t : Int) ∧ LimAt W B c s ∧ LimAt W B2 d m ∧ Kept c s k t ∧ Kept d m k t ∧ Twin s m ∧ Lone c s.pool [107] ∧ Blk W w3.heap.size 29 [.int .i64 r0, .int .i64 r1, .int .i64 r2, .int .i64 r3, .int .i64 r4, .int .i64 r5, .int .i64 r6, .int .i64 r7, .bool r8] ∧ Mod [] w W) (fun _ i _ => n - (intOf i).toNat)
  case atStart => exact ⟨0, 0, new0 c, new0 d, Nat.zero_le _, rfl, rfl, L8.out, N8.out, kept0 c HC.out, kept0 d HCE.out, ⟨by show PS.mk _ _ _ = PS.mk _ _ _; rw [HDC.out, HCCC.out], rfl, rfl, rfl, rfl, rfl, zero_new c HC.out, zero_new d HCE.out⟩, lone_new c _, RB8.out, M8.out⟩
  case round =>
    obtain ⟨k, t, s, m, hk, rfl, rfl, hLr, hLm, hKr, hKm, hTw, hLo, hRr, hM⟩ := hrel
    have LR := Lib.hid hLr
    have LRm := Lib.hid hLm
    have HK := Lib.hid hKr
    have HKm := Lib.hid hKm
    have HTw := Lib.hid hTw
    have HLo := Lib.hid hLo
    have RR := Lib.hid hRr
    have MR := Lib.hid hM
    by_cases hlt : k < n
    · obtain ⟨q, hq⟩ : ∃ q, l[k]? = some q := ⟨_, List.getElem?_eq_getElem (by have := HN.out; omega)⟩
      obtain ⟨b, off, rfl, hcells⟩ := GET.out k q hq
      have hk64 := KEY.out k q hq
      obtain ⟨x0, x1, x2, x3⟩ := hcells wr hM
      obtain ⟨gz, cz, key, pk⟩ := q
      simp only at x0 x1 x2 x3 hk64
      have HF := Lib.hid (hLr.ring.few.2)
      have CC := Lib.hid (Blk.new wr [.int .i64 gz, .int .i64 cz, .string ⟨key.toArray⟩, .bool pk] 35)
      have AC := Lib.hid ((Mod.refl [] wr).alloc (.cells #[.int .i64 gz, .int .i64 cz, .string ⟨key.toArray⟩, .bool pk] 35))
      have hrw : w3.heap.size < wr.heap.size := hRr.lt
      have hrw' : ¬ w3.heap.size = wr.heap.size := by omega
      have hti := hKr.time
      have rb0 := hRr.cell (i := 0) rfl
      have rb1 := hRr.cell (i := 1) rfl
      have rb2 := hRr.cell (i := 2) rfl
      have rb3 := hRr.cell (i := 3) rfl
      have rb4 := hRr.cell (i := 4) rfl
      have rb5 := hRr.cell (i := 5) rfl
      have rb6 := hRr.cell (i := 6) rfl
      have rb7 := hRr.cell (i := 7) rfl
      have rb8 := hRr.cell (i := 8) rfl
      have dk : decide ((k : Int) < (n : Int)) = true := by simp; omega
      obtain ⟨hk150, ht2⟩ := small_kt (show k ≤ 149 by omega) hti.2
      clear hLr hLm hKr hKm hTw hLo hRr hM hcells hq
      go_wp2_with fail
      refine (gap_any gz _).mono ?_
      rintro e5 w5 ⟨g, rfl, hg, rfl⟩
      go_wp2_with fail
      refine (CO.out cz _).mono ?_
      rintro e6 w6 ⟨n1, rfl, hn1, hM6⟩
      have MC6 := Lib.hid (AC.out.trans hM6)
      have RB6 := Lib.hid (MC6.out.blk RR.out (by simp))
      have CC6 := Lib.hid (hM6.blk CC.out (by simp))
      have cc2 := CC6.out.cell (i := 2) rfl
      have rb2' := RB6.out.cell (i := 2) rfl
      have hlim2 : c.r.limit ≤ 32 := by rw [HCR.out]; exact HLIM.out
      have hcb : c.r.burst = r2 := by rw [HCR.out]
      clear hM6 x0 x1 x2 x3 rb0 rb1 rb2 rb3 rb4 rb5 rb6 rb7 rb8
      obtain ⟨T, hT⟩ : ∃ T, t + g = T := ⟨_, rfl⟩
      have hTi : (t : Int) + (g : Int) = (T : Int) := by omega
      have hTb : T ≤ 300000 := by omega
      have hsT : s.ring.now ≤ T := by have := HK.out.time; omega
      have hmT : m.ring.now ≤ T := by have := HKm.out.time; omega
      have hst : c.step = 2 * c.r.limit.toNat + 1 := rfl
      have hst2 : d.step = 2 * d.r.limit.toNat + 1 := rfl
      have hdl2 := HDL.out
      have hcc := HCCC.out
      have hrc := HRO.out.cells
      simp only at hcc hrc
      have HFm := Lib.hid (LRm.out.ring.few.2)
      have hpok := LR.out.pok
      have hrm := HLo.out.room (by omega)
      have KC0 := HK.out.check HC.out hlim2 (by omega) HF.out hg 0 (key := [107]) (by decide) hn1
      have KM0 := HKm.out.check HCE.out hdl2 (by omega) HFm.out hg 0 (key := [107]) (by decide) hn1
      rw [hT] at KC0 KM0
      have hkb : 65 * k ≤ 10000 := by omega
      have CL0 := fun W (hL : LimAt W B c s) => check_any hL HK.out.inv HC.out (by omega) hsT 0 [107] (by decide) (n1 : Int)
      have CM0 := fun W (hL : LimAt W B2 d m) => check_any hL HKm.out.inv HCE.out (by omega) hmT 0 [107] (by decide) (n1 : Int)
      obtain ⟨q1, q2, q3⟩ := HTw.out.check ALI.out HF.out HFm.out (now := (T : Int)) (held := 0) (cost := (n1 : Int)) (key := [107]) hrm (by decide) hpok
      have hlo := HLo.out.check (by omega) (by decide) hpok (T : Int) 0 (n1 : Int)
      have hev2 := check_evs (c := c) (s := s) (now := (T : Int)) (held := 0) (cost := (n1 : Int)) (key := [107])
      rcases hcl : check c s (T : Int) 0 [107] (n1 : Int) with ⟨⟨av, ar, at_⟩, ev, s2⟩
      rcases hcm : check d m (T : Int) 0 [107] (n1 : Int) with ⟨⟨bv, br, bt⟩, ev', m2⟩
      rw [hcl] at CL0 q1 q2 q3 KC0 hev2 hlo
      rw [hcm] at CM0 q1 q2 q3 KM0
      simp only at q1 q2 q3 KC0 KM0 hev2 hlo
      simp only [Ans.mk.injEq] at q1
      obtain ⟨rfl, rfl, rfl⟩ := q1
      subst q2
      have KC := Lib.hid KC0
      have KM := Lib.hid KM0
      have CL := Lib.hid CL0
      have CM := Lib.hid CM0
      have HEV := Lib.hid hev2
      have T2 := Lib.hid q3
      have LO2 := Lib.hid hlo
      have HRC := Lib.hid hrc
      have HKB := Lib.hid hkb
      clear KC0 KM0 CL0 CM0 q3 hlo hev2 hcl hcm hsT hmT hst hst2 hT hcb hlim2 rb2' hti hpok hrm hdl2 hcc hrc hkb
      rw [hTi]
      clear hTi cc2
      have L6 := Lib.hid (LR.out.mod0 MC6.out)
      have N6 := Lib.hid (LRm.out.mod0 MC6.out)
      go_wp2_with fail
      refine (CL.out _ L6.out).mono ?_
      rintro e9 w9 ⟨v9, rfl, hO9, hL9, hM9⟩
      obtain ⟨a9, c9, rfl⟩ := hO9.slice
      have O9 := Lib.hid hO9
      have L9 := Lib.hid hL9
      have N9 := Lib.hid (N6.out.mod hM9 AP21.out.1 AP21.out.2)
      have RB9 := Lib.hid (hM9.blk RB6.out BLr.out.2.1)
      have AN9 := Lib.hid (Blk.new w9 [.int .i64 av, .int .i64 ar, .int .i64 at_] 39)
      have M9 := Lib.hid ((MR.out.trans MC6.out).trans' hM9 (fun b hb => .inr (by have := BLr.out.1 b hb; omega)))
      have HB28 := Lib.hid (show ∀ b, b ∈ B2.all → b < w6.heap.size from fun b hb => N6.out.lt b hb)
      have NW9 := Lib.hid (show w9.heap.size ∉ B.all ∧ w9.heap.size ∉ B2.all from ⟨fun hb => by have := L9.out.lt _ hb; omega, fun hb => by have := N9.out.lt _ hb; omega⟩)
      clear hO9 hL9 hM9
      simp only [Ans.val]
      go_wp2_with fail
      refine (CM.out _ (N9.out.mod0 ((Mod.refl [] w9).alloc _))).mono ?_
      rintro e10 w10 ⟨v10, rfl, hO10, hL10, hM10⟩
      obtain ⟨a10, c10, rfl⟩ := hO10.slice
      have P10 := Lib.hid (OwnE.mod hO10 ((Mod.refl [] w10).alloc (.cells #[.int .i64 av, .int .i64 ar, .int .i64 at_] 39)) (by simp))
      have O10 := Lib.hid ((O9.out.mod ((Mod.refl [] w9).alloc (.cells #[.int .i64 av, .int .i64 ar, .int .i64 at_] 39)) (by simp)).mod hM10 HB28.out)
      have O10' := Lib.hid (O10.out.mod ((Mod.refl [] w10).alloc (.cells #[.int .i64 av, .int .i64 ar, .int .i64 at_] 39)) (by simp))
      have N10 := Lib.hid hL10
      have L10 := Lib.hid ((L9.out.mod0 ((Mod.refl [] w9).alloc _)).mod hM10 AP12.out.1 AP12.out.2)
      have RB10 := Lib.hid (hM10.blk (RB9.out.alloc _) BLr.out.2.2.2)
      have M10 := Lib.hid ((M9.out.alloc _).trans' hM10 (fun b hb => .inr (by have := BLr.out.2.2.1 b hb; omega)))
      have an0 := (hM10.blk AN9.out NW9.out.2).cell (i := 0) rfl
      have an1 := (hM10.blk AN9.out NW9.out.2).cell (i := 1) rfl
      have an2 := (hM10.blk AN9.out NW9.out.2).cell (i := 2) rfl
      have lt10 : w9.heap.size < w10.heap.size := (hM10.blk AN9.out NW9.out.2).lt
      have lt10' : ¬ w9.heap.size = w10.heap.size := by omega
      have ALK := Lib.hid (alike_any O10'.out P10.out (by have := HEV.out; omega))
      clear hO10 hL10 hM10
      simp only [Ans.val]
      go_wp2_with fail
      refine ALK.out.mono ?_
      rintro e11 w11 ⟨rfl, hM11⟩
      have L11 := Lib.hid ((L10.out.mod0 ((Mod.refl [] w10).alloc _)).mod0 hM11)
      have N11 := Lib.hid ((N10.out.mod0 ((Mod.refl [] w10).alloc _)).mod0 hM11)
      have RB11 := Lib.hid (hM11.blk (RB10.out.alloc _) (by simp))
      have M11 := Lib.hid ((M10.out.alloc _).trans hM11)
      clear hM11 an0 an1 an2
      have PK1 := Lib.hid (fun W (hL : LimAt W B c s2) => peek_any hL KC.out.inv HC.out KC.out.time.1 0 [120] (by decide) 1)
      have PK2 := Lib.hid (fun W (hL : LimAt W B2 d m2) => peek_any hL KM.out.inv HCE.out KM.out.time.1 0 [120] (by decide) 1)
      have KC3 := Lib.hid (KC.out.peek0 (by omega) 0 [120] 1)
      have KM3 := Lib.hid (KM.out.peek0 (by omega) 0 [120] 1)
      have T3 := Lib.hid (Twin.peek2 (c := c) (d := d) T2.out (T : Int) 0 1 [120])
      have LO3 := LO2.out
      rw [← peek_pool (c := c) (now := (T : Int)) (held := 0) (cost := 1) (key := [120])] at LO3
      have HLO3 := Lib.hid LO3
      have PE := Lib.hid (fun (h : 2 ≤ c.r.cells) => Twin.peek T2.out ALI.out L11.out.ring.few.2 N11.out.ring.few.2 (now := (T : Int)) (held := 0) (cost := 1) (LO2.out.other h [120]))
      rcases hp1 : peek c s2 (T : Int) 0 [120] 1 with ⟨⟨xv, xr, xt⟩, s3⟩
      rcases hp2 : peek d m2 (T : Int) 0 [120] 1 with ⟨⟨yv, yr, yt⟩, m3⟩
      rw [hp1] at PK1 KC3 T3 HLO3 PE
      rw [hp2] at PK2 KM3 T3 PE
      simp only at KC3 KM3 T3 HLO3 PE
      clear LO3 hp1 hp2
      go_wp2_with fail
      refine (PK1.out _ L11.out).mono ?_
      rintro e12 w12 ⟨rfl, hL12, hM12⟩
      have L12 := Lib.hid hL12
      have N12 := Lib.hid (N11.out.mod hM12 AP21.out.1 AP21.out.2)
      have RB12 := Lib.hid (hM12.blk RB11.out BLr.out.2.1)
      have M12 := Lib.hid (M11.out.trans' hM12 (fun b hb => .inr (by have := BLr.out.1 b hb; omega)))
      clear hL12 hM12
      go_wp2_with fail
      refine (PK2.out _ N12.out).mono ?_
      rintro e13 w13 ⟨rfl, hL13, hM13⟩
      have N13 := Lib.hid hL13
      have L13 := Lib.hid (L12.out.mod hM13 AP12.out.1 AP12.out.2)
      have RB13 := Lib.hid (hM13.blk RB12.out BLr.out.2.2.2)
      have M13 := Lib.hid (M12.out.trans' hM13 (fun b hb => .inr (by have := BLr.out.2.2.1 b hb; omega)))
      have rb134 := RB13.out.cell (i := 4) rfl
      clear hL13 hM13
      simp only [Ans.val]
      by_cases hsame : (⟨xv, xr, xt⟩ : Ans) = ⟨yv, yr, yt⟩
      · simp only [Ans.mk.injEq] at hsame
        obtain ⟨rfl, rfl, rfl⟩ := hsame
        go_wp2_with fail
        go_roundw
        case rel => exact ⟨k + 1, T, s3, m3, by omega, by go_num, rfl, L13.out, N13.out, KC3.out, KM3.out, T3.out, HLO3.out, RB13.out, M13.out⟩
        case measure => simp [intOf]; omega
      · have hr4 : ¬ 2 ≤ c.r.cells := fun h => hsame (PE.out h)
        have hcc := HCCC.out
        have hrc := HRC.out
        have hone : r4 = 1 := by omega
        have d4 : decide (1 < r4) = false := by simp; omega
        clear hr4 hcc hrc
        simp only [Ans.mk.injEq] at hsame
        clear hone
        by_cases hx1 : xv = yv
        · subst hx1
          by_cases hx2 : xr = yr
          · subst hx2
            have hx3 : (xt == yt) = false := by simp; exact fun h => hsame ⟨rfl, rfl, h⟩
            clear hsame
            go_wp2_with fail
            go_roundw
            case rel => exact ⟨k + 1, T, s3, m3, by omega, by go_num, rfl, L13.out, N13.out, KC3.out, KM3.out, T3.out, HLO3.out, RB13.out, M13.out⟩
            case measure => simp [intOf]; omega
          · have hx2' : (xr == yr) = false := by simp [hx2]
            clear hsame hx2
            go_wp2_with fail
            go_roundw
            case rel => exact ⟨k + 1, T, s3, m3, by omega, by go_num, rfl, L13.out, N13.out, KC3.out, KM3.out, T3.out, HLO3.out, RB13.out, M13.out⟩
            case measure => simp [intOf]; omega
        · have hx1' : (xv == yv) = false := by simp [hx1]
          clear hsame hx1
          go_wp2_with fail
          go_roundw
          case rel => exact ⟨k + 1, T, s3, m3, by omega, by go_num, rfl, L13.out, N13.out, KC3.out, KM3.out, T3.out, HLO3.out, RB13.out, M13.out⟩
          case measure => simp [intOf]; omega
    · obtain rfl : k = n := by omega
      have dk : decide ((k : Int) < (k : Int)) = false := by simp
      clear hLr hLm hKr hKm hTw hLo hRr hM
      go_wp2_with fail
      have TV := totV_twin HTw.out
      go_wp2_with fail
      refine (totals_any LR.out).mono ?_
      rintro e5 w5 ⟨rfl, hM5⟩
      have N5 := Lib.hid (LRm.out.mod0 hM5)
      have M5 := Lib.hid (MR.out.trans hM5)
      clear hM5
      go_wp2_with fail
      refine (totals_any N5.out).mono ?_
      rintro e6 w6 ⟨rfl, hM6⟩
      rw [← TV]
      unfold totV
      have M6 := Lib.hid (M5.out.trans hM6)
      clear hM6 TV
      go_wp2_with fail
      go_ret
      exact ⟨rfl, M6.out⟩
theorem alone_law (w : World) (p : Plan) (v0 v1 : Value) (z0 z1 : List Int) (h0 : Sl w v0 (z0.map (Value.int .u64)) ∧ ∀ z ∈ z0, (Lit.int .u64 z).wf = true) (h1 : Sl w v1 (z1.map (Value.int .u64)) ∧ ∀ z ∈ z1, (Lit.int .u64 z).wf = true) (a : Option Addr) (cp : Nat) (l : List Call) (hm : l.length ≤ maxLen) (hP : InRow w a 4 Call.cells l) :
    Calls Try.prog 8 #[p.val, .agg #[v0, v1], .slice a l.length cp] w fun e w' => e = .returned (.bool true) ∧ Mod [] w w' := by
  obtain ⟨h0, hw0⟩ := h0
  obtain ⟨h1, hw1⟩ := h1
  obtain ⟨ds, hds, hdx⟩ := u64s hw0
  obtain ⟨es, hes, hex⟩ := u64s hw1
  rw [hds] at h0
  rw [hes] at h1
  clear hds hw0 hes hw1
  cases hd60 : decide ((60 : Int) < wrap64 ((ds.length : Int) + (es.length : Int))) with
  | false =>
    cases hL : lightB l with
    | true => exact alone_main w p v0 v1 ds es h0 h1 hdx hex hd60 a cp l hm hP hL
    | false =>
      have LI := Lib.hid (fun W (hM : Mod [] w W) => light_any (inrow_mod hP hM) hm cp)
      rw [hL] at LI
      obtain ⟨da, dc, rfl⟩ := sl_slice h0
      obtain ⟨ea, ec, rfl⟩ := sl_slice h1
      have hdl : (v64 ds).length = ds.length := by simp [v64]
      have hel : (v64 es).length = es.length := by simp [v64]
      rw [hdl, hel]
      obtain ⟨p0, p1, p2, p3, p4, p5, p6, p7, p8⟩ := p
      simp only [Plan.val] at *
      have M0 := Lib.hid (((Mod.refl [] w).alloc (.cells #[.int .i64 p0, .int .i64 p1, .int .i64 p2, .int .i64 p3, .int .i64 p4, .int .i64 p5, .int .i64 p6, .int .i64 p7, .bool p8] 23)).alloc (.cells #[.slice da ds.length dc, .slice ea es.length ec] 66))
      have DB0 := Lib.hid (Blk.new (w.alloc (.cells #[.int .i64 p0, .int .i64 p1, .int .i64 p2, .int .i64 p3, .int .i64 p4, .int .i64 p5, .int .i64 p6, .int .i64 p7, .bool p8] 23)) [.slice da ds.length dc, .slice ea es.length ec] 66)
      rw [show (w.alloc (.cells #[.int .i64 p0, .int .i64 p1, .int .i64 p2, .int .i64 p3, .int .i64 p4, .int .i64 p5, .int .i64 p6, .int .i64 p7, .bool p8] 23)).heap.size = w.heap.size + 1 by simp] at DB0
      clear hP hm hL h0 h1 hdx hex hdl hel
      generalize ds.length = dn at *
      generalize es.length = en at *
      generalize l.length = n at *
      go_enter Try.func8, Try.ntmps8
      go_wp2_with fail
      refine (fit_any _).mono ?_
      rintro e1 w1 ⟨rfl, hM1⟩
      have M1 := Lib.hid (M0.out.trans hM1)
      have DB1 := Lib.hid (hM1.blk DB0.out (by simp))
      have db0 := DB1.out.cell (i := 0) rfl
      have db1 := DB1.out.cell (i := 1) rfl
      clear hM1
      go_wp2_with fail
      refine (LI.out _ M1.out).mono ?_
      rintro e2 w2 ⟨rfl, hM2⟩
      go_wp2_with fail
      go_ret
      exact ⟨rfl, M1.out.trans hM2⟩
  | true =>
    obtain ⟨da, dc, rfl⟩ := sl_slice h0
    obtain ⟨ea, ec, rfl⟩ := sl_slice h1
    have hdl : (v64 ds).length = ds.length := by simp [v64]
    have hel : (v64 es).length = es.length := by simp [v64]
    rw [hdl, hel]
    obtain ⟨p0, p1, p2, p3, p4, p5, p6, p7, p8⟩ := p
    simp only [Plan.val] at *
    have M0 := Lib.hid (((Mod.refl [] w).alloc (.cells #[.int .i64 p0, .int .i64 p1, .int .i64 p2, .int .i64 p3, .int .i64 p4, .int .i64 p5, .int .i64 p6, .int .i64 p7, .bool p8] 23)).alloc (.cells #[.slice da ds.length dc, .slice ea es.length ec] 66))
    have DB0 := Lib.hid (Blk.new (w.alloc (.cells #[.int .i64 p0, .int .i64 p1, .int .i64 p2, .int .i64 p3, .int .i64 p4, .int .i64 p5, .int .i64 p6, .int .i64 p7, .bool p8] 23)) [.slice da ds.length dc, .slice ea es.length ec] 66)
    rw [show (w.alloc (.cells #[.int .i64 p0, .int .i64 p1, .int .i64 p2, .int .i64 p3, .int .i64 p4, .int .i64 p5, .int .i64 p6, .int .i64 p7, .bool p8] 23)).heap.size = w.heap.size + 1 by simp] at DB0
    clear hP hm h0 h1 hdx hex hdl hel
    generalize ds.length = dn at *
    generalize es.length = en at *
    generalize l.length = n at *
    go_enter Try.func8, Try.ntmps8
    go_wp2_with fail
    refine (fit_any _).mono ?_
    rintro e1 w1 ⟨rfl, hM1⟩
    have M1 := Lib.hid (M0.out.trans hM1)
    have DB1 := Lib.hid (hM1.blk DB0.out (by simp))
    have db0 := DB1.out.cell (i := 0) rfl
    have db1 := DB1.out.cell (i := 1) rfl
    clear hM1
    go_wp2_with fail
    go_ret
    exact ⟨rfl, M1.out⟩
end Go.Proofs.Ytndekdafiaogmaa.Lim
end
