/- limiter's laws: LimiterRows. No condition. (written by wip/tools) -/
import Derived.Test.YtndekdafiaogmaaZLimC
import Derived.Test.YtndekdafiaogmaaZLimD
section
namespace Go.Proofs.Ytndekdafiaogmaa.Lim
open Go Go.RowKit Go.YtndekdafiaogmaaMem Go.YtndekdafiaogmaaLex Go.Proofs.Ytndekdafiaogmaa.Hash Go.Proofs.Ytndekdafiaogmaa.Arith Go.Proofs.Ytndekdafiaogmaa.Index Go.Proofs.Ytndekdafiaogmaa.Cell Go.Proofs.Ytndekdafiaogmaa.Slot
open Go.Proofs.Ytndekdafiaogmaa.Pool (PS putP remP pairs PB PoolAt firstIdle)
open Go.Proofs.Ytndekdafiaogmaa.Ring (Rs RiB RingAt estS addR waitS massS massTo Small small_get leastV leastV_small ring0)
open Go.Proofs.Ytndekdafiaogmaa.Sum (Ent OkE SB SumAt countE leastOf)
set_option linter.unusedVariables false
set_option linter.unusedSimpArgs false

/-- What some row has, and how much it is at most. -/
def MassIn (c : Cf) (x : Rs) (key : List UInt8) (z : Int) : Prop := (∃ row, row < c.R.length ∧ z = massS c.R c.wd x row key) ∧ 0 ≤ z ∧ z ≤ 1000000000
theorem mass_in {c : Cf} {s : Lm} {K : Nat} (h : Inv c s K) (hf : s.ring.st.length ≤ 65) (key : List UInt8) {row : Nat} (hr : row < c.R.length) (t : Nat) : MassIn c (Ring.to s.ring t) key (massS c.R c.wd (Ring.to s.ring t) row key) := by
  have := massTo_upto (R := c.R) (wd := c.wd) (x := Ring.to s.ring t) h.cnt (by have := h.big; omega) row key ((Ring.to s.ring t).now / (Ring.to s.ring t).width) s.ring.st.length (by omega)
  have h2 : s.ring.st.length * K ≤ 65 * 4194304 := Nat.mul_le_mul hf h.big
  refine ⟨⟨row, hr, rfl⟩, this.1, ?_⟩
  have h3 := this.2
  show massTo c.R c.wd (Ring.to s.ring t) row key ((Ring.to s.ring t).now / (Ring.to s.ring t).width) s.ring.st.length ≤ _
  omega
theorem mass_min {c : Cf} {x : Rs} {key : List UInt8} {a b : Int} (h1 : MassIn c x key a) (h2 : MassIn c x key b) : MassIn c x key (min a b) := by
  rcases Int.le_total a b with h | h
  · rw [Int.min_eq_left h]; exact h1
  · rw [Int.min_eq_right h]; exact h2
set_option maxRecDepth 8000 in
set_option maxHeartbeats 12800000 in
theorem rows_main (w : World) (p : Plan) (v : Value) (ds : List Nat) (hd : Sl w v (v64 ds)) (hdx : ∀ x, x ∈ ds → x < 18446744073709551616) (hd60 : ds.length ≤ 60) (a : Option Addr) (cp : Nat) (l : List Call) (hm : l.length ≤ maxLen) (hP : InRow w a 4 Call.cells l) (hL : lightB l = true) :
    Calls Try.prog 11 #[p.val, v, .slice a l.length cp] w fun e w' => e = .returned (.bool true) ∧ Mod [] w w' := by
  obtain ⟨hl150, hkeys⟩ := light_spec hL
  obtain ⟨hro, hlim⟩ := rule_ok p
  have LI := Lib.hid (fun W (hM : Mod [] w W) => light_any (inrow_mod hP hM) hm cp)
  rw [hL] at LI
  have GET := Lib.hid (fun j q (hq : l[j]? = some q) => inrow_get hP hq)
  have KEY := Lib.hid (fun j q (hq : l[j]? = some q) => hkeys q (List.mem_of_getElem? hq))
  have RU := Lib.hid (fun W : World => rule_any p W)
  have hrg0 : RingOf (cfOf p.rule ds) (new0 (cfOf p.rule ds)).ring := ring_of0 (rule_ok p).1
  obtain ⟨r, hr⟩ : ∃ r, p.rule = r := ⟨_, rfl⟩
  rw [hr] at RU hro hlim hrg0
  have HRO := Lib.hid hro
  have NW := Lib.hid (fun (W : World) (hM : Mod [] w W) => new_any (hd.mod hM (by simp)) hdx r hro)
  have CO := Lib.hid (fun z (W : World) => cost_any r (by have := hro.burst; omega) z W)
  obtain ⟨c, hc⟩ : ∃ c, cfOf r ds = c := ⟨_, rfl⟩
  have hcr : c.r = r := by rw [← hc]; rfl
  have HCR := Lib.hid hcr
  have HC := Lib.hid (show c.Ok by rw [← hc]; exact hro.cf ds)
  rw [hc] at NW hrg0
  have HG0 := Lib.hid hrg0
  have HLIM := Lib.hid hlim
  have hbur := hro.burst
  obtain ⟨da, dc, rfl⟩ := sl_slice hd
  have hdl : (v64 ds).length = ds.length := by simp [v64]
  rw [hdl] at NW ⊢
  have HRL := Lib.hid (show c.R.length = c.r.rows.toNat by rw [← hc]; exact rowsOf_length _ _)
  obtain ⟨p0, p1, p2, p3, p4, p5, p6, p7, p8⟩ := p
  obtain ⟨r0, r1, r2, r3, r4, r5, r6, r7, r8⟩ := r
  simp only [Plan.val, Rule.val] at *
  have PB0 := Lib.hid (Blk.new w [.int .i64 p0, .int .i64 p1, .int .i64 p2, .int .i64 p3, .int .i64 p4, .int .i64 p5, .int .i64 p6, .int .i64 p7, .bool p8] 23)
  have M0 := Lib.hid ((Mod.refl [] w).alloc (.cells #[.int .i64 p0, .int .i64 p1, .int .i64 p2, .int .i64 p3, .int .i64 p4, .int .i64 p5, .int .i64 p6, .int .i64 p7, .bool p8] 23))
  obtain ⟨n, hn⟩ : ∃ n, l.length = n := ⟨_, rfl⟩
  have HN := Lib.hid hn
  rw [hn] at LI hl150 ⊢
  obtain ⟨dn, hdn⟩ : ∃ dn, ds.length = dn := ⟨_, rfl⟩
  rw [hdn] at hd60 NW ⊢
  have d60 : decide ((60 : Int) < (dn : Int)) = false := by simp; omega
  clear hP hm hL hkeys hro hr hc hcr hlim hn hrg0 hd hdx hdl hdn
  go_enter Try.func11, Try.ntmps11
  go_wp2_with fail
  refine (fit_any _).mono ?_
  rintro e1 w1 ⟨rfl, hM1⟩
  have M1 := Lib.hid (M0.out.trans hM1)
  have PB1 := Lib.hid (hM1.blk PB0.out (by simp))
  clear hM1
  go_wp2_with fail
  refine (LI.out _ M1.out).mono ?_
  rintro e2 w2 ⟨rfl, hM2⟩
  have M2 := Lib.hid (M1.out.trans hM2)
  have PB2 := Lib.hid (hM2.blk PB1.out (by simp))
  have b0 := PB2.out.cell (i := 0) rfl
  have b1 := PB2.out.cell (i := 1) rfl
  have b2 := PB2.out.cell (i := 2) rfl
  have b3 := PB2.out.cell (i := 3) rfl
  have b4 := PB2.out.cell (i := 4) rfl
  have b5 := PB2.out.cell (i := 5) rfl
  have b6 := PB2.out.cell (i := 6) rfl
  have b7 := PB2.out.cell (i := 7) rfl
  have b8 := PB2.out.cell (i := 8) rfl
  clear hM2
  go_wp2_with fail
  refine (RU.out _).mono ?_
  rintro e3 w3 ⟨rfl, hM3⟩
  have M3 := Lib.hid (M2.out.trans hM3)
  have RB3 := Lib.hid (Blk.new w3 [.int .i64 r0, .int .i64 r1, .int .i64 r2, .int .i64 r3, .int .i64 r4, .int .i64 r5, .int .i64 r6, .int .i64 r7, .bool r8] 29)
  have A3 := Lib.hid ((Mod.refl [] w3).alloc (.cells #[.int .i64 r0, .int .i64 r1, .int .i64 r2, .int .i64 r3, .int .i64 r4, .int .i64 r5, .int .i64 r6, .int .i64 r7, .bool r8] 29))
  have hlt3 : w.heap.size < w3.heap.size := (hM3.blk PB2.out (by simp)).lt
  clear hM3 b0 b1 b2 b3 b4 b5 b6 b7 b8
  simp only [Rule.val]
  go_wp2_with fail
  refine (NW.out _ (M3.out.trans A3.out)).mono ?_
  rintro e4 w4 ⟨B, rfl, hL4, hB4, hrb4, hM4⟩
  have BL := Lib.hid (show (∀ b, b ∈ B.all → w.heap.size < b) ∧ w3.heap.size ∉ B.all from by
    have h3 : w3.heap.size + 1 ≤ (w3.alloc (.cells #[.int .i64 r0, .int .i64 r1, .int .i64 r2, .int .i64 r3, .int .i64 r4, .int .i64 r5, .int .i64 r6, .int .i64 r7, .bool r8] 29)).heap.size := by simp
    exact ⟨fun b hb => by have := hB4 b hb; omega, fun hb => by have := hB4 _ hb; omega⟩)
  have RB4 := Lib.hid (hM4.blk RB3.out (by simp))
  have L4 := Lib.hid hL4
  have M4 := Lib.hid ((M3.out.trans A3.out).trans hM4)
  clear hL4 hB4 hrb4 hM4
  go_wp2_with fail
  go_loopw [9, 36] (fun now i W => ∃ (k t : Nat) (s : Lm), k ≤ n ∧ i = .int .i64 (k : Int) ∧ now = .int .i64 (t : Int) ∧ LimAt W B c s ∧ Kept c s k t ∧ RingOf c s.ring ∧ Blk W w3.heap.size 29 [.int .i64 r0, .int .i64 r1, .int .i64 r2, .int .i64 r3, .int .i64 r4, .int .i64 r5, .int .i64 r6, .int .i64 r7, .bool r8] ∧ Mod [] w W) (fun _ i _ => n - (intOf i).toNat)
  case atStart => exact ⟨0, 0, new0 c, Nat.zero_le _, rfl, rfl, L4.out, kept0 c HC.out, HG0.out, RB4.out, M4.out⟩
  case round =>
    obtain ⟨k, t, s, hk, rfl, rfl, hLr, hKr, hGr, hRr, hM⟩ := hrel
    have LR := Lib.hid hLr
    have HK := Lib.hid hKr
    have HG := Lib.hid hGr
    have RR := Lib.hid hRr
    have MR := Lib.hid hM
    by_cases hlt : k < n
    · obtain ⟨q, hq⟩ : ∃ q, l[k]? = some q := ⟨_, List.getElem?_eq_getElem (by have := HN.out; omega)⟩
      obtain ⟨b, off, rfl, hcells⟩ := GET.out k q hq
      have hk64 := KEY.out k q hq
      obtain ⟨x0, x1, x2, x3⟩ := hcells wr hM
      obtain ⟨gz, cz, key, pk⟩ := q
      simp only at x0 x1 x2 x3 hk64
      have HF := Lib.hid (hLr.ring.few.2)
      have CC := Lib.hid (Blk.new wr [.int .i64 gz, .int .i64 cz, .string ⟨key.toArray⟩, .bool pk] 35)
      have AC := Lib.hid ((Mod.refl [] wr).alloc (.cells #[.int .i64 gz, .int .i64 cz, .string ⟨key.toArray⟩, .bool pk] 35))
      have hrw : w3.heap.size < wr.heap.size := hRr.lt
      have hrw' : ¬ w3.heap.size = wr.heap.size := by omega
      have hti := hKr.time
      have rb0 := hRr.cell (i := 0) rfl
      have rb1 := hRr.cell (i := 1) rfl
      have rb2 := hRr.cell (i := 2) rfl
      have rb3 := hRr.cell (i := 3) rfl
      have rb4 := hRr.cell (i := 4) rfl
      have rb5 := hRr.cell (i := 5) rfl
      have rb6 := hRr.cell (i := 6) rfl
      have rb7 := hRr.cell (i := 7) rfl
      have rb8 := hRr.cell (i := 8) rfl
      have dk : decide ((k : Int) < (n : Int)) = true := by simp; omega
      obtain ⟨hk150, ht2⟩ := small_kt (show k ≤ 149 by omega) hti.2
      clear hLr hKr hGr hRr hM hcells hq
      go_wp2_with fail
      refine (gap_any gz _).mono ?_
      rintro e5 w5 ⟨g, rfl, hg, rfl⟩
      go_wp2_with fail
      refine (CO.out cz _).mono ?_
      rintro e6 w6 ⟨n1, rfl, hn1, hM6⟩
      have MC6 := Lib.hid (AC.out.trans hM6)
      have RB6 := Lib.hid (MC6.out.blk RR.out (by simp))
      have CC6 := Lib.hid (hM6.blk CC.out (by simp))
      have cc2 := CC6.out.cell (i := 2) rfl
      have rb2' := RB6.out.cell (i := 2) rfl
      have hlim2 : c.r.limit ≤ 32 := by rw [HCR.out]; exact HLIM.out
      have hcb : c.r.burst = r2 := by rw [HCR.out]
      clear hM6 x0 x1 x2 x3 rb0 rb1 rb2 rb3 rb4 rb5 rb6 rb7 rb8
      obtain ⟨wb, rfl⟩ : ∃ wb, wb = wr := ⟨_, rfl⟩
      have hrn : c.R.length = c.r.rows.toNat := HRL.out
      have hrr : c.r.rows = r5 := by rw [HCR.out]
      have hr5 := HRO.out.rows
      simp only at hr5
      obtain ⟨rows, hrows⟩ : ∃ rows : Nat, r5 = (rows : Int) := ⟨r5.toNat, by omega⟩
      subst hrows
      have hR : c.R.length = rows := by omega
      have HR := Lib.hid hR
      obtain ⟨T, hT⟩ : ∃ T, t + g = T := ⟨_, rfl⟩
      have hTi : (t : Int) + (g : Int) = (T : Int) := by omega
      have HKI := Lib.hid HK.out.inv
      have hTs : s.ring.now ≤ T := by have := HK.out.time; omega
      have K2 := Lib.hid (HK.out.both HC.out hlim2 (by omega) HF.out hg hk64 hn1)
      have KS := Lib.hid (HK.out.skip (by omega) hg)
      rw [hT] at K2 KS
      have HT := Lib.hid hT
      have hTb : T ≤ 300000 := by omega
      have MI := Lib.hid (fun row (hr : row < rows) => mass_in HKI.out HF.out key (hR ▸ hr) T)
      have MA := Lib.hid (fun W row (hr : row < rows) (hL : LimAt W B c s) => mass_any hL HKI.out.small T (by omega) row (hR ▸ hr) key (by omega))
      have MB := Lib.hid (fun W row (hr : row < rows) (hL : LimAt W B c (s.to (T : Int))) => mass_any hL (show Small (s.to (T : Int)).ring from HKI.out.small) T (by omega) row (hR ▸ hr) key (by omega))
      have ETT : (s.to (T : Int)).to (T : Int) = s.to (T : Int) := lm_to_to s (Nat.le_refl _)
      have ERR : Ring.to (s.to (T : Int)).ring T = Ring.to s.ring T := by
        have : ((s.to (T : Int)).to (T : Int)).ring = (s.to (T : Int)).ring := by rw [ETT]
        exact this
      rw [ETT, ERR] at MB
      obtain ⟨j1, j2⟩ := HKI.out.to (now := T) hTs (by omega)
      have HJ1 := Lib.hid j1
      have HG1 := Lib.hid (show RingOf c (s.to (T : Int)).ring from RingOf.rk HG.out rfl)
      have hstep : c.step = 2 * c.r.limit.toNat + 1 := rfl
      have hkb : 65 * k ≤ 10000 := by omega
      have CKf := Lib.hid (fun W (hL : LimAt W B c (s.to (T : Int))) => check_any hL j1 HC.out (by omega) (now := T) (by omega) 0 key (by omega) (n1 : Int))
      have G2 := Lib.hid (RingOf.rk (y := (check c (s.to (T : Int)) (T : Int) 0 key (n1 : Int)).2.2.ring) HG1.out (rk_check _ _ _ _ _ _))
      have CRW := Lib.hid (fun row (hr : row < c.R.length) (hf : refuse c.r (T : Int) 0 (n1 : Int) = none) h1 h2 h3 => check_row (now := T) j1 HG1.out (by omega) (by omega) (key := key) (cost := (n1 : Int)) hf hr h1 h2 h3)
      have ETR := Lib.hid (show ((s.to (T : Int)).to (T : Int)).ring = Ring.to s.ring T by rw [ETT]; rfl)
      have HCB := Lib.hid hcb
      have hcl : c.r.limit = r0 := by rw [HCR.out]
      have HCL := Lib.hid hcl
      have HMB := Lib.hid (show ∀ b, b ∈ B.all → b ≠ wb.heap.size from fun b hb => by have := LR.out.lt _ hb; omega)
      have HN1 := Lib.hid hn1
      have hr01 : 1 ≤ rows := by omega
      have hr08 : rows ≤ 8 := by omega
      have hl32 : r0 ≤ 32 := by omega
      have hb32 : 1 ≤ r2 := by omega
      rw [hTi]
      clear hrn hrr hr5 hR hT hTi j1 j2 hstep ETT ERR hcb hcl hlim2 hti
      go_wp2_with fail
      refine (MA.out _ 0 (by omega) (LR.out.mod0 MC6.out)).mono ?_
      rintro e7 w7 ⟨rfl, hL7, hM7⟩
      have L7 := Lib.hid hL7
      have RB7 := Lib.hid (hM7.blk RB6.out BL.out.2)
      have CC7 := Lib.hid (hM7.blk CC6.out (fun hb => HMB.out _ hb rfl))
      have M7 := Lib.hid ((MR.out.trans MC6.out).trans' hM7 (fun b hb => .inr (by have := BL.out.1 b hb; omega)))
      obtain ⟨z0, hz0⟩ : ∃ z, massS c.R c.wd (Ring.to s.ring T) 0 key = z := ⟨_, rfl⟩
      have Z0 := Lib.hid (show MassIn c (Ring.to s.ring T) key z0 by rw [← hz0]; exact MI.out 0 (by omega))
      rw [hz0]
      clear hL7 hM7 hz0 cc2 rb2'
      go_wp2_with fail
      go_loopw [13, 14] (fun m i W => ∃ (row : Nat) (z : Int), 1 ≤ row ∧ row ≤ rows ∧ i = .int .i64 (row : Int) ∧ m = .int .i64 z ∧ MassIn c (Ring.to s.ring T) key z ∧ LimAt W B c (s.to (T : Int)) ∧ Blk W w3.heap.size 29 [.int .i64 r0, .int .i64 r1, .int .i64 r2, .int .i64 r3, .int .i64 r4, .int .i64 (rows : Int), .int .i64 r6, .int .i64 r7, .bool r8] ∧ Blk W wb.heap.size 35 [.int .i64 gz, .int .i64 cz, .string ⟨key.toArray⟩, .bool pk] ∧ Mod [] w W) (fun _ i _ => rows - (intOf i).toNat)
      case atStart => exact ⟨1, z0, Nat.le_refl _, by omega, rfl, rfl, Z0.out, L7.out, RB7.out, CC7.out, M7.out⟩
      case round =>
        obtain ⟨row, z, hrow1, hrow, rfl, rfl, hZ, hL8, hR8, hC8, hM8⟩ := hrel
        have Z8 := Lib.hid hZ
        have L8 := Lib.hid hL8
        have RB8 := Lib.hid hR8
        have CC8 := Lib.hid hC8
        have M8 := Lib.hid hM8
        have rb85 := RB8.out.cell (i := 5) rfl
        have cc82 := CC8.out.cell (i := 2) rfl
        clear hZ hL8 hR8 hC8 hM8
        by_cases hin : row < rows
        · have dr : decide ((row : Int) < (rows : Int)) = true := by simp; omega
          have dr' : decide (row < rows) = true := by simp; omega
          go_wp2_with fail
          refine (MB.out _ row hin L8.out).mono ?_
          rintro e9 w9 ⟨rfl, hL9, hM9⟩
          have L9 := Lib.hid hL9
          have RB9 := Lib.hid (hM9.blk RB8.out BL.out.2)
          have CC9 := Lib.hid (hM9.blk CC8.out (fun hb => HMB.out _ hb rfl))
          have M9 := Lib.hid (M8.out.trans' hM9 (fun b hb => .inr (by have := BL.out.1 b hb; omega)))
          obtain ⟨z1, hz1⟩ : ∃ z, massS c.R c.wd (Ring.to s.ring T) row key = z := ⟨_, rfl⟩
          have Z1 := Lib.hid (show MassIn c (Ring.to s.ring T) key z1 by rw [← hz1]; exact MI.out row hin)
          rw [hz1]
          have mr := min_run z z1
          have Z2 := Lib.hid (mass_min Z8.out Z1.out)
          obtain ⟨z2, hz2⟩ : ∃ z2, min z z1 = z2 := ⟨_, rfl⟩
          rw [hz2] at mr Z2
          clear hL9 hM9 hz1 hz2 rb85 cc82
          go_wp2_with fail
          go_roundw
          case rel => exact ⟨row + 1, z2, by omega, by omega, by go_num, rfl, Z2.out, L9.out, RB9.out, CC9.out, M9.out⟩
          case measure => simp [intOf]; omega
        · have dr : decide ((row : Int) < (rows : Int)) = false := by simp; omega
          have dr' : decide (row < rows) = false := by simp; omega
          go_wp2_with fail
          refine (CKf.out _ L8.out).mono ?_
          rintro e10 w10 ⟨v10, rfl, hO10, hL10, hM10⟩
          obtain ⟨a10, c10, rfl⟩ := hO10.slice
          have L10 := Lib.hid hL10
          have RB10 := Lib.hid (hM10.blk RB8.out BL.out.2)
          have CC10 := Lib.hid (hM10.blk CC8.out (fun hb => HMB.out _ hb rfl))
          have M10 := Lib.hid (M8.out.trans' hM10 (fun b hb => .inr (by have := BL.out.1 b hb; omega)))
          have cc102 := CC10.out.cell (i := 2) rfl
          have lt10 : wb.heap.size < w10.heap.size := CC10.out.lt
          have lt10' : ¬ wb.heap.size = w10.heap.size := by omega
          rcases hck : check c (s.to (T : Int)) (T : Int) 0 key (n1 : Int) with ⟨⟨av, ar, at_⟩, ev, s2⟩
          have CR2 := CRW.out
          rw [hck] at CR2
          simp only at CR2
          have CR3 := Lib.hid CR2
          rw [hck] at L10 K2 G2
          simp only at L10 K2 G2
          clear hO10 hL10 hM10 hck CR2 rb85 cc82
          simp only [Ans.val]
          have RS := Lib.hid (fun W (hL : LimAt W B c s2) => resident_any hL key (by omega))
          have AN10 := Lib.hid (Blk.new w10 [.int .i64 av, .int .i64 ar, .int .i64 at_] 39)
          obtain ⟨le, hle⟩ : ∃ le, ev.length = le := ⟨_, rfl⟩
          have HLE := Lib.hid hle
          rw [hle]
          clear hle
          cases hpl : placeOf s2.pool.S key with
          | some i0 =>
            have hv : resV s2 key = .tuple #[(s2.pool.C.getD i0 .zero).val, .bool true] := by unfold resV; rw [hpl]
            rw [hv] at RS
            generalize s2.pool.C.getD i0 .zero = xc at *
            obtain ⟨xc0, xc1, xc2, xc3⟩ := xc
            clear hv hpl
            go_wp2_with fail
            refine (RS.out _ (L10.out.mod0 ((Mod.refl [] w10).alloc _))).mono ?_
            rintro e11 w11 ⟨rfl, hM11⟩
            have RB11 := Lib.hid (hM11.blk (RB10.out.alloc _) (by simp))
            have L11 := Lib.hid ((L10.out.mod0 ((Mod.refl [] w10).alloc _)).mod0 hM11)
            have M11 := Lib.hid ((M10.out.alloc _).trans hM11)
            clear hM11 cc102
            simp only [Cell.val]
            go_wp2_with fail
            go_roundw
            case rel => exact ⟨k + 1, T, s2, by omega, by go_num, rfl, L11.out.mod0 ((Mod.refl [] w11).alloc _), K2.out, G2.out, RB11.out.alloc _, M11.out.alloc _⟩
            case measure => simp [intOf]; omega
          | none =>
            have HPL := Lib.hid hpl
            have hv : resV s2 key = .tuple #[Cell.zero.val, .bool false] := by unfold resV; rw [hpl]
            rw [hv] at RS
            clear hv hpl
            go_wp2_with fail
            refine (RS.out _ (L10.out.mod0 ((Mod.refl [] w10).alloc _))).mono ?_
            rintro e11 w11 ⟨rfl, hM11⟩
            have RB11 := Lib.hid (hM11.blk (RB10.out.alloc _) (by simp))
            have AN11 := Lib.hid (hM11.blk AN10.out (by simp))
            have L11 := Lib.hid ((L10.out.mod0 ((Mod.refl [] w10).alloc _)).mod0 hM11)
            have M11 := Lib.hid ((M10.out.alloc _).trans hM11)
            have an0 := AN11.out.cell (i := 0) rfl
            have ltan : w10.heap.size < w11.heap.size := AN11.out.lt
            have ltan' : ¬ w10.heap.size = w11.heap.size := by omega
            have rb110 := RB11.out.cell (i := 0) rfl
            have rb112 := RB11.out.cell (i := 2) rfl
            have ltrb : w3.heap.size < w11.heap.size := RB11.out.lt
            have ltrb' : ¬ w3.heap.size = w11.heap.size := by omega
            have FIN : Hid (∃ st : Lm, st = s2) := Lib.hid ⟨s2, rfl⟩
            clear hM11 cc102
            simp only [Cell.val, Cell.zero]
            by_cases h1 : le = 0
            · subst h1
              by_cases h2 : 1 ≤ n1
              · have d2 : decide ((n1 : Int) < 1) = false := by simp; omega
                have d2' : decide (n1 < 1) = false := by simp; omega
                have d2a : decide (1 ≤ (n1 : Int)) = true := by simp; omega
                have d2b : decide (1 ≤ n1) = true := by simp; omega
                by_cases h3 : (n1 : Int) ≤ r2
                · have d3 : decide ((n1 : Int) ≤ r2) = true := by simp [h3]
                  obtain ⟨hz, hz0, hz1⟩ := Z8.out
                  by_cases h4 : z + (n1 : Int) ≤ r0
                  · have d4 : decide (z + (n1 : Int) ≤ r0) = true := by simp [h4]
                    have hvd : av = 1 := by
                      obtain ⟨row0, hrow0, hzz⟩ := hz
                      refine CR3.out row0 hrow0 ?_ (List.eq_nil_of_length_eq_zero HLE.out) HPL.out ?_
                      · have := HCB.out
                        unfold refuse
                        rw [if_neg (by omega), if_neg (by omega), if_neg (by omega)]
                      · have := HCL.out
                        rw [ETR.out, ← hzz]; omega
                    subst hvd
                    clear hz h2 h3 h4
                    go_wp2_with fail
                    go_roundw
                    case rel => exact ⟨k + 1, T, s2, by omega, by go_num, rfl, L11.out.mod0 ((Mod.refl [] w11).alloc _), K2.out, G2.out, RB11.out.alloc _, M11.out.alloc _⟩
                    case measure => simp [intOf]; omega
                  · have d4 : decide (z + (n1 : Int) ≤ r0) = false := by simp; omega
                    clear hz h2 h3 h4
                    go_wp2_with fail
                    go_roundw
                    case rel => exact ⟨k + 1, T, s2, by omega, by go_num, rfl, L11.out.mod0 ((Mod.refl [] w11).alloc _), K2.out, G2.out, RB11.out.alloc _, M11.out.alloc _⟩
                    case measure => simp [intOf]; omega
                · have d3 : decide ((n1 : Int) ≤ r2) = false := by simp; omega
                  clear h2 h3
                  go_wp2_with fail
                  go_roundw
                  case rel => exact ⟨k + 1, T, s2, by omega, by go_num, rfl, L11.out.mod0 ((Mod.refl [] w11).alloc _), K2.out, G2.out, RB11.out.alloc _, M11.out.alloc _⟩
                  case measure => simp [intOf]; omega
              · have d2a : decide (1 ≤ (n1 : Int)) = false := by simp; omega
                have d2b : decide (1 ≤ n1) = false := by simp; omega
                clear h2
                go_wp2_with fail
                go_roundw
                case rel => exact ⟨k + 1, T, s2, by omega, by go_num, rfl, L11.out.mod0 ((Mod.refl [] w11).alloc _), K2.out, G2.out, RB11.out.alloc _, M11.out.alloc _⟩
                case measure => simp [intOf]; omega
            · have d1 : ((le : Int) == 0) = false := by simp [h1]
              have d1' : (le == 0) = false := by simp [h1]
              clear h1
              go_wp2_with fail
              go_roundw
              case rel => exact ⟨k + 1, T, s2, by omega, by go_num, rfl, L11.out.mod0 ((Mod.refl [] w11).alloc _), K2.out, G2.out, RB11.out.alloc _, M11.out.alloc _⟩
              case measure => simp [intOf]; omega
    · obtain rfl : k = n := by omega
      have dk : decide ((k : Int) < (k : Int)) = false := by simp
      clear hLr hKr hGr hRr hM
      go_wp2_with fail
      go_ret
      exact ⟨rfl, MR.out⟩
theorem rows_law (w : World) (p : Plan) (v : Value) (zs : List Int) (h : Sl w v (zs.map (Value.int .u64))) (hw : ∀ z ∈ zs, (Lit.int .u64 z).wf = true) (a : Option Addr) (cp : Nat) (l : List Call) (hm : l.length ≤ maxLen) (hP : InRow w a 4 Call.cells l) :
    Calls Try.prog 11 #[p.val, v, .slice a l.length cp] w fun e w' => e = .returned (.bool true) ∧ Mod [] w w' := by
  obtain ⟨ds, hds, hdx⟩ := u64s hw
  rw [hds] at h
  clear hds hw
  by_cases hd60 : ds.length ≤ 60
  · cases hL : lightB l with
    | true => exact rows_main w p v ds h hdx hd60 a cp l hm hP hL
    | false =>
      have LI := Lib.hid (fun W (hM : Mod [] w W) => light_any (inrow_mod hP hM) hm cp)
      rw [hL] at LI
      obtain ⟨da, dc, rfl⟩ := sl_slice h
      have hdl : (v64 ds).length = ds.length := by simp [v64]
      rw [hdl]
      have d60 : decide ((60 : Int) < (ds.length : Int)) = false := by simp; omega
      obtain ⟨p0, p1, p2, p3, p4, p5, p6, p7, p8⟩ := p
      simp only [Plan.val] at *
      have M0 := Lib.hid ((Mod.refl [] w).alloc (.cells #[.int .i64 p0, .int .i64 p1, .int .i64 p2, .int .i64 p3, .int .i64 p4, .int .i64 p5, .int .i64 p6, .int .i64 p7, .bool p8] 23))
      clear hP hm hL h hdx hd60 hdl
      generalize ds.length = dn at *
      generalize l.length = n at *
      go_enter Try.func11, Try.ntmps11
      go_wp2_with fail
      refine (fit_any _).mono ?_
      rintro e1 w1 ⟨rfl, hM1⟩
      have M1 := Lib.hid (M0.out.trans hM1)
      clear hM1
      go_wp2_with fail
      refine (LI.out _ M1.out).mono ?_
      rintro e2 w2 ⟨rfl, hM2⟩
      go_wp2_with fail
      go_ret
      exact ⟨rfl, M1.out.trans hM2⟩
  · obtain ⟨da, dc, rfl⟩ := sl_slice h
    have hdl : (v64 ds).length = ds.length := by simp [v64]
    rw [hdl]
    have d60 : decide ((60 : Int) < (ds.length : Int)) = true := by simp; omega
    obtain ⟨p0, p1, p2, p3, p4, p5, p6, p7, p8⟩ := p
    simp only [Plan.val] at *
    have M0 := Lib.hid ((Mod.refl [] w).alloc (.cells #[.int .i64 p0, .int .i64 p1, .int .i64 p2, .int .i64 p3, .int .i64 p4, .int .i64 p5, .int .i64 p6, .int .i64 p7, .bool p8] 23))
    clear hP hm h hdx hd60 hdl
    generalize ds.length = dn at *
    generalize l.length = n at *
    go_enter Try.func11, Try.ntmps11
    go_wp2_with fail
    refine (fit_any _).mono ?_
    rintro e1 w1 ⟨rfl, hM1⟩
    have M1 := Lib.hid (M0.out.trans hM1)
    clear hM1
    go_wp2_with fail
    go_ret
    exact ⟨rfl, M1.out⟩
end Go.Proofs.Ytndekdafiaogmaa.Lim
end
