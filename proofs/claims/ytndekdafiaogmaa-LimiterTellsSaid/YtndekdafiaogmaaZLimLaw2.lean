/- limiter's laws: LimiterTells. No condition. (written by wip/tools) -/
import Derived.Test.YtndekdafiaogmaaZLimC
section
namespace Go.Proofs.Ytndekdafiaogmaa.Lim
open Go Go.RowKit Go.YtndekdafiaogmaaMem Go.YtndekdafiaogmaaLex Go.Proofs.Ytndekdafiaogmaa.Hash Go.Proofs.Ytndekdafiaogmaa.Arith Go.Proofs.Ytndekdafiaogmaa.Index Go.Proofs.Ytndekdafiaogmaa.Cell Go.Proofs.Ytndekdafiaogmaa.Slot
open Go.Proofs.Ytndekdafiaogmaa.Pool (PS putP remP pairs PB PoolAt firstIdle)
open Go.Proofs.Ytndekdafiaogmaa.Ring (Rs RiB RingAt estS addR waitS massS Small small_get leastV leastV_small ring0)
open Go.Proofs.Ytndekdafiaogmaa.Sum (Ent OkE SB SumAt countE leastOf)
set_option linter.unusedVariables false
set_option linter.unusedSimpArgs false

set_option maxRecDepth 8000 in
set_option maxHeartbeats 12800000 in
theorem tells_main (w : World) (p : Plan) (v : Value) (ds : List Nat) (hd : Sl w v (v64 ds)) (hdx : ∀ x, x ∈ ds → x < 18446744073709551616) (hd60 : ds.length ≤ 60) (a : Option Addr) (cp : Nat) (l : List Call) (hm : l.length ≤ maxLen) (hP : InRow w a 4 Call.cells l) (hL : lightB l = true) :
    Calls Try.prog 9 #[p.val, v, .slice a l.length cp] w fun e w' => e = .returned (.bool true) ∧ Mod [] w w' := by
  obtain ⟨hl150, hkeys⟩ := light_spec hL
  obtain ⟨hro, hlim⟩ := rule_ok p
  have LI := Lib.hid (fun W (hM : Mod [] w W) => light_any (inrow_mod hP hM) hm cp)
  rw [hL] at LI
  have GET := Lib.hid (fun j q (hq : l[j]? = some q) => inrow_get hP hq)
  have KEY := Lib.hid (fun j q (hq : l[j]? = some q) => hkeys q (List.mem_of_getElem? hq))
  have RU := Lib.hid (fun W : World => rule_any p W)
  have hrg0 : RingOf (cfOf p.rule ds) (new0 (cfOf p.rule ds)).ring := ring_of0 (rule_ok p).1
  obtain ⟨r, hr⟩ : ∃ r, p.rule = r := ⟨_, rfl⟩
  rw [hr] at RU hro hlim hrg0
  have HRO := Lib.hid hro
  have NW := Lib.hid (fun (W : World) (hM : Mod [] w W) => new_any (hd.mod hM (by simp)) hdx r hro)
  have CO := Lib.hid (fun z (W : World) => cost_any r (by have := hro.burst; omega) z W)
  obtain ⟨c, hc⟩ : ∃ c, cfOf r ds = c := ⟨_, rfl⟩
  have hcr : c.r = r := by rw [← hc]; rfl
  have HCR := Lib.hid hcr
  have HC := Lib.hid (show c.Ok by rw [← hc]; exact hro.cf ds)
  rw [hc] at NW hrg0
  have HG0 := Lib.hid hrg0
  have HLIM := Lib.hid hlim
  have hbur := hro.burst
  obtain ⟨da, dc, rfl⟩ := sl_slice hd
  have hdl : (v64 ds).length = ds.length := by simp [v64]
  rw [hdl] at NW ⊢
  obtain ⟨p0, p1, p2, p3, p4, p5, p6, p7, p8⟩ := p
  obtain ⟨r0, r1, r2, r3, r4, r5, r6, r7, r8⟩ := r
  simp only [Plan.val, Rule.val] at *
  have PB0 := Lib.hid (Blk.new w [.int .i64 p0, .int .i64 p1, .int .i64 p2, .int .i64 p3, .int .i64 p4, .int .i64 p5, .int .i64 p6, .int .i64 p7, .bool p8] 23)
  have M0 := Lib.hid ((Mod.refl [] w).alloc (.cells #[.int .i64 p0, .int .i64 p1, .int .i64 p2, .int .i64 p3, .int .i64 p4, .int .i64 p5, .int .i64 p6, .int .i64 p7, .bool p8] 23))
  obtain ⟨n, hn⟩ : ∃ n, l.length = n := ⟨_, rfl⟩
  have HN := Lib.hid hn
  rw [hn] at LI hl150 ⊢
  obtain ⟨dn, hdn⟩ : ∃ dn, ds.length = dn := ⟨_, rfl⟩
  rw [hdn] at hd60 NW ⊢
  have d60 : decide ((60 : Int) < (dn : Int)) = false := by simp; omega
  clear hP hm hL hkeys hro hr hc hcr hlim hn hrg0 hd hdx hdl hdn
  go_enter Try.func9, Try.ntmps9
  go_wp2_with fail
  refine (fit_any _).mono ?_
  rintro e1 w1 ⟨rfl, hM1⟩
  have M1 := Lib.hid (M0.out.trans hM1)
  have PB1 := Lib.hid (hM1.blk PB0.out (by simp))
  clear hM1
  go_wp2_with fail
  refine (LI.out _ M1.out).mono ?_
  rintro e2 w2 ⟨rfl, hM2⟩
  have M2 := Lib.hid (M1.out.trans hM2)
  have PB2 := Lib.hid (hM2.blk PB1.out (by simp))
  have b0 := PB2.out.cell (i := 0) rfl
  have b1 := PB2.out.cell (i := 1) rfl
  have b2 := PB2.out.cell (i := 2) rfl
  have b3 := PB2.out.cell (i := 3) rfl
  have b4 := PB2.out.cell (i := 4) rfl
  have b5 := PB2.out.cell (i := 5) rfl
  have b6 := PB2.out.cell (i := 6) rfl
  have b7 := PB2.out.cell (i := 7) rfl
  have b8 := PB2.out.cell (i := 8) rfl
  clear hM2
  go_wp2_with fail
  refine (RU.out _).mono ?_
  rintro e3 w3 ⟨rfl, hM3⟩
  have M3 := Lib.hid (M2.out.trans hM3)
  have RB3 := Lib.hid (Blk.new w3 [.int .i64 r0, .int .i64 r1, .int .i64 r2, .int .i64 r3, .int .i64 r4, .int .i64 r5, .int .i64 r6, .int .i64 r7, .bool r8] 29)
  have A3 := Lib.hid ((Mod.refl [] w3).alloc (.cells #[.int .i64 r0, .int .i64 r1, .int .i64 r2, .int .i64 r3, .int .i64 r4, .int .i64 r5, .int .i64 r6, .int .i64 r7, .bool r8] 29))
  have hlt3 : w.heap.size < w3.heap.size := (hM3.blk PB2.out (by simp)).lt
  clear hM3 b0 b1 b2 b3 b4 b5 b6 b7 b8
  simp only [Rule.val]
  go_wp2_with fail
  refine (NW.out _ (M3.out.trans A3.out)).mono ?_
  rintro e4 w4 ⟨B, rfl, hL4, hB4, hrb4, hM4⟩
  have BL := Lib.hid (show (∀ b, b ∈ B.all → w.heap.size < b) ∧ w3.heap.size ∉ B.all from by
    have h3 : w3.heap.size + 1 ≤ (w3.alloc (.cells #[.int .i64 r0, .int .i64 r1, .int .i64 r2, .int .i64 r3, .int .i64 r4, .int .i64 r5, .int .i64 r6, .int .i64 r7, .bool r8] 29)).heap.size := by simp
    exact ⟨fun b hb => by have := hB4 b hb; omega, fun hb => by have := hB4 _ hb; omega⟩)
  have RB4 := Lib.hid (hM4.blk RB3.out (by simp))
  have L4 := Lib.hid hL4
  have M4 := Lib.hid ((M3.out.trans A3.out).trans hM4)
  clear hL4 hB4 hrb4 hM4
  go_wp2_with fail
  go_loopw [9, 33] (fun now i W => ∃ (k t : Nat) (s : Lm), k ≤ n ∧ i = .int .i64 (k : Int) ∧ now = .int .i64 (t : Int) ∧ LimAt W B c s ∧ Kept c s k t ∧ RingOf c s.ring ∧ Blk W w3.heap.size 29 [.int .i64 r0, .int .i64 r1, .int .i64 r2, .int .i64 r3, .int .i64 r4, .int .i64 r5, .int .i64 r6, .int .i64 r7, .bool r8] ∧ Mod [] w W) (fun _ i _ => n - (intOf i).toNat)
  case atStart => exact ⟨0, 0, new0 c, Nat.zero_le _, rfl, rfl, L4.out, kept0 c HC.out, HG0.out, RB4.out, M4.out⟩
  case round =>
    obtain ⟨k, t, s, hk, rfl, rfl, hLr, hKr, hGr, hRr, hM⟩ := hrel
    have LR := Lib.hid hLr
    have HK := Lib.hid hKr
    have HG := Lib.hid hGr
    have RR := Lib.hid hRr
    have MR := Lib.hid hM
    by_cases hlt : k < n
    · obtain ⟨q, hq⟩ : ∃ q, l[k]? = some q := ⟨_, List.getElem?_eq_getElem (by have := HN.out; omega)⟩
      obtain ⟨b, off, rfl, hcells⟩ := GET.out k q hq
      have hk64 := KEY.out k q hq
      obtain ⟨x0, x1, x2, x3⟩ := hcells wr hM
      obtain ⟨gz, cz, key, pk⟩ := q
      simp only at x0 x1 x2 x3 hk64
      have HF := Lib.hid (hLr.ring.few.2)
      have CC := Lib.hid (Blk.new wr [.int .i64 gz, .int .i64 cz, .string ⟨key.toArray⟩, .bool pk] 35)
      have AC := Lib.hid ((Mod.refl [] wr).alloc (.cells #[.int .i64 gz, .int .i64 cz, .string ⟨key.toArray⟩, .bool pk] 35))
      have hrw : w3.heap.size < wr.heap.size := hRr.lt
      have hrw' : ¬ w3.heap.size = wr.heap.size := by omega
      have hti := hKr.time
      have rb0 := hRr.cell (i := 0) rfl
      have rb1 := hRr.cell (i := 1) rfl
      have rb2 := hRr.cell (i := 2) rfl
      have rb3 := hRr.cell (i := 3) rfl
      have rb4 := hRr.cell (i := 4) rfl
      have rb5 := hRr.cell (i := 5) rfl
      have rb6 := hRr.cell (i := 6) rfl
      have rb7 := hRr.cell (i := 7) rfl
      have rb8 := hRr.cell (i := 8) rfl
      have dk : decide ((k : Int) < (n : Int)) = true := by simp; omega
      obtain ⟨hk150, ht2⟩ := small_kt (show k ≤ 149 by omega) hti.2
      clear hLr hKr hGr hRr hM hcells hq
      go_wp2_with fail
      refine (gap_any gz _).mono ?_
      rintro e5 w5 ⟨g, rfl, hg, rfl⟩
      go_wp2_with fail
      refine (CO.out cz _).mono ?_
      rintro e6 w6 ⟨n1, rfl, hn1, hM6⟩
      have MC6 := Lib.hid (AC.out.trans hM6)
      have RB6 := Lib.hid (MC6.out.blk RR.out (by simp))
      have CC6 := Lib.hid (hM6.blk CC.out (by simp))
      have cc2 := CC6.out.cell (i := 2) rfl
      have rb2' := RB6.out.cell (i := 2) rfl
      have hlim2 : c.r.limit ≤ 32 := by rw [HCR.out]; exact HLIM.out
      have hcb : c.r.burst = r2 := by rw [HCR.out]
      clear hM6 x0 x1 x2 x3 rb0 rb1 rb2 rb3 rb4 rb5 rb6 rb7 rb8
      by_cases hin : (1 : Int) ≤ n1 ∧ (n1 : Int) ≤ r2
      · have d1 : decide ((n1 : Int) < 1) = false := by simp; omega
        have d1' : decide (n1 < 1) = false := by simp; omega
        have d2 : decide (r2 < (n1 : Int)) = false := by simp; omega
        have hrf : refuse c.r ((t + g : Nat) : Int) 0 (n1 : Int) = none := by
          unfold refuse
          rw [if_neg (by omega), if_neg (by omega), if_neg (by omega)]
        have PT := peek_tells HK.out.inv HC.out HG.out (now := t + g) (by have := HK.out.time; omega) (held := 0) (key := key) hrf
        have e2 : (peek c s ((t + g : Nat) : Int) 0 key (n1 : Int)).2 = s.to ((t + g : Nat) : Int) := by unfold peek; rw [hrf]
        have PK := peek_any (LR.out.mod0 MC6.out) HK.out.inv HC.out (now := t + g) (by have := HK.out.time; omega) 0 key (by omega) (n1 : Int)
        rw [e2] at PK
        obtain ⟨j1, j2⟩ := HK.out.inv.to (now := t + g) (by have := HK.out.time; omega) (by omega)
        have HG1 : RingOf c (s.to ((t + g : Nat) : Int)).ring := RingOf.rk HG.out rfl
        have CKf := Lib.hid (fun W (hL : LimAt W B c (s.to ((t + g : Nat) : Int))) => check_any hL j1 HC.out (by have h1 := hbig0 HK.out.inv; have : c.step = 2 * c.r.limit.toNat + 1 := rfl; omega) (now := t + g) (by omega) 0 key (by omega) (n1 : Int))
        have CT := check_tells j1 HC.out HG1 (now := t + g) (by omega) (held := 0) (key := key) hrf (by have : c.step = 2 * c.r.limit.toNat + 1 := rfl; omega)
        have K2 := Lib.hid (HK.out.both HC.out hlim2 (by omega) HF.out hg hk64 hn1)
        have G2 := Lib.hid (RingOf.rk (y := (check c (s.to ((t + g : Nat) : Int)) ((t + g : Nat) : Int) 0 key (n1 : Int)).2.2.ring) HG1 (rk_check _ _ _ _ _ _))
        rcases hpk : (peek c s ((t + g : Nat) : Int) 0 key (n1 : Int)).1 with ⟨pv, pr, pt⟩
        rw [hpk] at PT PK
        rcases hck : check c (s.to ((t + g : Nat) : Int)) ((t + g : Nat) : Int) 0 key (n1 : Int) with ⟨⟨cv, cr, ct⟩, ev, s2⟩
        rw [hck] at CT CKf K2 G2
        obtain ⟨⟨v1, ⟨m1, m2⟩, q1, i1, y1⟩, iq⟩ := PT
        obtain ⟨v2, ⟨m3, m4⟩, q2, i2, y2⟩ := CT
        simp only at v1 m1 m2 q1 i1 y1 iq v2 m3 m4 q2 i2 y2
        rw [hcb] at m2 m4
        have e1 : decide (pr < 0) = false := by simp; omega
        have e3 : decide (r2 < pr) = false := by simp; omega
        have e4 : decide (pt < 0) = false := by simp; omega
        have f1 : decide (cr < 0) = false := by simp; omega
        have f3 : decide (r2 < cr) = false := by simp; omega
        rw [show ((t + g : Nat) : Int) = (t : Int) + (g : Int) by omega] at PK
        have PKH := Lib.hid PK
        rw [show ((t + g : Nat) : Int) = (t : Int) + (g : Int) by omega] at CKf
        clear PK hpk hck hrf j1 j2 HG1 e2 hin
        have V2 := Lib.hid v2
        have Y2 := Lib.hid (And.intro i2 (And.intro y2 (And.intro f1 f3)))
        clear v2 i2 y2 f1 f3 m3 m4 q2
        rcases v1 with hv1 | hv1
        · subst hv1
          have hpt : pt = 0 := by simpa using i1
          have h5 : (n1 : Int) ≤ pr := by simpa using iq
          have d5 := Lib.hid (show decide ((n1 : Int) ≤ pr) = true from decide_eq_true h5)
          subst hpt
          have EP := Lib.hid (And.intro e1 (And.intro e3 e4))
          clear i1 iq y1 h5 e1 e3 e4 m1 m2 q1 hcb hlim2
          go_wp2_with fail
          refine (PKH.out).mono ?_
          rintro e7 w7 ⟨rfl, hL7, hM7⟩
          have L7 := Lib.hid hL7
          have RB7 := Lib.hid (hM7.blk RB6.out BL.out.2)
          have CC7 := Lib.hid (hM7.blk CC6.out (fun hb => by have := LR.out.lt _ hb; omega))
          have M7 := Lib.hid ((MR.out.trans MC6.out).trans' hM7 (fun b hb => .inr (by have := BL.out.1 b hb; omega)))
          have rb7 := RB7.out.cell (i := 2) rfl
          have cc7 := CC7.out.cell (i := 2) rfl
          have q37 : w3.heap.size < w7.heap.size := RB7.out.lt
          have q37' : ¬ w3.heap.size = w7.heap.size := by omega
          have qc7 : wr.heap.size < w7.heap.size := CC7.out.lt
          have qc7' : ¬ wr.heap.size = w7.heap.size := by omega
          clear hL7 hM7
          have d5' := d5.out
          obtain ⟨e1, e3, e4⟩ := EP.out
          simp only [Ans.val]
          go_wp2_with fail
          refine (CKf.out _ (L7.out.mod0 ((Mod.refl [] w7).alloc _))).mono ?_
          rintro e8 w8 ⟨v8, rfl, hO8, hL8, hM8⟩
          obtain ⟨a8, c8, rfl⟩ := hO8.slice
          have L8 := Lib.hid hL8
          have RB8 := Lib.hid (hM8.blk (RB7.out.alloc _) BL.out.2)
          have M8 := Lib.hid ((M7.out.alloc _).trans' hM8 (fun b hb => .inr (by have := BL.out.1 b hb; omega)))
          have rb8 := RB8.out.cell (i := 2) rfl
          have q38 : w3.heap.size < w8.heap.size := RB8.out.lt
          have q38' : ¬ w3.heap.size = w8.heap.size := by omega
          clear hO8 hL8 hM8 e1 e3 e4 d5'
          rcases V2.out with hv2 | hv2
          · subst hv2
            have hct : ct = 0 := by simpa using Y2.out.1
            subst hct
            have f1 := Y2.out.2.2.1
            have f3 := Y2.out.2.2.2
            simp only [Ans.val]
            go_wp2_with fail
            go_roundw
            case rel => exact ⟨k + 1, t + g, s2, by omega, by go_num, by go_num, L8.out.mod0 ((Mod.refl [] w8).alloc _), K2.out, G2.out, RB8.out.alloc _, M8.out.alloc _⟩
            case measure => simp [intOf]; omega
          · subst hv2
            have g6 : (ct == 0) = false := by simpa using Y2.out.1
            have h5 : cr < (n1 : Int) := by simpa using Y2.out.2.1
            have g5 : decide ((n1 : Int) ≤ cr) = false := decide_eq_false (by omega)
            clear h5
            have f1 := Y2.out.2.2.1
            have f3 := Y2.out.2.2.2
            simp only [Ans.val]
            go_wp2_with fail
            go_roundw
            case rel => exact ⟨k + 1, t + g, s2, by omega, by go_num, by go_num, L8.out.mod0 ((Mod.refl [] w8).alloc _), K2.out, G2.out, RB8.out.alloc _, M8.out.alloc _⟩
            case measure => simp [intOf]; omega
        · subst hv1
          have d6 := Lib.hid (show (pt == 0) = false by simpa using i1)
          have h5 : pr < (n1 : Int) := by simpa using y1
          have d5 := Lib.hid (show decide ((n1 : Int) ≤ pr) = false from decide_eq_false (by omega))
          have EP := Lib.hid (And.intro e1 (And.intro e3 e4))
          clear i1 iq y1 h5 e1 e3 e4 m1 m2 q1 hcb hlim2
          go_wp2_with fail
          refine (PKH.out).mono ?_
          rintro e7 w7 ⟨rfl, hL7, hM7⟩
          have L7 := Lib.hid hL7
          have RB7 := Lib.hid (hM7.blk RB6.out BL.out.2)
          have CC7 := Lib.hid (hM7.blk CC6.out (fun hb => by have := LR.out.lt _ hb; omega))
          have M7 := Lib.hid ((MR.out.trans MC6.out).trans' hM7 (fun b hb => .inr (by have := BL.out.1 b hb; omega)))
          have rb7 := RB7.out.cell (i := 2) rfl
          have cc7 := CC7.out.cell (i := 2) rfl
          have q37 : w3.heap.size < w7.heap.size := RB7.out.lt
          have q37' : ¬ w3.heap.size = w7.heap.size := by omega
          have qc7 : wr.heap.size < w7.heap.size := CC7.out.lt
          have qc7' : ¬ wr.heap.size = w7.heap.size := by omega
          clear hL7 hM7
          have d5' := d5.out
          obtain ⟨e1, e3, e4⟩ := EP.out
          have d6' := d6.out
          simp only [Ans.val]
          go_wp2_with fail
          refine (CKf.out _ (L7.out.mod0 ((Mod.refl [] w7).alloc _))).mono ?_
          rintro e8 w8 ⟨v8, rfl, hO8, hL8, hM8⟩
          obtain ⟨a8, c8, rfl⟩ := hO8.slice
          have L8 := Lib.hid hL8
          have RB8 := Lib.hid (hM8.blk (RB7.out.alloc _) BL.out.2)
          have M8 := Lib.hid ((M7.out.alloc _).trans' hM8 (fun b hb => .inr (by have := BL.out.1 b hb; omega)))
          have rb8 := RB8.out.cell (i := 2) rfl
          have q38 : w3.heap.size < w8.heap.size := RB8.out.lt
          have q38' : ¬ w3.heap.size = w8.heap.size := by omega
          clear hO8 hL8 hM8 e1 e3 e4 d5'
          rcases V2.out with hv2 | hv2
          · subst hv2
            have hct : ct = 0 := by simpa using Y2.out.1
            subst hct
            have f1 := Y2.out.2.2.1
            have f3 := Y2.out.2.2.2
            simp only [Ans.val]
            go_wp2_with fail
            go_roundw
            case rel => exact ⟨k + 1, t + g, s2, by omega, by go_num, by go_num, L8.out.mod0 ((Mod.refl [] w8).alloc _), K2.out, G2.out, RB8.out.alloc _, M8.out.alloc _⟩
            case measure => simp [intOf]; omega
          · subst hv2
            have g6 : (ct == 0) = false := by simpa using Y2.out.1
            have h5 : cr < (n1 : Int) := by simpa using Y2.out.2.1
            have g5 : decide ((n1 : Int) ≤ cr) = false := decide_eq_false (by omega)
            clear h5
            have f1 := Y2.out.2.2.1
            have f3 := Y2.out.2.2.2
            simp only [Ans.val]
            go_wp2_with fail
            go_roundw
            case rel => exact ⟨k + 1, t + g, s2, by omega, by go_num, by go_num, L8.out.mod0 ((Mod.refl [] w8).alloc _), K2.out, G2.out, RB8.out.alloc _, M8.out.alloc _⟩
            case measure => simp [intOf]; omega
      · have K2 := Lib.hid (HK.out.skip (by omega) hg)
        have hout : (n1 : Int) < 1 ∨ r2 < (n1 : Int) := by omega
        rcases hout with h1 | h1
        · have d1 : decide ((n1 : Int) < 1) = true := by simp; omega
          have d1' : decide (n1 < 1) = true := by simp; omega
          clear hin h1
          go_wp2_with fail
          go_roundw
          case rel => exact ⟨k + 1, t + g, s, by omega, by go_num, by go_num, LR.out.mod0 MC6.out, K2.out, HG.out, RB6.out, MR.out.trans MC6.out⟩
          case measure => simp [intOf]; omega
        · have d1 : decide ((n1 : Int) < 1) = false := by simp; omega
          have d1' : decide (n1 < 1) = false := by simp; omega
          have d2 : decide (r2 < (n1 : Int)) = true := by simp; omega
          clear hin h1
          go_wp2_with fail
          go_roundw
          case rel => exact ⟨k + 1, t + g, s, by omega, by go_num, by go_num, LR.out.mod0 MC6.out, K2.out, HG.out, RB6.out, MR.out.trans MC6.out⟩
          case measure => simp [intOf]; omega
    · obtain rfl : k = n := by omega
      have dk : decide ((k : Int) < (k : Int)) = false := by simp
      clear hLr hKr hGr hRr hM
      go_wp2_with fail
      go_ret
      exact ⟨rfl, MR.out⟩
theorem tells_law (w : World) (p : Plan) (v : Value) (zs : List Int) (h : Sl w v (zs.map (Value.int .u64))) (hw : ∀ z ∈ zs, (Lit.int .u64 z).wf = true) (a : Option Addr) (cp : Nat) (l : List Call) (hm : l.length ≤ maxLen) (hP : InRow w a 4 Call.cells l) :
    Calls Try.prog 9 #[p.val, v, .slice a l.length cp] w fun e w' => e = .returned (.bool true) ∧ Mod [] w w' := by
  obtain ⟨ds, hds, hdx⟩ := u64s hw
  rw [hds] at h
  clear hds hw
  by_cases hd60 : ds.length ≤ 60
  · cases hL : lightB l with
    | true => exact tells_main w p v ds h hdx hd60 a cp l hm hP hL
    | false =>
      have LI := Lib.hid (fun W (hM : Mod [] w W) => light_any (inrow_mod hP hM) hm cp)
      rw [hL] at LI
      obtain ⟨da, dc, rfl⟩ := sl_slice h
      have hdl : (v64 ds).length = ds.length := by simp [v64]
      rw [hdl]
      have d60 : decide ((60 : Int) < (ds.length : Int)) = false := by simp; omega
      obtain ⟨p0, p1, p2, p3, p4, p5, p6, p7, p8⟩ := p
      simp only [Plan.val] at *
      have M0 := Lib.hid ((Mod.refl [] w).alloc (.cells #[.int .i64 p0, .int .i64 p1, .int .i64 p2, .int .i64 p3, .int .i64 p4, .int .i64 p5, .int .i64 p6, .int .i64 p7, .bool p8] 23))
      clear hP hm hL h hdx hd60 hdl
      generalize ds.length = dn at *
      generalize l.length = n at *
      go_enter Try.func9, Try.ntmps9
      go_wp2_with fail
      refine (fit_any _).mono ?_
      rintro e1 w1 ⟨rfl, hM1⟩
      have M1 := Lib.hid (M0.out.trans hM1)
      clear hM1
      go_wp2_with fail
      refine (LI.out _ M1.out).mono ?_
      rintro e2 w2 ⟨rfl, hM2⟩
      go_wp2_with fail
      go_ret
      exact ⟨rfl, M1.out.trans hM2⟩
  · obtain ⟨da, dc, rfl⟩ := sl_slice h
    have hdl : (v64 ds).length = ds.length := by simp [v64]
    rw [hdl]
    have d60 : decide ((60 : Int) < (ds.length : Int)) = true := by simp; omega
    obtain ⟨p0, p1, p2, p3, p4, p5, p6, p7, p8⟩ := p
    simp only [Plan.val] at *
    have M0 := Lib.hid ((Mod.refl [] w).alloc (.cells #[.int .i64 p0, .int .i64 p1, .int .i64 p2, .int .i64 p3, .int .i64 p4, .int .i64 p5, .int .i64 p6, .int .i64 p7, .bool p8] 23))
    clear hP hm h hdx hd60 hdl
    generalize ds.length = dn at *
    generalize l.length = n at *
    go_enter Try.func9, Try.ntmps9
    go_wp2_with fail
    refine (fit_any _).mono ?_
    rintro e1 w1 ⟨rfl, hM1⟩
    have M1 := Lib.hid (M0.out.trans hM1)
    clear hM1
    go_wp2_with fail
    go_ret
    exact ⟨rfl, M1.out⟩
end Go.Proofs.Ytndekdafiaogmaa.Lim
end
