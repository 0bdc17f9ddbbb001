/- limiter's laws: LimiterExact. No condition. (written by wip/tools) -/
import Derived.Test.YtndekdafiaogmaaZLimC
import Derived.Test.YtndekdafiaogmaaZOwnCell
import Derived.Test.YtndekdafiaogmaaZPerm
import Derived.Test.YtndekdafiaogmaaZLow
set_option linter.unusedSimpArgs false
set_option linter.unusedVariables false
section
namespace Go.Proofs.Ytndekdafiaogmaa.Lim
open Go Go.RowKit Go.YtndekdafiaogmaaMem Go.YtndekdafiaogmaaLex Go.Proofs.Ytndekdafiaogmaa.Hash Go.Proofs.Ytndekdafiaogmaa.Arith Go.Proofs.Ytndekdafiaogmaa.Index Go.Proofs.Ytndekdafiaogmaa.Cell Go.Proofs.Ytndekdafiaogmaa.Slot
open Go.Proofs.Ytndekdafiaogmaa.Pool (PS putP remP pairs PB PoolAt firstIdle)
open Go.Proofs.Ytndekdafiaogmaa.Ring (Rs RiB RingAt estS addR waitS massS Small small_get leastV leastV_small ring0)
open Go.Proofs.Ytndekdafiaogmaa.Sum (Ent OkE SB SumAt countE leastOf)
theorem RuleOk.win {r : Rule} (h : RuleOk r) : r.window ≤ r.pace.unit * (r.limit + 1 - r.burst) := by
 have hb := h.burst
 have hw := h.window
 have e : r.pace.unit = ceil r.window (r.limit + 1 - r.burst) := rfl
 rw [e]
 unfold ceil
 rw [if_neg (by omega)]
 have h1 := Int.mul_ediv_add_emod r.window (r.limit + 1 - r.burst)
 have h2 := Int.emod_nonneg r.window (show r.limit + 1 - r.burst ≠ 0 by omega)
 have h3 := Int.emod_lt_of_pos r.window (show 0 < r.limit + 1 - r.burst by omega)
 rw [Int.mul_comm] at h1
 split
 ·rw [Int.add_mul]; omega
 ·rw [Int.add_mul]; omega
theorem Kept.peek {c : Cf} {s : Lm} {k now : Nat} (h : Kept c s k now) (hk : k < 150) {g : Nat} (hg : g ≤ 1023) (held : Int) (key : List UInt8) (cost : Int) :
  Kept c (Lim.peek c s ((now + g : Nat) : Int) held key cost).2 (k + 1) (now + g) := by
 have h1 := h.time
 have h2 := h.t
 have hs := h.skip hk hg
 unfold Lim.peek
 split
 ·exact hs
 ·obtain ⟨j1, j2⟩ := h.inv.to (now := now + g) (by omega) (by omega)
  exact ⟨j1.mono (by omega) (by omega), ⟨by simp only; omega, hs.time.2⟩, hs.t, hs.len⟩
set_option maxRecDepth 8000 in
set_option maxHeartbeats 12800000 in
theorem exact_main (w : World) (p : Plan) (v : Value) (ds : List Nat) (hd : Sl w v (v64 ds)) (hdx : ∀ x, x ∈ ds → x < 18446744073709551616) (hd60 : ds.length ≤ 60) (a : Option Addr) (cp : Nat) (l : List Call) (hm : l.length ≤ maxLen) (hP : InRow w a 4 Call.cells l) (hL : lightB l = true) :
  Calls Try.prog 7 #[p.val, v, .slice a l.length cp] w fun e w' => e = .returned (.bool true) ∧ Mod [] w w' := by
 obtain ⟨hl150, hkeys⟩ := light_spec hL
 obtain ⟨hro, hlim⟩ := rule_ok p
 have LI := Lib.hid (fun W (hM : Mod [] w W) => light_any (inrow_mod hP hM) hm cp)
 rw [hL] at LI
 have GET := Lib.hid (fun j q (hq : l[j]? = some q) => inrow_get hP hq)
 have KEY := Lib.hid (fun j q (hq : l[j]? = some q) => hkeys q (List.mem_of_getElem? hq))
 have RU := Lib.hid (fun W : World => rule_any p W)
 have hrg0 : RingOf (cfOf p.rule ds) (new0 (cfOf p.rule ds)).ring := ring_of0 (rule_ok p).1
 obtain ⟨r, hr⟩ : ∃ r, p.rule = r := ⟨_, rfl⟩
 rw [hr] at RU hro hlim hrg0
 have HRO := Lib.hid hro
 have hwin := hro.win
 have NW := Lib.hid (fun (W : World) (hM : Mod [] w W) => new_any (hd.mod hM (by simp)) hdx r hro)
 have CO := Lib.hid (fun z (W : World) => cost_any r (by have := hro.burst; omega) z W)
 obtain ⟨c, hc⟩ : ∃ c, cfOf r ds = c := ⟨_, rfl⟩
 have hcr : c.r = r := by rw [← hc]; rfl
 have HCR := Lib.hid hcr
 have WIN := Lib.hid (show c.r.window ≤ c.r.pace.unit * (c.r.limit + 1 - c.r.burst) by rw [hcr]; exact hwin)
 clear hwin
 have HC := Lib.hid (show c.Ok by rw [← hc]; exact hro.cf ds)
 rw [hc] at NW hrg0
 have HG0 := Lib.hid hrg0
 have HLIM := Lib.hid hlim
 have hbur := hro.burst
 obtain ⟨da, dc, rfl⟩ := sl_slice hd
 have hdl : (v64 ds).length = ds.length := by simp [v64]
 rw [hdl] at NW ⊢
 obtain ⟨p0, p1, p2, p3, p4, p5, p6, p7, p8⟩ := p
 obtain ⟨r0, r1, r2, r3, r4, r5, r6, r7, r8⟩ := r
 simp only [Plan.val, Rule.val] at *
 have PB0 := Lib.hid (Blk.new w [.int .i64 p0, .int .i64 p1, .int .i64 p2, .int .i64 p3, .int .i64 p4, .int .i64 p5, .int .i64 p6, .int .i64 p7, .bool p8] 23)
 have M0 := Lib.hid ((Mod.refl [] w).alloc (.cells #[.int .i64 p0, .int .i64 p1, .int .i64 p2, .int .i64 p3, .int .i64 p4, .int .i64 p5, .int .i64 p6, .int .i64 p7, .bool p8] 23))
 obtain ⟨n, hn⟩ : ∃ n, l.length = n := ⟨_, rfl⟩
 have HN := Lib.hid hn
 rw [hn] at LI hl150 ⊢
 obtain ⟨dn, hdn⟩ : ∃ dn, ds.length = dn := ⟨_, rfl⟩
 rw [hdn] at hd60 NW ⊢
 have d60 : decide ((60 : Int) < (dn : Int)) = false := by simp; omega
 clear hP hm hL hkeys hro hr hc hcr hlim hn hrg0 hd hdx hdl hdn
 go_enter Try.func7, Try.ntmps7
 go_wp2_with fail
 refine (fit_any _).mono ?_
 rintro e1 w1 ⟨rfl, hM1⟩
 have M1 := Lib.hid (M0.out.trans hM1)
 have PB1 := Lib.hid (hM1.blk PB0.out (by simp))
 clear hM1
 go_wp2_with fail
 refine (LI.out _ M1.out).mono ?_
 rintro e2 w2 ⟨rfl, hM2⟩
 have M2 := Lib.hid (M1.out.trans hM2)
 have PB2 := Lib.hid (hM2.blk PB1.out (by simp))
 have b0 := PB2.out.cell (i := 0) rfl
 have b1 := PB2.out.cell (i := 1) rfl
 have b2 := PB2.out.cell (i := 2) rfl
 have b3 := PB2.out.cell (i := 3) rfl
 have b4 := PB2.out.cell (i := 4) rfl
 have b5 := PB2.out.cell (i := 5) rfl
 have b6 := PB2.out.cell (i := 6) rfl
 have b7 := PB2.out.cell (i := 7) rfl
 have b8 := PB2.out.cell (i := 8) rfl
 clear hM2
 go_wp2_with fail
 refine (RU.out _).mono ?_
 rintro e3 w3 ⟨rfl, hM3⟩
 have M3 := Lib.hid (M2.out.trans hM3)
 have RB3 := Lib.hid (Blk.new w3 [.int .i64 r0, .int .i64 r1, .int .i64 r2, .int .i64 r3, .int .i64 r4, .int .i64 r5, .int .i64 r6, .int .i64 r7, .bool r8] 29)
 have A3 := Lib.hid ((Mod.refl [] w3).alloc (.cells #[.int .i64 r0, .int .i64 r1, .int .i64 r2, .int .i64 r3, .int .i64 r4, .int .i64 r5, .int .i64 r6, .int .i64 r7, .bool r8] 29))
 have hlt3 : w.heap.size < w3.heap.size := (hM3.blk PB2.out (by simp)).lt
 clear hM3 b0 b1 b2 b3 b4 b5 b6 b7 b8
 simp only [Rule.val]
 go_wp2_with fail
 refine (NW.out _ (M3.out.trans A3.out)).mono ?_
 rintro e4 w4 ⟨B, rfl, hL4, hB4, hrb4, hM4⟩
 have BL := Lib.hid (show (∀ b, b ∈ B.all → w.heap.size < b) ∧ w3.heap.size ∉ B.all from by
  have h3 : w3.heap.size + 1 ≤ (w3.alloc (.cells #[.int .i64 r0, .int .i64 r1, .int .i64 r2, .int .i64 r3, .int .i64 r4, .int .i64 r5, .int .i64 r6, .int .i64 r7, .bool r8] 29)).heap.size := by simp
  exact ⟨fun b hb => by have := hB4 b hb; omega, fun hb => by have := hB4 _ hb; omega⟩)
 have RB4 := Lib.hid (hM4.blk RB3.out (by simp))
 have L4 := Lib.hid hL4
 have M4 := Lib.hid ((M3.out.trans A3.out).trans hM4)
 clear hL4 hB4 hrb4 hM4
 have A4 := Lib.hid ((Mod.refl [] w4).alloc (.map #[] 0))
 have HO4 := Lib.hid (show OwnC (w4.alloc (.map #[] 0)) w4.heap.size 0 (fun _ => none) (fun _ => none) 0 from ⟨(MapG.made (P := Try.prog) (kt := 9) w4).congr (fun k => by cases k <;> rfl), fun _ _ => rfl, (fun _ _ h => by cases h), (fun _ _ _ h => by cases h)⟩)
 have HTN := Lib.hid (show (∀ b, b ∈ B.all → b < w4.heap.size) ∧ B.Q.rb < w4.heap.size ∧ w3.heap.size < w4.heap.size from ⟨fun b hb => L4.out.lt _ hb, (L4.out.ring.each 0 (by have := L4.out.ring.few.1; omega)).rows.1, RB4.out.lt⟩)
 have HTN4 := Lib.hid (show w.heap.size ≤ w4.heap.size from M4.out.size)
 have hmm := @run_makeMap Try.prog
 go_wp2_with fail
 clear hmm
 obtain ⟨tb, htb⟩ : ∃ tb, w4.heap.size = tb := ⟨_, rfl⟩
 rw [htb] at HO4 HTN HTN4
 rw [htb]
 clear htb
 go_loopw [10, 37] (fun now i W => ∃ (k t : Nat) (s : Lm) (nn m : Nat) (P : List UInt8 → Option Nat) (F : List UInt8 → Option Int), k ≤ n ∧ i = .int .i64 (k : Int) ∧ now = .int .i64 (t : Int) ∧ LimAt W B c s ∧ Kept c s k t ∧ RingOf c s.ring ∧ ExJ c s (t : Int) F m ∧ OwnC W tb nn P F m ∧ (nn ≤ k ∧ m ≤ k) ∧ Blk W w3.heap.size 29 [.int .i64 r0, .int .i64 r1, .int .i64 r2, .int .i64 r3, .int .i64 r4, .int .i64 r5, .int .i64 r6, .int .i64 r7, .bool r8] ∧ Mod [] w W) (fun _ i _ => n - (intOf i).toNat)
 case atStart => exact ⟨0, 0, new0 c, 0, 0, fun _ => none, fun _ => none, Nat.zero_le _, rfl, rfl, L4.out.mod0 A4.out, kept0 c HC.out, HG0.out, exj_new c HC.out, HO4.out, ⟨Nat.le_refl _, Nat.le_refl _⟩, RB4.out.alloc _, M4.out.trans A4.out⟩
 case round =>
  obtain ⟨k, t, s, nn, m, P, F, hk, rfl, rfl, hLr, hKr, hGr, hEr, hOr, hNr, hRr, hM⟩ := hrel
  have LR := Lib.hid hLr
  have HK := Lib.hid hKr
  have HG := Lib.hid hGr
  have HE := Lib.hid hEr
  have HO := Lib.hid hOr
  have HNN := Lib.hid hNr
  have RR := Lib.hid hRr
  have MR := Lib.hid hM
  by_cases hlt : k < n
  ·obtain ⟨q, hq⟩ : ∃ q, l[k]? = some q := ⟨_, List.getElem?_eq_getElem (by have := HN.out; omega)⟩
   obtain ⟨b, off, rfl, hcells⟩ := GET.out k q hq
   have hk64 := KEY.out k q hq
   obtain ⟨x0, x1, x2, x3⟩ := hcells wr hM
   obtain ⟨gz, cz, key, pk⟩ := q
   simp only at x0 x1 x2 x3 hk64
   have HF := Lib.hid (hLr.ring.few.2)
   have CC := Lib.hid (Blk.new wr [.int .i64 gz, .int .i64 cz, .string ⟨key.toArray⟩, .bool pk] 35)
   have AC := Lib.hid ((Mod.refl [] wr).alloc (.cells #[.int .i64 gz, .int .i64 cz, .string ⟨key.toArray⟩, .bool pk] 35))
   have hrw : w3.heap.size < wr.heap.size := hRr.lt
   have hrw' : ¬ w3.heap.size = wr.heap.size := by omega
   have hti := hKr.time
   have rb0 := hRr.cell (i := 0) rfl
   have rb1 := hRr.cell (i := 1) rfl
   have rb2 := hRr.cell (i := 2) rfl
   have rb3 := hRr.cell (i := 3) rfl
   have rb4 := hRr.cell (i := 4) rfl
   have rb5 := hRr.cell (i := 5) rfl
   have rb6 := hRr.cell (i := 6) rfl
   have rb7 := hRr.cell (i := 7) rfl
   have rb8 := hRr.cell (i := 8) rfl
   have dk : decide ((k : Int) < (n : Int)) = true := by simp; omega
   obtain ⟨hk150, ht2⟩ := small_kt (show k ≤ 149 by omega) hti.2
   clear hLr hKr hGr hEr hOr hNr hRr hM hcells hq
   go_wp2_with fail
   refine (gap_any gz _).mono ?_
   rintro e5 w5 ⟨g, rfl, hg, rfl⟩
   go_wp2_with fail
   refine (CO.out cz _).mono ?_
   rintro e6 w6 ⟨n1, rfl, hn1, hM6⟩
   have MC6 := Lib.hid (AC.out.trans hM6)
   have RB6 := Lib.hid (MC6.out.blk RR.out (by simp))
   have CC6 := Lib.hid (hM6.blk CC.out (by simp))
   have cc2 := CC6.out.cell (i := 2) rfl
   have rb2' := RB6.out.cell (i := 2) rfl
   have hlim2 : c.r.limit ≤ 32 := by rw [HCR.out]; exact HLIM.out
   have hcb : c.r.burst = r2 := by rw [HCR.out]
   clear hM6 x0 x1 x2 x3 rb0 rb1 rb2 rb3 rb4 rb5 rb6 rb7 rb8
   obtain ⟨T, hT⟩ : ∃ T, t + g = T := ⟨_, rfl⟩
   have hTi : (t : Int) + (g : Int) = (T : Int) := by omega
   have hTb : T ≤ 300000 := by omega
   have hsT : s.ring.now ≤ T := by have := HK.out.time; omega
   have hst : c.step = 2 * c.r.limit.toNat + 1 := rfl
   have hkb : 65 * k ≤ 10000 := by omega
   have EJ := Lib.hid (HE.out.later (show (t : Int) ≤ (T : Int) by omega))
   have hkm : key.length ≤ maxLen := by unfold maxLen; omega
   have HKM := Lib.hid hkm
   have OC6 := Lib.hid (HO.out.mod0 MC6.out)
   have L6 := Lib.hid (LR.out.mod0 MC6.out)
   have M6 := Lib.hid (MR.out.trans MC6.out)
   have hnn150 := HNN.out
   have HWR := Lib.hid (show wr.heap.size < w6.heap.size from CC6.out.lt)
   have HTBW := Lib.hid (show tb < wr.heap.size from HO.out.map.lt)
   have KS := Lib.hid (show Kept c s (k + 1) T from by have := HK.out.skip (by omega) hg; rw [hT] at this; exact this)
   have CK0 := Lib.hid (fun W (hL : LimAt W B c s) => check_any hL HK.out.inv HC.out (by omega) hsT 0 key (by omega) (n1 : Int))
   have PK0 := Lib.hid (fun W (hL : LimAt W B c s) => peek_any hL HK.out.inv HC.out hsT 0 key (by omega) (n1 : Int))
   have KP0 := Lib.hid (show Kept c (Lim.peek c s (T : Int) 0 key (n1 : Int)).2 (k + 1) T from by have := HK.out.peek (by omega) hg 0 key (n1 : Int); rw [hT] at this; exact this)
   have KC0 := Lib.hid (show Kept c (Lim.check c s (T : Int) 0 key (n1 : Int)).2.2 (k + 1) T from by have := HK.out.check HC.out hlim2 (by omega) HF.out hg 0 hk64 hn1; rw [hT] at this; exact this)
   have EC0 := Lib.hid (fun (hcost : 1 ≤ (n1 : Int) ∧ (n1 : Int) ≤ c.r.burst) (hm : F key = none → m < c.r.cells.toNat) => EJ.out.check HK.out.inv LR.out.pok HC.out HF.out WIN.out hsT (by omega) hk64 hcost hm)
   have EP0 := Lib.hid (fun (hcost : 1 ≤ (n1 : Int) ∧ (n1 : Int) ≤ c.r.burst) => EJ.out.peek HK.out.inv HC.out HF.out HG.out.1 HG.out.2.1 HG.out.2.2.1 WIN.out hsT (by omega) key hcost)
   have HZB := Lib.hid (fun i => (bare_mild HK.out.inv HC.out hsT (show T < 4611686018427387904 by omega) i).full)
   have ISW := HRO.out.window
   simp only at ISW
   obtain ⟨hw1, hw2⟩ := ISW
   rw [hTi]
   have hti2 : 0 ≤ (T : Int) := by omega
   clear hsT hst hkb hT hTi hkm hti rb2' hti2
   have hl1 := OC6.out.map.get (mt := 60) SKX Try.underlying60 (zero_cellp _) (text_keyX key HKM.out)
   cases hP : P key with
   | some gb =>
     have HP := Lib.hid hP
     obtain ⟨z, s0, u0, hFz, hGB, htbg⟩ := OC6.out.yes key gb hP
     rw [show (ptrs P (.string key)).getD (.pointer none) = .pointer (some ⟨gb, 0, none⟩) by rw [ptrs_some hP]; rfl] at hl1
     have HTG := Lib.hid htbg
     have HFZ := Lib.hid hFz
     have GBG := Lib.hid hGB
     have hgw : gb < wr.heap.size := by obtain ⟨_, _, _, _, h2, _⟩ := HO.out.yes key gb hP; exact h2.lt
     have HGC := Lib.hid (show gb ≠ wr.heap.size by omega)
     have HZI := Lib.hid (show 0 ≤ z ∧ z ≤ 4611690416473899008 from by obtain ⟨i, _, e, _⟩ := HE.out.has key z hFz; rw [← e]; exact HZB.out i)
     have HZV := Lib.hid (show (F key).getD (T : Int) = z by rw [hFz]; rfl)
     have FK : Hid (F key = none → m < c.r.cells.toNat) := Lib.hid (fun hh => by rw [HFZ.out] at hh; cases hh)
     have KEYC : Hid (P key = some gb ∨ (P key = none ∧ ∀ k b2, P k = some b2 → b2 ≠ gb)) := Lib.hid (.inl HP.out)
     have CNT : Hid ((if (ptrs P (.string key)).isSome then m else m + 1) = (if (F key).isSome then m else m + 1)) := Lib.hid (by rw [ptrs_some HP.out, HFZ.out]; rfl)
     clear hP hFz hGB htbg
     have rb1 := RB6.out.cell (i := 1) rfl
     have rb2 := RB6.out.cell (i := 2) rfl
     have h36 : w3.heap.size < w6.heap.size := RB6.out.lt
     have h36' : ¬ w3.heap.size = w6.heap.size := by omega
     by_cases hv1 : (n1 : Int) < 1
     ·have dv1 : decide ((n1 : Int) < 1) = true := by simp; omega
      have dv1' : decide (n1 = 0) = true := by simp; omega
      go_wp2_with fail
      go_roundw
      case rel => exact ⟨k + 1, T, s, nn, m, P, F, by omega, by go_num, rfl, L6.out, KS.out, HG.out, EJ.out, OC6.out, by omega, RB6.out, M6.out⟩
      case measure => simp [intOf]; omega
     ·have dv1 : decide ((n1 : Int) < 1) = false := by simp; omega
      have dv1' : decide (n1 = 0) = false := by simp; omega
      by_cases hv2 : r2 < (n1 : Int)
      ·have dv2 : decide (r2 < (n1 : Int)) = true := by simp; omega
       go_wp2_with fail
       go_roundw
       case rel => exact ⟨k + 1, T, s, nn, m, P, F, by omega, by go_num, rfl, L6.out, KS.out, HG.out, EJ.out, OC6.out, by omega, RB6.out, M6.out⟩
       case measure => simp [intOf]; omega
      ·have dv2 : decide (r2 < (n1 : Int)) = false := by simp; omega
       have HCO := Lib.hid (show 1 ≤ (n1 : Int) ∧ (n1 : Int) ≤ r2 by omega)
       have MS := Lib.hid (((Mod.refl [gb] w6).setCell (p := ⟨gb, 1, none⟩) (.inl (by simp)) (.int .i64 ((T : Int) - r1))).setCell (p := ⟨gb, 3, none⟩) (.inl (by simp)) (.int .i64 0))
       have GS := Lib.hid (show Blk ((w6.setCell ⟨gb, 1, none⟩ (.int .i64 ((T : Int) - r1))).setCell ⟨gb, 3, none⟩ (.int .i64 0)) gb 62 [.int .i64 z, .int .i64 ((T : Int) - r1), .int .i64 0, .int .i64 0] from (GBG.out.set 1 _).set 3 _)
       have gf1 := GBG.out.free 1
       have gf3 := GBG.out.free 3
       have gc1 := GBG.out.cell (i := 1) rfl
       have gc3 := GBG.out.cell (i := 3) rfl
       go_wp2_with fail
       obtain ⟨wS, hwS⟩ : ∃ wS, (w6.setCell ⟨gb, 1, none⟩ (.int .i64 ((T : Int) - r1))).setCell ⟨gb, 3, none⟩ (.int .i64 0) = wS := ⟨_, rfl⟩
       rw [hwS] at MS GS ⊢
       have htb3 := HTN.out.2.2
       have LS := Lib.hid (L6.out.mod MS.out (fun b hb hb2 => by have h1 := HTN.out.1 b hb; have h2 := HTG.out; simp only [List.mem_singleton] at hb2; omega) (fun hb2 => by have h1 := HTN.out.2.1; have h2 := HTG.out; simp only [List.mem_singleton] at hb2; omega))
       have RBS := Lib.hid (MS.out.blk RB6.out (by have h2 := HTG.out; simp; omega))
       have CCS := Lib.hid (MS.out.blk CC6.out (by have h2 := HGC.out; simp; omega))
       have OS := Lib.hid (OC6.out.own HP.out MS.out HFZ.out GS.out)
       have WS := Lib.hid (M6.out.trans' MS.out (fun b hb => .inr (by have h1 := HTN4.out; have h2 := HTG.out; simp only [List.mem_singleton] at hb; omega)))
       clear hwS gf1 gf3 gc1 gc3 rb1 rb2 hl1 htb3
       obtain ⟨fz, hfz⟩ : ∃ x, (only z).free (Rule.pace (⟨r0, r1, r2, r3, r4, r5, r6, r7, r8⟩ : Rule)) (T : Int) = x := ⟨_, rfl⟩
       obtain ⟨lz, hlz⟩ : ∃ x, (only z).lag (Rule.pace (⟨r0, r1, r2, r3, r4, r5, r6, r7, r8⟩ : Rule)) (T : Int) (n1 : Int) = x := ⟨_, rfl⟩
       obtain ⟨tk, htk⟩ : ∃ x, tookF (Rule.pace (⟨r0, r1, r2, r3, r4, r5, r6, r7, r8⟩ : Rule)) z (T : Int) (n1 : Int) = x := ⟨_, rfl⟩
       obtain ⟨fk, hfk⟩ : ∃ x, (only tk).free (Rule.pace (⟨r0, r1, r2, r3, r4, r5, r6, r7, r8⟩ : Rule)) (T : Int) = x := ⟨_, rfl⟩
       have hcc : 1 ≤ (n1 : Int) ∧ (n1 : Int) ≤ c.r.burst := by rw [HCR.out]; exact HCO.out
       have HCC := Lib.hid hcc
       have RM : Hid (∀ W, Calls Try.prog 23 #[.agg #[.int .i64 z, .int .i64 ((T : Int) - r1), .int .i64 0, .int .i64 0], .agg #[.int .i64 r0, .int .i64 r1, .int .i64 r2, .int .i64 r3, .int .i64 r4, .int .i64 r5, .int .i64 r6, .int .i64 r7, .bool r8], .int .i64 (T : Int)] W fun e w' => e = .returned (.int .i64 fz) ∧ Mod [] W w') := Lib.hid (fun W => by rw [← hfz]; exact room_old HRO.out (by omega) HZI.out (by omega) W)
       have WT : Hid (∀ W, Calls Try.prog 24 #[.agg #[.int .i64 z, .int .i64 ((T : Int) - r1), .int .i64 0, .int .i64 0], .agg #[.int .i64 r0, .int .i64 r1, .int .i64 r2, .int .i64 r3, .int .i64 r4, .int .i64 r5, .int .i64 r6, .int .i64 r7, .bool r8], .int .i64 (T : Int), .int .i64 (n1 : Int)] W fun e w' => e = .returned (.int .i64 lz) ∧ Mod [] W w') := Lib.hid (fun W => by rw [← hlz]; exact wait_old HRO.out (by omega) HZI.out (by omega) HCO.out W)
       have hep := EP0.out hcc
       rw [HZV.out, HCR.out] at hep
       have hoa : ownA (Rule.pace (⟨r0, r1, r2, r3, r4, r5, r6, r7, r8⟩ : Rule)) z (T : Int) (n1 : Int) = ansV fz lz := by unfold ownA; rw [hfz, hlz]
       rw [hoa] at hep
       have PK : Hid (∀ W, LimAt W B c s → Calls Try.prog 25 #[.pointer (some ⟨B.p, 0, none⟩), .int .i64 (T : Int), .int .i64 0, .string ⟨key.toArray⟩, .int .i64 (n1 : Int)] W (PeekPost B c (ansV fz lz) (s.to (T : Int)) W)) := Lib.hid (fun W hL => by have h := PK0.out W hL; rw [hep] at h; exact h)
       have KP : Hid (Kept c (s.to (T : Int)) (k + 1) T) := Lib.hid (by have h := KP0.out; rw [hep] at h; exact h)
       have CKA : Hid ((F key = none → m < c.r.cells.toNat) → (check c s (T : Int) 0 key (n1 : Int)).1 = ansV fk lz ∧ ExJ c (check c s (T : Int) 0 key (n1 : Int)).2.2 (T : Int) (putF F key tk) (if (F key).isSome then m else m + 1)) := Lib.hid (fun hf => by
        obtain ⟨h1, h2⟩ := EC0.out HCC.out hf
        rw [HZV.out, HCR.out] at h1 h2
        rw [htk] at h2
        refine ⟨?_, h2⟩
        rw [h1]
        unfold ownC
        rw [htk, hfk, hlz])
       have HTK : Hid (0 ≤ tk ∧ tk ≤ 4611690416473899008) := Lib.hid (by rw [← htk]; exact took_in HRO.out (by omega) HZI.out HCO.out.2 (by have := HCO.out; omega))
       have TKE := Lib.hid htk
       have FKE := Lib.hid hfk
       have ISG := Lib.hid (isC_of_blk GS.out.drew)
       have ISR := Lib.hid (isC_of_blk RBS.out.drew)
       have gz0 := GS.out.cell (i := 0) rfl
       have gz1 := GS.out.cell (i := 1) rfl
       have gz2 := GS.out.cell (i := 2) rfl
       have gz3 := GS.out.cell (i := 3) rfl
       have rz0 := RBS.out.cell (i := 0) rfl
       have rz1 := RBS.out.cell (i := 1) rfl
       have rz2 := RBS.out.cell (i := 2) rfl
       have rz3 := RBS.out.cell (i := 3) rfl
       have rz4 := RBS.out.cell (i := 4) rfl
       have rz5 := RBS.out.cell (i := 5) rfl
       have rz6 := RBS.out.cell (i := 6) rfl
       have rz7 := RBS.out.cell (i := 7) rfl
       have rz8 := RBS.out.cell (i := 8) rfl
       have ltG : gb < wS.heap.size := GS.out.lt
       have ltG' : ¬ gb = wS.heap.size := by omega
       have ltR : w3.heap.size < wS.heap.size := RBS.out.lt
       have ltR' : ¬ w3.heap.size = wS.heap.size := by omega
       have HLC := Lib.hid (show wr.heap.size < wS.heap.size from CCS.out.lt)
       clear hcc hep hoa hfz hlz htk hfk
       refine wp_region_sched (by kernel_rfl) fun S => ?_
       rcases before_or 14 5 S with q0 | q0
       ·refine ⟨[(14, 5)], by decide, fun p hp => by simp only [List.mem_cons, List.not_mem_nil, or_false] at hp; rcases hp with rfl <;> assumption, held_perm [0, 1, 2, 3, 4, 6, 7, 8, 9, 10, 11, 14, 5, 12, 13, 15] [13] [2, 3, 7, 8] [] (by kernel_rfl) (by kernel_rfl) ?_⟩
        simp only [wpCut, edges, edge, perm, reOper, reGuard, List.getElem?_cons_succ, List.getElem?_cons_zero, List.take_succ_cons, List.take_zero, List.drop_succ_cons, List.drop_zero, List.cons_append, List.nil_append]
        go_wp2_with fail
        refine (RM.out _).mono ?_
        rintro e8 w8 ⟨rfl, hM8⟩
        have MC8 := Lib.hid (((Mod.refl [] wS).alloc (.cells #[.int .i64 0, .int .i64 0, .int .i64 0] 39)).drew.trans hM8)
        have HM8 := Lib.hid hM8
        have NB8 := Lib.hid (hM8.blk (Blk.new wS [.int .i64 0, .int .i64 0, .int .i64 0] 39).drew (by simp))
        clear hM8
        go_wp2_with fail
        refine ⟨(((Mod.refl [] wS.drew).alloc (.cells #[.int .i64 0, .int .i64 0, .int .i64 0] 39)).trans HM8.out), ?_⟩
        go_wp2_with fail
        refine (WT.out _).mono ?_
        rintro e9 w9 ⟨rfl, hM9⟩
        have HM9 := Lib.hid hM9
        have MC9 := Lib.hid (MC8.out.trans hM9)
        have NB9 := Lib.hid (hM9.blk NB8.out (by simp))
        have nb0 := NB9.out.cell (i := 0) rfl
        have nb1 := NB9.out.cell (i := 1) rfl
        have nb2 := NB9.out.cell (i := 2) rfl
        have nf0 := NB9.out.free 0
        have nf1 := NB9.out.free 1
        have nf2 := NB9.out.free 2
        clear hM9
        go_wp2_with fail
        refine ⟨by kernel_rfl, ⟨⟨by simp, ISG.out⟩, ⟨by simp, ISR.out⟩, ⟨by simp, ISG.out⟩, ⟨by simp, ISR.out⟩, trivial⟩, ?_⟩
        have HAB := Lib.hid (show wS.heap.size ≤ wS.heap.size from Nat.le_refl _)
        have MW := Lib.hid (MC9.out.trans' ((((Mod.refl [wS.heap.size] w9).setCell (p := ⟨wS.heap.size, 0, none⟩) (.inl (by simp)) (.int .i64 1)).setCell (p := ⟨wS.heap.size, 1, none⟩) (.inl (by simp)) (.int .i64 fz)).setCell (p := ⟨wS.heap.size, 2, none⟩) (.inl (by simp)) (.int .i64 lz)) (fun b hb => .inr (by simp only [List.mem_singleton] at hb; have := HAB.out; omega)))
        have AB := Lib.hid (show Blk (((w9.setCell ⟨wS.heap.size, 0, none⟩ (.int .i64 1)).setCell ⟨wS.heap.size, 1, none⟩ (.int .i64 fz)).setCell ⟨wS.heap.size, 2, none⟩ (.int .i64 lz)) wS.heap.size 39 [.int .i64 1, .int .i64 fz, .int .i64 lz] from ((NB9.out.set 0 _).set 1 _).set 2 _)
        skip
        obtain ⟨wW, hwW⟩ : ∃ wW, (((w9.setCell ⟨wS.heap.size, 0, none⟩ (.int .i64 1)).setCell ⟨wS.heap.size, 1, none⟩ (.int .i64 fz)).setCell ⟨wS.heap.size, 2, none⟩ (.int .i64 lz)) = wW := ⟨_, rfl⟩
        rw [hwW] at MW AB ⊢
        obtain ⟨ab, hab⟩ : ∃ ab, wS.heap.size = ab := ⟨_, rfl⟩
        rw [hab] at AB ⊢
        have HAB := Lib.hid (show wS.heap.size ≤ ab from by have := HAB.out; omega)
        clear hwW hab ltG ltG' ltR ltR' gz0 gz1 gz2 gz3 rz0 rz1 rz2 rz3 rz4 rz5 rz6 rz7 rz8 nb0 nb1 nb2 nf0 nf1 nf2
        have LW := Lib.hid (LS.out.mod0 MW.out)
        have OW := Lib.hid (OS.out.mod0 MW.out)
        have RBW := Lib.hid (MW.out.blk RBS.out (by simp))
        have CCW := Lib.hid (MW.out.blk CCS.out (by simp))
        have GW := Lib.hid (MW.out.blk GS.out (by simp))
        have WW := Lib.hid (WS.out.trans MW.out)
        have NAB := Lib.hid (show ab ∉ B.all from fun hb => by have := LS.out.lt _ hb; have := HAB.out; omega)
        have HNE := Lib.hid (show ab ≠ gb ∧ ab ≠ w3.heap.size ∧ ab ≠ wr.heap.size ∧ tb < ab from by have h1 := GS.out.lt; have h2 := RBS.out.lt; have h3 := HLC.out; have h4 := HAB.out; have h5 := HTG.out; omega)
        by_cases hlz0 : 0 < lz
        ·have dz : decide (0 < lz) = true := decide_eq_true hlz0
         have hav : ansV fz lz = ⟨2, fz, lz⟩ := by unfold ansV; rw [if_pos hlz0]
         have hav2 : ansV fk lz = ⟨2, fk, lz⟩ := by unfold ansV; rw [if_pos hlz0]
         have PK2 := PK.out
         rw [hav] at PK2
         have PK3 := Lib.hid PK2
         have CKA2 := CKA.out
         rw [hav2] at CKA2
         have CKB := Lib.hid CKA2
         clear PK2 CKA2 hav hav2 hlz0
         have MV := Lib.hid ((Mod.refl [ab] wW).setCell (p := ⟨ab, 0, none⟩) (.inl (by simp)) (.int .i64 2))
         have AV := Lib.hid (show Blk (wW.setCell ⟨ab, 0, none⟩ (.int .i64 2)) ab 39 [.int .i64 2, .int .i64 fz, .int .i64 lz] from AB.out.set 0 _)
         have cc2 := CCW.out.cell (i := 2) rfl
         have cc3 := CCW.out.cell (i := 3) rfl
         have rw4 := RBW.out.cell (i := 4) rfl
         have ac0 := AB.out.cell (i := 0) rfl
         have ac1 := AB.out.cell (i := 1) rfl
         have ac2 := AB.out.cell (i := 2) rfl
         have af0 := AB.out.free 0
         obtain ⟨hne1, hne2, hne3, hne4⟩ := HNE.out
         have hne3' : ¬ wr.heap.size = ab := fun h => hne3 h.symm
         have hne2' : ¬ w3.heap.size = ab := fun h => hne2 h.symm
         cases pk with
         | true =>
           go_wp2_with fail
           obtain ⟨wV, hwV⟩ : ∃ wV, (wW.setCell ⟨ab, 0, none⟩ (.int .i64 2)) = wV := ⟨_, rfl⟩
           rw [hwV] at MV AV ⊢
           have LV := Lib.hid (LW.out.mod MV.out (fun b hb hb2 => by simp only [List.mem_singleton] at hb2; subst hb2; exact NAB.out hb) (fun hb2 => by have h1 := HTN.out.2.1; have h2 := HNE.out.2.2.2; simp only [List.mem_singleton] at hb2; omega))
           have OV := Lib.hid (OS.out.mod0 (MW.out.trans' MV.out (fun b hb => .inr (by simp only [List.mem_singleton] at hb; subst hb; exact HAB.out))))
           have RBV := Lib.hid (MV.out.blk RBW.out (by have h := HNE.out.2.1; simp; omega))
           have CCV := Lib.hid (MV.out.blk CCW.out (by have h := HNE.out.2.2.1; simp; omega))
           have GV := Lib.hid (MV.out.blk GW.out (by have h := HNE.out.1; simp; omega))
           have WV := Lib.hid (WW.out.trans' MV.out (fun b hb => .inr (by have h1 := HTN4.out; have h2 := HNE.out.2.2.2; simp only [List.mem_singleton] at hb; omega)))
           clear cc2 cc3 rw4 ac0 ac1 ac2 af0 hne1 hne2 hne3 hne4 hne3' hne2' hwV
           have cc2 := CCV.out.cell (i := 2) rfl
           have ac0 := AV.out.cell (i := 0) rfl
           have ac1 := AV.out.cell (i := 1) rfl
           have ac2 := AV.out.cell (i := 2) rfl
           have ISA := Lib.hid (isC_of_blk AV.out.drew)
           refine Go.YtndekdafiaogmaaLex.wp_region_held [6] [6] B.all (by kernel_rfl) (by kernel_rfl) ?_
           simp only [wpCut, List.take_succ_cons, List.take_zero, List.drop_succ_cons, List.drop_zero, List.cons_append, List.nil_append]
           go_wp2_with fail
           refine (PK3.out _ (LV.out.mod0 (Mod.refl [] _).drew)).mono ?_
           rintro e11 w11 ⟨rfl, hL11, hM11⟩
           have L11 := Lib.hid hL11
           have M11 := Lib.hid hM11
           have O11 := Lib.hid ((OV.out.mod0 (Mod.refl [] _).drew).mod hM11 (fun b hb => .inl (HTN.out.1 b hb)))
           have RB11 := Lib.hid (hM11.blk RBV.out.drew BL.out.2)
           have W11 := Lib.hid (WV.out.drew.trans' hM11 (fun b hb => .inr (by have := BL.out.1 b hb; omega)))
           have AV11 := Lib.hid (hM11.blk AV.out.drew NAB.out)
           have bc0 := AV11.out.cell (i := 0) rfl
           have bc1 := AV11.out.cell (i := 1) rfl
           have bc2 := AV11.out.cell (i := 2) rfl
           clear hL11 hM11 cc2 ac0 ac1 ac2
           simp only [Ans.val]
           go_wp2_with fail
           refine ⟨M11.out, ?_⟩
           go_wp2_with fail
           refine ⟨by kernel_rfl, ⟨⟨NAB.out, ISA.out⟩, trivial⟩, ?_⟩
           go_wp2_with fail
           go_roundw
           case rel => exact ⟨k + 1, T, s.to (T : Int), nn, m, P, F, by omega, by go_num, rfl, L11.out, KP.out, RingOf.rk (x := s.ring) HG.out rfl, EJ.out.to _, O11.out, by omega, RB11.out, W11.out⟩
           case measure => simp [intOf]; omega
         | false =>
           have LV := Lib.hid (LW.out.mod MV.out (fun b hb hb2 => by simp only [List.mem_singleton] at hb2; subst hb2; exact NAB.out hb) (fun hb2 => by have h1 := HTN.out.2.1; have h2 := HNE.out.2.2.2; simp only [List.mem_singleton] at hb2; omega))
           have OV := Lib.hid (OS.out.mod0 (MW.out.trans' MV.out (fun b hb => .inr (by simp only [List.mem_singleton] at hb; subst hb; exact HAB.out))))
           have RBV := Lib.hid (MV.out.blk RBW.out (by have h := HNE.out.2.1; simp; omega))
           have CCV := Lib.hid (MV.out.blk CCW.out (by have h := HNE.out.2.2.1; simp; omega))
           have GV := Lib.hid (MV.out.blk GW.out (by have h := HNE.out.1; simp; omega))
           have WV := Lib.hid (WW.out.trans' MV.out (fun b hb => .inr (by have h1 := HTN4.out; have h2 := HNE.out.2.2.2; simp only [List.mem_singleton] at hb; omega)))
           have AVV := Lib.hid (show Blk (wW.setCell ⟨ab, 0, none⟩ (.int .i64 2)) ab 39 [.int .i64 2, .int .i64 fz, .int .i64 lz] from AV.out)
           have TK : Hid (∀ W, Blk W gb 62 [.int .i64 z, .int .i64 ((T : Int) - r1), .int .i64 0, .int .i64 0] → Calls Try.prog 26 #[.pointer (some ⟨gb, 0, none⟩), .agg #[.int .i64 r0, .int .i64 r1, .int .i64 r2, .int .i64 r3, .int .i64 r4, .int .i64 r5, .int .i64 r6, .int .i64 r7, .bool r8], .int .i64 (T : Int), .int .i64 (n1 : Int)] W (TookPost gb (⟨r0, r1, r2, r3, r4, r5, r6, r7, r8⟩ : Rule) z (T : Int) (n1 : Int) W)) := Lib.hid (fun W hB => take_old HRO.out (by omega) HZI.out ⟨by have := HCO.out.1; omega, HCO.out.2⟩ hB)
           have RM2 : Hid (∀ u, 0 ≤ u ∧ u ≤ 100 → ∀ W, Calls Try.prog 23 #[.agg #[.int .i64 tk, .int .i64 ((T : Int) - r1), .int .i64 0, .int .i64 u], .agg #[.int .i64 r0, .int .i64 r1, .int .i64 r2, .int .i64 r3, .int .i64 r4, .int .i64 r5, .int .i64 r6, .int .i64 r7, .bool r8], .int .i64 (T : Int)] W fun e w' => e = .returned (.int .i64 fk) ∧ Mod [] W w') := Lib.hid (fun u hu W => by rw [← FKE.out]; exact room_old HRO.out (by omega) HTK.out hu W)
           have hck := CKB.out FK.out
           have ck0 := CK0.out
           have kc := KC0.out
           have hrk := RingOf.rk (x := s.ring) HG.out (rk_check c s (T : Int) 0 key (n1 : Int))
           rcases hq : check c s (T : Int) 0 key (n1 : Int) with ⟨A0, ev, s2⟩
           rw [hq] at hck ck0 kc hrk
           simp only at hck kc hrk
           obtain ⟨hA, hE⟩ := hck
           subst hA
           have CK1 := Lib.hid ck0
           have KC1 := Lib.hid kc
           have EJ2 := Lib.hid hE
           have HG2 := Lib.hid hrk
           obtain ⟨w9', pt, P9, N9⟩ := OV.out.map.put (mt := 60) SKX Try.underlying60 (by have := HNN.out; unfold maxLen; omega) (text_keyX key HKM.out) (.pointer (some ⟨gb, 0, none⟩))
           rw [CNT.out] at P9
           have P9h := Lib.hid P9
           have N9h := Lib.hid N9
           have htg := HTG.out
           have G9 := Lib.hid (N9.blk GV.out (by simp; omega))
           have RB9 := Lib.hid (N9.blk RBV.out (by have := HTN.out.2.2; simp; omega))
           have CC9 := Lib.hid (N9.blk CCV.out (by have := HTBW.out; simp; omega))
           have AV9 := Lib.hid (N9.blk AVV.out (by have := HNE.out.2.2.2; simp; omega))
           have rq0 := RB9.out.cell (i := 0) rfl
           have rq1 := RB9.out.cell (i := 1) rfl
           have rq2 := RB9.out.cell (i := 2) rfl
           have rq3 := RB9.out.cell (i := 3) rfl
           have rq4 := RB9.out.cell (i := 4) rfl
           have rq5 := RB9.out.cell (i := 5) rfl
           have rq6 := RB9.out.cell (i := 6) rfl
           have rq7 := RB9.out.cell (i := 7) rfl
           have rq8 := RB9.out.cell (i := 8) rfl
           clear hq ck0 kc hE hrk P9 N9 htg
           go_wp2_with fail
           refine (TK.out _ G9.out).mono ?_
           rintro e12 w12 ⟨⟨bt, rfl⟩, ⟨u, hu0, hu1, hB12⟩, hM12⟩
           have HU := Lib.hid (show 0 ≤ u ∧ u ≤ 100 by omega)
           have G12 : Hid (Blk w12 gb 62 [.int .i64 tk, .int .i64 ((T : Int) - r1), .int .i64 0, .int .i64 u]) := Lib.hid (by have h := hB12; rw [TKE.out] at h; exact h)
           have M12 := Lib.hid (show Mod [tb, gb] (wW.setCell ⟨ab, 0, none⟩ (.int .i64 2)) w12 from (N9h.out.mono (by simp)).trans (hM12.mono (by simp)))
           have O12 := Lib.hid (OV.out.put KEYC.out HTG.out M12.out (P9h.out.mod hM12 (by have := HTG.out; simp; omega)) G12.out)
           have RB12 := Lib.hid (hM12.blk RB9.out (by have := HTN.out.2.2; have := HTG.out; simp; omega))
           have CC12 := Lib.hid (hM12.blk CC9.out (by have := HGC.out; simp; omega))
           have AV12 := Lib.hid (hM12.blk AV9.out (by have := HNE.out.1; simp; omega))
           have L12 := Lib.hid (LV.out.mod M12.out (fun b hb hb2 => by have h1 := HTN.out.1 b hb; have h2 := HTG.out; simp only [List.mem_cons, List.not_mem_nil, or_false] at hb2; omega) (fun hb2 => by have h1 := HTN.out.2.1; have h2 := HTG.out; simp only [List.mem_cons, List.not_mem_nil, or_false] at hb2; omega))
           have W12 := Lib.hid (WV.out.trans' M12.out (fun b hb => .inr (by have h1 := HTN4.out; have h2 := HTG.out; simp only [List.mem_cons, List.not_mem_nil, or_false] at hb; omega)))
           clear hB12 hM12 hu0 hu1 rq0 rq1 rq2 rq3 rq4 rq5 rq6 rq7 rq8
           have gq0 := G12.out.cell (i := 0) rfl
           have gq1 := G12.out.cell (i := 1) rfl
           have gq2 := G12.out.cell (i := 2) rfl
           have gq3 := G12.out.cell (i := 3) rfl
           have rq0 := RB12.out.cell (i := 0) rfl
           have rq1 := RB12.out.cell (i := 1) rfl
           have rq2 := RB12.out.cell (i := 2) rfl
           have rq3 := RB12.out.cell (i := 3) rfl
           have rq4 := RB12.out.cell (i := 4) rfl
           have rq5 := RB12.out.cell (i := 5) rfl
           have rq6 := RB12.out.cell (i := 6) rfl
           have rq7 := RB12.out.cell (i := 7) rfl
           have rq8 := RB12.out.cell (i := 8) rfl
           go_wp2_with fail
           refine Go.YtndekdafiaogmaaLex.wp_region_lex (by kernel_rfl) (by kernel_rfl) ?_
           go_wp2_with fail
           refine (RM2.out u HU.out _).mono ?_
           rintro e13 w13 ⟨rfl, hM13⟩
           have M13 := Lib.hid ((Mod.refl [] w12).drew.trans hM13)
           have AV13 := Lib.hid (M13.out.blk AV12.out (by simp))
           have CC13 := Lib.hid (M13.out.blk CC12.out (by simp))
           have MS13 := Lib.hid ((Mod.refl [ab] w13).setCell (p := ⟨ab, 1, none⟩) (.inl (by simp)) (.int .i64 fk))
           have AV14 := Lib.hid (AV13.out.set 1 (.int .i64 fk))
           have a131 := AV13.out.cell (i := 1) rfl
           have f131 := AV13.out.free 1
           have q2 := CC13.out.cell (i := 2) rfl
           have L13 := Lib.hid ((L12.out.mod0 M13.out).mod MS13.out (fun b hb hb2 => by simp only [List.mem_singleton] at hb2; subst hb2; exact NAB.out hb) (fun hb2 => by have h1 := HTN.out.2.1; have h2 := HNE.out.2.2.2; simp only [List.mem_singleton] at hb2; omega))
           clear hM13 gq0 gq1 gq2 gq3 rq0 rq1 rq2 rq3 rq4 rq5 rq6 rq7 rq8
           go_wp2_with fail
           refine ⟨by kernel_rfl, ?_⟩
           go_wp2_with fail
           refine (CK1.out _ L13.out).mono ?_
           rintro e15 w15 ⟨v15, rfl, hO15, hL15, hM15⟩
           obtain ⟨a7, c7, rfl⟩ := hO15.slice
           have OB := Lib.hid ((O12.out.mod0 M13.out).blkX (T := 39) (by decide) AV13.out HNE.out.2.2.2 MS13.out)
           have L15 := Lib.hid hL15
           have AV15 := Lib.hid (hM15.blk AV14.out NAB.out)
           have RB15 := Lib.hid (hM15.blk (MS13.out.blk (M13.out.blk RB12.out (by simp)) (by have := HNE.out.2.1; simp; omega)) BL.out.2)
           have O15 := Lib.hid (OB.out.mod hM15 (fun b hb => .inl (HTN.out.1 b hb)))
           have W15 := Lib.hid (((W12.out.trans M13.out).trans' MS13.out (fun b hb => .inr (by have h1 := HTN4.out; have h2 := HNE.out.2.2.2; simp only [List.mem_singleton] at hb; omega))).trans' hM15 (fun b hb => .inr (by have := BL.out.1 b hb; omega)))
           have bq0 := AV15.out.cell (i := 0) rfl
           have bq1 := AV15.out.cell (i := 1) rfl
           have bq2 := AV15.out.cell (i := 2) rfl
           have lab : ab < w15.heap.size := AV15.out.lt
           have lab' : ¬ ab = w15.heap.size := by omega
           have HNK := Lib.hid (show nn + 1 ≤ k + 1 ∧ (if (F key).isSome then m else m + 1) ≤ k + 1 from by have := HNN.out; split <;> omega)
           clear hO15 hL15 hM15 a131 f131 q2
           simp only [Ans.val]
           go_wp2_with fail
           go_roundw
           case rel => exact ⟨k + 1, T, s2, nn + 1, _, _, _, by omega, by go_num, rfl, L15.out.mod0 ((Mod.refl [] _).alloc _), KC1.out, HG2.out, EJ2.out, O15.out.mod0 ((Mod.refl [] _).alloc _), HNK.out, RB15.out.alloc _, W15.out.alloc _⟩
           case measure => simp [intOf]; omega
        ·have dz : decide (0 < lz) = false := decide_eq_false hlz0
         have hav : ansV fz lz = ⟨1, fz, lz⟩ := by unfold ansV; rw [if_neg hlz0]
         have hav2 : ansV fk lz = ⟨1, fk, lz⟩ := by unfold ansV; rw [if_neg hlz0]
         have PK2 := PK.out
         rw [hav] at PK2
         have PK3 := Lib.hid PK2
         have CKA2 := CKA.out
         rw [hav2] at CKA2
         have CKB := Lib.hid CKA2
         clear PK2 CKA2 hav hav2 hlz0
         have MV := Lib.hid (Mod.refl [ab] wW)
         have AV := Lib.hid (show Blk wW ab 39 [.int .i64 1, .int .i64 fz, .int .i64 lz] from AB.out)
         have cc2 := CCW.out.cell (i := 2) rfl
         have cc3 := CCW.out.cell (i := 3) rfl
         have rw4 := RBW.out.cell (i := 4) rfl
         have ac0 := AB.out.cell (i := 0) rfl
         have ac1 := AB.out.cell (i := 1) rfl
         have ac2 := AB.out.cell (i := 2) rfl
         have af0 := AB.out.free 0
         obtain ⟨hne1, hne2, hne3, hne4⟩ := HNE.out
         have hne3' : ¬ wr.heap.size = ab := fun h => hne3 h.symm
         have hne2' : ¬ w3.heap.size = ab := fun h => hne2 h.symm
         cases pk with
         | true =>
           go_wp2_with fail
           obtain ⟨wV, hwV⟩ : ∃ wV, wW = wV := ⟨_, rfl⟩
           have MV : Hid (Mod [ab] wW wV) := Lib.hid (by rw [← hwV]; exact MV.out)
           have AV : Hid (Blk wV ab 39 [.int .i64 1, .int .i64 fz, .int .i64 lz]) := Lib.hid (by rw [← hwV]; exact AV.out)
           rw [hwV]
           have LV := Lib.hid (LW.out.mod MV.out (fun b hb hb2 => by simp only [List.mem_singleton] at hb2; subst hb2; exact NAB.out hb) (fun hb2 => by have h1 := HTN.out.2.1; have h2 := HNE.out.2.2.2; simp only [List.mem_singleton] at hb2; omega))
           have OV := Lib.hid (OS.out.mod0 (MW.out.trans' MV.out (fun b hb => .inr (by simp only [List.mem_singleton] at hb; subst hb; exact HAB.out))))
           have RBV := Lib.hid (MV.out.blk RBW.out (by have h := HNE.out.2.1; simp; omega))
           have CCV := Lib.hid (MV.out.blk CCW.out (by have h := HNE.out.2.2.1; simp; omega))
           have GV := Lib.hid (MV.out.blk GW.out (by have h := HNE.out.1; simp; omega))
           have WV := Lib.hid (WW.out.trans' MV.out (fun b hb => .inr (by have h1 := HTN4.out; have h2 := HNE.out.2.2.2; simp only [List.mem_singleton] at hb; omega)))
           clear cc2 cc3 rw4 ac0 ac1 ac2 af0 hne1 hne2 hne3 hne4 hne3' hne2' hwV
           have cc2 := CCV.out.cell (i := 2) rfl
           have ac0 := AV.out.cell (i := 0) rfl
           have ac1 := AV.out.cell (i := 1) rfl
           have ac2 := AV.out.cell (i := 2) rfl
           have ISA := Lib.hid (isC_of_blk AV.out.drew)
           refine Go.YtndekdafiaogmaaLex.wp_region_held [6] [6] B.all (by kernel_rfl) (by kernel_rfl) ?_
           simp only [wpCut, List.take_succ_cons, List.take_zero, List.drop_succ_cons, List.drop_zero, List.cons_append, List.nil_append]
           go_wp2_with fail
           refine (PK3.out _ (LV.out.mod0 (Mod.refl [] _).drew)).mono ?_
           rintro e11 w11 ⟨rfl, hL11, hM11⟩
           have L11 := Lib.hid hL11
           have M11 := Lib.hid hM11
           have O11 := Lib.hid ((OV.out.mod0 (Mod.refl [] _).drew).mod hM11 (fun b hb => .inl (HTN.out.1 b hb)))
           have RB11 := Lib.hid (hM11.blk RBV.out.drew BL.out.2)
           have W11 := Lib.hid (WV.out.drew.trans' hM11 (fun b hb => .inr (by have := BL.out.1 b hb; omega)))
           have AV11 := Lib.hid (hM11.blk AV.out.drew NAB.out)
           have bc0 := AV11.out.cell (i := 0) rfl
           have bc1 := AV11.out.cell (i := 1) rfl
           have bc2 := AV11.out.cell (i := 2) rfl
           clear hL11 hM11 cc2 ac0 ac1 ac2
           simp only [Ans.val]
           go_wp2_with fail
           refine ⟨M11.out, ?_⟩
           go_wp2_with fail
           refine ⟨by kernel_rfl, ⟨⟨NAB.out, ISA.out⟩, trivial⟩, ?_⟩
           go_wp2_with fail
           go_roundw
           case rel => exact ⟨k + 1, T, s.to (T : Int), nn, m, P, F, by omega, by go_num, rfl, L11.out, KP.out, RingOf.rk (x := s.ring) HG.out rfl, EJ.out.to _, O11.out, by omega, RB11.out, W11.out⟩
           case measure => simp [intOf]; omega
         | false =>
           have LV := Lib.hid (LW.out.mod MV.out (fun b hb hb2 => by simp only [List.mem_singleton] at hb2; subst hb2; exact NAB.out hb) (fun hb2 => by have h1 := HTN.out.2.1; have h2 := HNE.out.2.2.2; simp only [List.mem_singleton] at hb2; omega))
           have OV := Lib.hid (OS.out.mod0 (MW.out.trans' MV.out (fun b hb => .inr (by simp only [List.mem_singleton] at hb; subst hb; exact HAB.out))))
           have RBV := Lib.hid (MV.out.blk RBW.out (by have h := HNE.out.2.1; simp; omega))
           have CCV := Lib.hid (MV.out.blk CCW.out (by have h := HNE.out.2.2.1; simp; omega))
           have GV := Lib.hid (MV.out.blk GW.out (by have h := HNE.out.1; simp; omega))
           have WV := Lib.hid (WW.out.trans' MV.out (fun b hb => .inr (by have h1 := HTN4.out; have h2 := HNE.out.2.2.2; simp only [List.mem_singleton] at hb; omega)))
           have AVV := Lib.hid (show Blk wW ab 39 [.int .i64 1, .int .i64 fz, .int .i64 lz] from AV.out)
           have TK : Hid (∀ W, Blk W gb 62 [.int .i64 z, .int .i64 ((T : Int) - r1), .int .i64 0, .int .i64 0] → Calls Try.prog 26 #[.pointer (some ⟨gb, 0, none⟩), .agg #[.int .i64 r0, .int .i64 r1, .int .i64 r2, .int .i64 r3, .int .i64 r4, .int .i64 r5, .int .i64 r6, .int .i64 r7, .bool r8], .int .i64 (T : Int), .int .i64 (n1 : Int)] W (TookPost gb (⟨r0, r1, r2, r3, r4, r5, r6, r7, r8⟩ : Rule) z (T : Int) (n1 : Int) W)) := Lib.hid (fun W hB => take_old HRO.out (by omega) HZI.out ⟨by have := HCO.out.1; omega, HCO.out.2⟩ hB)
           have RM2 : Hid (∀ u, 0 ≤ u ∧ u ≤ 100 → ∀ W, Calls Try.prog 23 #[.agg #[.int .i64 tk, .int .i64 ((T : Int) - r1), .int .i64 0, .int .i64 u], .agg #[.int .i64 r0, .int .i64 r1, .int .i64 r2, .int .i64 r3, .int .i64 r4, .int .i64 r5, .int .i64 r6, .int .i64 r7, .bool r8], .int .i64 (T : Int)] W fun e w' => e = .returned (.int .i64 fk) ∧ Mod [] W w') := Lib.hid (fun u hu W => by rw [← FKE.out]; exact room_old HRO.out (by omega) HTK.out hu W)
           have hck := CKB.out FK.out
           have ck0 := CK0.out
           have kc := KC0.out
           have hrk := RingOf.rk (x := s.ring) HG.out (rk_check c s (T : Int) 0 key (n1 : Int))
           rcases hq : check c s (T : Int) 0 key (n1 : Int) with ⟨A0, ev, s2⟩
           rw [hq] at hck ck0 kc hrk
           simp only at hck kc hrk
           obtain ⟨hA, hE⟩ := hck
           subst hA
           have CK1 := Lib.hid ck0
           have KC1 := Lib.hid kc
           have EJ2 := Lib.hid hE
           have HG2 := Lib.hid hrk
           obtain ⟨w9', pt, P9, N9⟩ := OV.out.map.put (mt := 60) SKX Try.underlying60 (by have := HNN.out; unfold maxLen; omega) (text_keyX key HKM.out) (.pointer (some ⟨gb, 0, none⟩))
           rw [CNT.out] at P9
           have P9h := Lib.hid P9
           have N9h := Lib.hid N9
           have htg := HTG.out
           have G9 := Lib.hid (N9.blk GV.out (by simp; omega))
           have RB9 := Lib.hid (N9.blk RBV.out (by have := HTN.out.2.2; simp; omega))
           have CC9 := Lib.hid (N9.blk CCV.out (by have := HTBW.out; simp; omega))
           have AV9 := Lib.hid (N9.blk AVV.out (by have := HNE.out.2.2.2; simp; omega))
           have rq0 := RB9.out.cell (i := 0) rfl
           have rq1 := RB9.out.cell (i := 1) rfl
           have rq2 := RB9.out.cell (i := 2) rfl
           have rq3 := RB9.out.cell (i := 3) rfl
           have rq4 := RB9.out.cell (i := 4) rfl
           have rq5 := RB9.out.cell (i := 5) rfl
           have rq6 := RB9.out.cell (i := 6) rfl
           have rq7 := RB9.out.cell (i := 7) rfl
           have rq8 := RB9.out.cell (i := 8) rfl
           clear hq ck0 kc hE hrk P9 N9 htg
           go_wp2_with fail
           refine (TK.out _ G9.out).mono ?_
           rintro e12 w12 ⟨⟨bt, rfl⟩, ⟨u, hu0, hu1, hB12⟩, hM12⟩
           have HU := Lib.hid (show 0 ≤ u ∧ u ≤ 100 by omega)
           have G12 : Hid (Blk w12 gb 62 [.int .i64 tk, .int .i64 ((T : Int) - r1), .int .i64 0, .int .i64 u]) := Lib.hid (by have h := hB12; rw [TKE.out] at h; exact h)
           have M12 := Lib.hid (show Mod [tb, gb] wW w12 from (N9h.out.mono (by simp)).trans (hM12.mono (by simp)))
           have O12 := Lib.hid (OV.out.put KEYC.out HTG.out M12.out (P9h.out.mod hM12 (by have := HTG.out; simp; omega)) G12.out)
           have RB12 := Lib.hid (hM12.blk RB9.out (by have := HTN.out.2.2; have := HTG.out; simp; omega))
           have CC12 := Lib.hid (hM12.blk CC9.out (by have := HGC.out; simp; omega))
           have AV12 := Lib.hid (hM12.blk AV9.out (by have := HNE.out.1; simp; omega))
           have L12 := Lib.hid (LV.out.mod M12.out (fun b hb hb2 => by have h1 := HTN.out.1 b hb; have h2 := HTG.out; simp only [List.mem_cons, List.not_mem_nil, or_false] at hb2; omega) (fun hb2 => by have h1 := HTN.out.2.1; have h2 := HTG.out; simp only [List.mem_cons, List.not_mem_nil, or_false] at hb2; omega))
           have W12 := Lib.hid (WV.out.trans' M12.out (fun b hb => .inr (by have h1 := HTN4.out; have h2 := HTG.out; simp only [List.mem_cons, List.not_mem_nil, or_false] at hb; omega)))
           clear hB12 hM12 hu0 hu1 rq0 rq1 rq2 rq3 rq4 rq5 rq6 rq7 rq8
           have gq0 := G12.out.cell (i := 0) rfl
           have gq1 := G12.out.cell (i := 1) rfl
           have gq2 := G12.out.cell (i := 2) rfl
           have gq3 := G12.out.cell (i := 3) rfl
           have rq0 := RB12.out.cell (i := 0) rfl
           have rq1 := RB12.out.cell (i := 1) rfl
           have rq2 := RB12.out.cell (i := 2) rfl
           have rq3 := RB12.out.cell (i := 3) rfl
           have rq4 := RB12.out.cell (i := 4) rfl
           have rq5 := RB12.out.cell (i := 5) rfl
           have rq6 := RB12.out.cell (i := 6) rfl
           have rq7 := RB12.out.cell (i := 7) rfl
           have rq8 := RB12.out.cell (i := 8) rfl
           go_wp2_with fail
           refine Go.YtndekdafiaogmaaLex.wp_region_lex (by kernel_rfl) (by kernel_rfl) ?_
           go_wp2_with fail
           refine (RM2.out u HU.out _).mono ?_
           rintro e13 w13 ⟨rfl, hM13⟩
           have M13 := Lib.hid ((Mod.refl [] w12).drew.trans hM13)
           have AV13 := Lib.hid (M13.out.blk AV12.out (by simp))
           have CC13 := Lib.hid (M13.out.blk CC12.out (by simp))
           have MS13 := Lib.hid ((Mod.refl [ab] w13).setCell (p := ⟨ab, 1, none⟩) (.inl (by simp)) (.int .i64 fk))
           have AV14 := Lib.hid (AV13.out.set 1 (.int .i64 fk))
           have a131 := AV13.out.cell (i := 1) rfl
           have f131 := AV13.out.free 1
           have q2 := CC13.out.cell (i := 2) rfl
           have L13 := Lib.hid ((L12.out.mod0 M13.out).mod MS13.out (fun b hb hb2 => by simp only [List.mem_singleton] at hb2; subst hb2; exact NAB.out hb) (fun hb2 => by have h1 := HTN.out.2.1; have h2 := HNE.out.2.2.2; simp only [List.mem_singleton] at hb2; omega))
           clear hM13 gq0 gq1 gq2 gq3 rq0 rq1 rq2 rq3 rq4 rq5 rq6 rq7 rq8
           go_wp2_with fail
           refine ⟨by kernel_rfl, ?_⟩
           go_wp2_with fail
           refine (CK1.out _ L13.out).mono ?_
           rintro e15 w15 ⟨v15, rfl, hO15, hL15, hM15⟩
           obtain ⟨a7, c7, rfl⟩ := hO15.slice
           have OB := Lib.hid ((O12.out.mod0 M13.out).blkX (T := 39) (by decide) AV13.out HNE.out.2.2.2 MS13.out)
           have L15 := Lib.hid hL15
           have AV15 := Lib.hid (hM15.blk AV14.out NAB.out)
           have RB15 := Lib.hid (hM15.blk (MS13.out.blk (M13.out.blk RB12.out (by simp)) (by have := HNE.out.2.1; simp; omega)) BL.out.2)
           have O15 := Lib.hid (OB.out.mod hM15 (fun b hb => .inl (HTN.out.1 b hb)))
           have W15 := Lib.hid (((W12.out.trans M13.out).trans' MS13.out (fun b hb => .inr (by have h1 := HTN4.out; have h2 := HNE.out.2.2.2; simp only [List.mem_singleton] at hb; omega))).trans' hM15 (fun b hb => .inr (by have := BL.out.1 b hb; omega)))
           have bq0 := AV15.out.cell (i := 0) rfl
           have bq1 := AV15.out.cell (i := 1) rfl
           have bq2 := AV15.out.cell (i := 2) rfl
           have lab : ab < w15.heap.size := AV15.out.lt
           have lab' : ¬ ab = w15.heap.size := by omega
           have HNK := Lib.hid (show nn + 1 ≤ k + 1 ∧ (if (F key).isSome then m else m + 1) ≤ k + 1 from by have := HNN.out; split <;> omega)
           clear hO15 hL15 hM15 a131 f131 q2
           simp only [Ans.val]
           go_wp2_with fail
           go_roundw
           case rel => exact ⟨k + 1, T, s2, nn + 1, _, _, _, by omega, by go_num, rfl, L15.out.mod0 ((Mod.refl [] _).alloc _), KC1.out, HG2.out, EJ2.out, O15.out.mod0 ((Mod.refl [] _).alloc _), HNK.out, RB15.out.alloc _, W15.out.alloc _⟩
           case measure => simp [intOf]; omega
       ·rcases before_or 14 12 S with q1 | q1
        ·refine ⟨[(5, 14), (14, 12)], by decide, fun p hp => by simp only [List.mem_cons, List.not_mem_nil, or_false] at hp; rcases hp with rfl | rfl <;> assumption, held_perm [0, 1, 2, 3, 4, 6, 7, 8, 9, 10, 11, 5, 14, 12, 13, 15] [12] [7, 8] [] (by kernel_rfl) (by kernel_rfl) ?_⟩
         simp only [wpCut, edges, edge, perm, reOper, reGuard, List.getElem?_cons_succ, List.getElem?_cons_zero, List.take_succ_cons, List.take_zero, List.drop_succ_cons, List.drop_zero, List.cons_append, List.nil_append]
         go_wp2_with fail
         refine (RM.out _).mono ?_
         rintro e8 w8 ⟨rfl, hM8⟩
         have MC8 := Lib.hid ((Mod.refl [] wS).drew.trans hM8)
         have HM8 := Lib.hid hM8
         clear hM8
         go_wp2_with fail
         refine ⟨((Mod.refl [] wS.drew).trans HM8.out), ?_⟩
         go_wp2_with fail
         refine (WT.out _).mono ?_
         rintro e9 w9 ⟨rfl, hM9⟩
         have HM9 := Lib.hid hM9
         have MC9 := Lib.hid ((MC8.out.alloc (.cells #[.int .i64 0, .int .i64 0, .int .i64 0] 39)).trans hM9)
         have NB9 := Lib.hid (hM9.blk (Blk.new w8 [.int .i64 0, .int .i64 0, .int .i64 0] 39) (by simp))
         have nb0 := NB9.out.cell (i := 0) rfl
         have nb1 := NB9.out.cell (i := 1) rfl
         have nb2 := NB9.out.cell (i := 2) rfl
         have nf0 := NB9.out.free 0
         have nf1 := NB9.out.free 1
         have nf2 := NB9.out.free 2
         clear hM9
         go_wp2_with fail
         refine ⟨by kernel_rfl, ⟨⟨by simp, ISG.out⟩, ⟨by simp, ISR.out⟩, trivial⟩, ?_⟩
         have HAB := Lib.hid (show wS.heap.size ≤ w8.heap.size from MC8.out.size)
         have MW := Lib.hid (MC9.out.trans' ((((Mod.refl [w8.heap.size] w9).setCell (p := ⟨w8.heap.size, 0, none⟩) (.inl (by simp)) (.int .i64 1)).setCell (p := ⟨w8.heap.size, 1, none⟩) (.inl (by simp)) (.int .i64 fz)).setCell (p := ⟨w8.heap.size, 2, none⟩) (.inl (by simp)) (.int .i64 lz)) (fun b hb => .inr (by simp only [List.mem_singleton] at hb; have := HAB.out; omega)))
         have AB := Lib.hid (show Blk (((w9.setCell ⟨w8.heap.size, 0, none⟩ (.int .i64 1)).setCell ⟨w8.heap.size, 1, none⟩ (.int .i64 fz)).setCell ⟨w8.heap.size, 2, none⟩ (.int .i64 lz)) w8.heap.size 39 [.int .i64 1, .int .i64 fz, .int .i64 lz] from ((NB9.out.set 0 _).set 1 _).set 2 _)
         skip
         obtain ⟨wW, hwW⟩ : ∃ wW, (((w9.setCell ⟨w8.heap.size, 0, none⟩ (.int .i64 1)).setCell ⟨w8.heap.size, 1, none⟩ (.int .i64 fz)).setCell ⟨w8.heap.size, 2, none⟩ (.int .i64 lz)) = wW := ⟨_, rfl⟩
         rw [hwW] at MW AB ⊢
         obtain ⟨ab, hab⟩ : ∃ ab, w8.heap.size = ab := ⟨_, rfl⟩
         rw [hab] at AB ⊢
         have HAB := Lib.hid (show wS.heap.size ≤ ab from by have := HAB.out; omega)
         clear hwW hab ltG ltG' ltR ltR' gz0 gz1 gz2 gz3 rz0 rz1 rz2 rz3 rz4 rz5 rz6 rz7 rz8 nb0 nb1 nb2 nf0 nf1 nf2
         have LW := Lib.hid (LS.out.mod0 MW.out)
         have OW := Lib.hid (OS.out.mod0 MW.out)
         have RBW := Lib.hid (MW.out.blk RBS.out (by simp))
         have CCW := Lib.hid (MW.out.blk CCS.out (by simp))
         have GW := Lib.hid (MW.out.blk GS.out (by simp))
         have WW := Lib.hid (WS.out.trans MW.out)
         have NAB := Lib.hid (show ab ∉ B.all from fun hb => by have := LS.out.lt _ hb; have := HAB.out; omega)
         have HNE := Lib.hid (show ab ≠ gb ∧ ab ≠ w3.heap.size ∧ ab ≠ wr.heap.size ∧ tb < ab from by have h1 := GS.out.lt; have h2 := RBS.out.lt; have h3 := HLC.out; have h4 := HAB.out; have h5 := HTG.out; omega)
         by_cases hlz0 : 0 < lz
         ·have dz : decide (0 < lz) = true := decide_eq_true hlz0
          have hav : ansV fz lz = ⟨2, fz, lz⟩ := by unfold ansV; rw [if_pos hlz0]
          have hav2 : ansV fk lz = ⟨2, fk, lz⟩ := by unfold ansV; rw [if_pos hlz0]
          have PK2 := PK.out
          rw [hav] at PK2
          have PK3 := Lib.hid PK2
          have CKA2 := CKA.out
          rw [hav2] at CKA2
          have CKB := Lib.hid CKA2
          clear PK2 CKA2 hav hav2 hlz0
          have MV := Lib.hid ((Mod.refl [ab] wW).setCell (p := ⟨ab, 0, none⟩) (.inl (by simp)) (.int .i64 2))
          have AV := Lib.hid (show Blk (wW.setCell ⟨ab, 0, none⟩ (.int .i64 2)) ab 39 [.int .i64 2, .int .i64 fz, .int .i64 lz] from AB.out.set 0 _)
          have cc2 := CCW.out.cell (i := 2) rfl
          have cc3 := CCW.out.cell (i := 3) rfl
          have rw4 := RBW.out.cell (i := 4) rfl
          have ac0 := AB.out.cell (i := 0) rfl
          have ac1 := AB.out.cell (i := 1) rfl
          have ac2 := AB.out.cell (i := 2) rfl
          have af0 := AB.out.free 0
          obtain ⟨hne1, hne2, hne3, hne4⟩ := HNE.out
          have hne3' : ¬ wr.heap.size = ab := fun h => hne3 h.symm
          have hne2' : ¬ w3.heap.size = ab := fun h => hne2 h.symm
          cases pk with
          | true =>
            go_wp2_with fail
            obtain ⟨wV, hwV⟩ : ∃ wV, (wW.setCell ⟨ab, 0, none⟩ (.int .i64 2)) = wV := ⟨_, rfl⟩
            rw [hwV] at MV AV ⊢
            have LV := Lib.hid (LW.out.mod MV.out (fun b hb hb2 => by simp only [List.mem_singleton] at hb2; subst hb2; exact NAB.out hb) (fun hb2 => by have h1 := HTN.out.2.1; have h2 := HNE.out.2.2.2; simp only [List.mem_singleton] at hb2; omega))
            have OV := Lib.hid (OS.out.mod0 (MW.out.trans' MV.out (fun b hb => .inr (by simp only [List.mem_singleton] at hb; subst hb; exact HAB.out))))
            have RBV := Lib.hid (MV.out.blk RBW.out (by have h := HNE.out.2.1; simp; omega))
            have CCV := Lib.hid (MV.out.blk CCW.out (by have h := HNE.out.2.2.1; simp; omega))
            have GV := Lib.hid (MV.out.blk GW.out (by have h := HNE.out.1; simp; omega))
            have WV := Lib.hid (WW.out.trans' MV.out (fun b hb => .inr (by have h1 := HTN4.out; have h2 := HNE.out.2.2.2; simp only [List.mem_singleton] at hb; omega)))
            clear cc2 cc3 rw4 ac0 ac1 ac2 af0 hne1 hne2 hne3 hne4 hne3' hne2' hwV
            have cc2 := CCV.out.cell (i := 2) rfl
            have ac0 := AV.out.cell (i := 0) rfl
            have ac1 := AV.out.cell (i := 1) rfl
            have ac2 := AV.out.cell (i := 2) rfl
            have ISA := Lib.hid (isC_of_blk AV.out.drew)
            refine Go.YtndekdafiaogmaaLex.wp_region_held [6] [6] B.all (by kernel_rfl) (by kernel_rfl) ?_
            simp only [wpCut, List.take_succ_cons, List.take_zero, List.drop_succ_cons, List.drop_zero, List.cons_append, List.nil_append]
            go_wp2_with fail
            refine (PK3.out _ (LV.out.mod0 (Mod.refl [] _).drew)).mono ?_
            rintro e11 w11 ⟨rfl, hL11, hM11⟩
            have L11 := Lib.hid hL11
            have M11 := Lib.hid hM11
            have O11 := Lib.hid ((OV.out.mod0 (Mod.refl [] _).drew).mod hM11 (fun b hb => .inl (HTN.out.1 b hb)))
            have RB11 := Lib.hid (hM11.blk RBV.out.drew BL.out.2)
            have W11 := Lib.hid (WV.out.drew.trans' hM11 (fun b hb => .inr (by have := BL.out.1 b hb; omega)))
            have AV11 := Lib.hid (hM11.blk AV.out.drew NAB.out)
            have bc0 := AV11.out.cell (i := 0) rfl
            have bc1 := AV11.out.cell (i := 1) rfl
            have bc2 := AV11.out.cell (i := 2) rfl
            clear hL11 hM11 cc2 ac0 ac1 ac2
            simp only [Ans.val]
            go_wp2_with fail
            refine ⟨M11.out, ?_⟩
            go_wp2_with fail
            refine ⟨by kernel_rfl, ⟨⟨NAB.out, ISA.out⟩, trivial⟩, ?_⟩
            go_wp2_with fail
            go_roundw
            case rel => exact ⟨k + 1, T, s.to (T : Int), nn, m, P, F, by omega, by go_num, rfl, L11.out, KP.out, RingOf.rk (x := s.ring) HG.out rfl, EJ.out.to _, O11.out, by omega, RB11.out, W11.out⟩
            case measure => simp [intOf]; omega
          | false =>
            have LV := Lib.hid (LW.out.mod MV.out (fun b hb hb2 => by simp only [List.mem_singleton] at hb2; subst hb2; exact NAB.out hb) (fun hb2 => by have h1 := HTN.out.2.1; have h2 := HNE.out.2.2.2; simp only [List.mem_singleton] at hb2; omega))
            have OV := Lib.hid (OS.out.mod0 (MW.out.trans' MV.out (fun b hb => .inr (by simp only [List.mem_singleton] at hb; subst hb; exact HAB.out))))
            have RBV := Lib.hid (MV.out.blk RBW.out (by have h := HNE.out.2.1; simp; omega))
            have CCV := Lib.hid (MV.out.blk CCW.out (by have h := HNE.out.2.2.1; simp; omega))
            have GV := Lib.hid (MV.out.blk GW.out (by have h := HNE.out.1; simp; omega))
            have WV := Lib.hid (WW.out.trans' MV.out (fun b hb => .inr (by have h1 := HTN4.out; have h2 := HNE.out.2.2.2; simp only [List.mem_singleton] at hb; omega)))
            have AVV := Lib.hid (show Blk (wW.setCell ⟨ab, 0, none⟩ (.int .i64 2)) ab 39 [.int .i64 2, .int .i64 fz, .int .i64 lz] from AV.out)
            have TK : Hid (∀ W, Blk W gb 62 [.int .i64 z, .int .i64 ((T : Int) - r1), .int .i64 0, .int .i64 0] → Calls Try.prog 26 #[.pointer (some ⟨gb, 0, none⟩), .agg #[.int .i64 r0, .int .i64 r1, .int .i64 r2, .int .i64 r3, .int .i64 r4, .int .i64 r5, .int .i64 r6, .int .i64 r7, .bool r8], .int .i64 (T : Int), .int .i64 (n1 : Int)] W (TookPost gb (⟨r0, r1, r2, r3, r4, r5, r6, r7, r8⟩ : Rule) z (T : Int) (n1 : Int) W)) := Lib.hid (fun W hB => take_old HRO.out (by omega) HZI.out ⟨by have := HCO.out.1; omega, HCO.out.2⟩ hB)
            have RM2 : Hid (∀ u, 0 ≤ u ∧ u ≤ 100 → ∀ W, Calls Try.prog 23 #[.agg #[.int .i64 tk, .int .i64 ((T : Int) - r1), .int .i64 0, .int .i64 u], .agg #[.int .i64 r0, .int .i64 r1, .int .i64 r2, .int .i64 r3, .int .i64 r4, .int .i64 r5, .int .i64 r6, .int .i64 r7, .bool r8], .int .i64 (T : Int)] W fun e w' => e = .returned (.int .i64 fk) ∧ Mod [] W w') := Lib.hid (fun u hu W => by rw [← FKE.out]; exact room_old HRO.out (by omega) HTK.out hu W)
            have hck := CKB.out FK.out
            have ck0 := CK0.out
            have kc := KC0.out
            have hrk := RingOf.rk (x := s.ring) HG.out (rk_check c s (T : Int) 0 key (n1 : Int))
            rcases hq : check c s (T : Int) 0 key (n1 : Int) with ⟨A0, ev, s2⟩
            rw [hq] at hck ck0 kc hrk
            simp only at hck kc hrk
            obtain ⟨hA, hE⟩ := hck
            subst hA
            have CK1 := Lib.hid ck0
            have KC1 := Lib.hid kc
            have EJ2 := Lib.hid hE
            have HG2 := Lib.hid hrk
            obtain ⟨w9', pt, P9, N9⟩ := OV.out.map.put (mt := 60) SKX Try.underlying60 (by have := HNN.out; unfold maxLen; omega) (text_keyX key HKM.out) (.pointer (some ⟨gb, 0, none⟩))
            rw [CNT.out] at P9
            have P9h := Lib.hid P9
            have N9h := Lib.hid N9
            have htg := HTG.out
            have G9 := Lib.hid (N9.blk GV.out (by simp; omega))
            have RB9 := Lib.hid (N9.blk RBV.out (by have := HTN.out.2.2; simp; omega))
            have CC9 := Lib.hid (N9.blk CCV.out (by have := HTBW.out; simp; omega))
            have AV9 := Lib.hid (N9.blk AVV.out (by have := HNE.out.2.2.2; simp; omega))
            have rq0 := RB9.out.cell (i := 0) rfl
            have rq1 := RB9.out.cell (i := 1) rfl
            have rq2 := RB9.out.cell (i := 2) rfl
            have rq3 := RB9.out.cell (i := 3) rfl
            have rq4 := RB9.out.cell (i := 4) rfl
            have rq5 := RB9.out.cell (i := 5) rfl
            have rq6 := RB9.out.cell (i := 6) rfl
            have rq7 := RB9.out.cell (i := 7) rfl
            have rq8 := RB9.out.cell (i := 8) rfl
            clear hq ck0 kc hE hrk P9 N9 htg
            go_wp2_with fail
            refine (TK.out _ G9.out).mono ?_
            rintro e12 w12 ⟨⟨bt, rfl⟩, ⟨u, hu0, hu1, hB12⟩, hM12⟩
            have HU := Lib.hid (show 0 ≤ u ∧ u ≤ 100 by omega)
            have G12 : Hid (Blk w12 gb 62 [.int .i64 tk, .int .i64 ((T : Int) - r1), .int .i64 0, .int .i64 u]) := Lib.hid (by have h := hB12; rw [TKE.out] at h; exact h)
            have M12 := Lib.hid (show Mod [tb, gb] (wW.setCell ⟨ab, 0, none⟩ (.int .i64 2)) w12 from (N9h.out.mono (by simp)).trans (hM12.mono (by simp)))
            have O12 := Lib.hid (OV.out.put KEYC.out HTG.out M12.out (P9h.out.mod hM12 (by have := HTG.out; simp; omega)) G12.out)
            have RB12 := Lib.hid (hM12.blk RB9.out (by have := HTN.out.2.2; have := HTG.out; simp; omega))
            have CC12 := Lib.hid (hM12.blk CC9.out (by have := HGC.out; simp; omega))
            have AV12 := Lib.hid (hM12.blk AV9.out (by have := HNE.out.1; simp; omega))
            have L12 := Lib.hid (LV.out.mod M12.out (fun b hb hb2 => by have h1 := HTN.out.1 b hb; have h2 := HTG.out; simp only [List.mem_cons, List.not_mem_nil, or_false] at hb2; omega) (fun hb2 => by have h1 := HTN.out.2.1; have h2 := HTG.out; simp only [List.mem_cons, List.not_mem_nil, or_false] at hb2; omega))
            have W12 := Lib.hid (WV.out.trans' M12.out (fun b hb => .inr (by have h1 := HTN4.out; have h2 := HTG.out; simp only [List.mem_cons, List.not_mem_nil, or_false] at hb; omega)))
            clear hB12 hM12 hu0 hu1 rq0 rq1 rq2 rq3 rq4 rq5 rq6 rq7 rq8
            have gq0 := G12.out.cell (i := 0) rfl
            have gq1 := G12.out.cell (i := 1) rfl
            have gq2 := G12.out.cell (i := 2) rfl
            have gq3 := G12.out.cell (i := 3) rfl
            have rq0 := RB12.out.cell (i := 0) rfl
            have rq1 := RB12.out.cell (i := 1) rfl
            have rq2 := RB12.out.cell (i := 2) rfl
            have rq3 := RB12.out.cell (i := 3) rfl
            have rq4 := RB12.out.cell (i := 4) rfl
            have rq5 := RB12.out.cell (i := 5) rfl
            have rq6 := RB12.out.cell (i := 6) rfl
            have rq7 := RB12.out.cell (i := 7) rfl
            have rq8 := RB12.out.cell (i := 8) rfl
            go_wp2_with fail
            refine Go.YtndekdafiaogmaaLex.wp_region_lex (by kernel_rfl) (by kernel_rfl) ?_
            go_wp2_with fail
            refine (RM2.out u HU.out _).mono ?_
            rintro e13 w13 ⟨rfl, hM13⟩
            have M13 := Lib.hid ((Mod.refl [] w12).drew.trans hM13)
            have AV13 := Lib.hid (M13.out.blk AV12.out (by simp))
            have CC13 := Lib.hid (M13.out.blk CC12.out (by simp))
            have MS13 := Lib.hid ((Mod.refl [ab] w13).setCell (p := ⟨ab, 1, none⟩) (.inl (by simp)) (.int .i64 fk))
            have AV14 := Lib.hid (AV13.out.set 1 (.int .i64 fk))
            have a131 := AV13.out.cell (i := 1) rfl
            have f131 := AV13.out.free 1
            have q2 := CC13.out.cell (i := 2) rfl
            have L13 := Lib.hid ((L12.out.mod0 M13.out).mod MS13.out (fun b hb hb2 => by simp only [List.mem_singleton] at hb2; subst hb2; exact NAB.out hb) (fun hb2 => by have h1 := HTN.out.2.1; have h2 := HNE.out.2.2.2; simp only [List.mem_singleton] at hb2; omega))
            clear hM13 gq0 gq1 gq2 gq3 rq0 rq1 rq2 rq3 rq4 rq5 rq6 rq7 rq8
            go_wp2_with fail
            refine ⟨by kernel_rfl, ?_⟩
            go_wp2_with fail
            refine (CK1.out _ L13.out).mono ?_
            rintro e15 w15 ⟨v15, rfl, hO15, hL15, hM15⟩
            obtain ⟨a7, c7, rfl⟩ := hO15.slice
            have OB := Lib.hid ((O12.out.mod0 M13.out).blkX (T := 39) (by decide) AV13.out HNE.out.2.2.2 MS13.out)
            have L15 := Lib.hid hL15
            have AV15 := Lib.hid (hM15.blk AV14.out NAB.out)
            have RB15 := Lib.hid (hM15.blk (MS13.out.blk (M13.out.blk RB12.out (by simp)) (by have := HNE.out.2.1; simp; omega)) BL.out.2)
            have O15 := Lib.hid (OB.out.mod hM15 (fun b hb => .inl (HTN.out.1 b hb)))
            have W15 := Lib.hid (((W12.out.trans M13.out).trans' MS13.out (fun b hb => .inr (by have h1 := HTN4.out; have h2 := HNE.out.2.2.2; simp only [List.mem_singleton] at hb; omega))).trans' hM15 (fun b hb => .inr (by have := BL.out.1 b hb; omega)))
            have bq0 := AV15.out.cell (i := 0) rfl
            have bq1 := AV15.out.cell (i := 1) rfl
            have bq2 := AV15.out.cell (i := 2) rfl
            have lab : ab < w15.heap.size := AV15.out.lt
            have lab' : ¬ ab = w15.heap.size := by omega
            have HNK := Lib.hid (show nn + 1 ≤ k + 1 ∧ (if (F key).isSome then m else m + 1) ≤ k + 1 from by have := HNN.out; split <;> omega)
            clear hO15 hL15 hM15 a131 f131 q2
            simp only [Ans.val]
            go_wp2_with fail
            go_roundw
            case rel => exact ⟨k + 1, T, s2, nn + 1, _, _, _, by omega, by go_num, rfl, L15.out.mod0 ((Mod.refl [] _).alloc _), KC1.out, HG2.out, EJ2.out, O15.out.mod0 ((Mod.refl [] _).alloc _), HNK.out, RB15.out.alloc _, W15.out.alloc _⟩
            case measure => simp [intOf]; omega
         ·have dz : decide (0 < lz) = false := decide_eq_false hlz0
          have hav : ansV fz lz = ⟨1, fz, lz⟩ := by unfold ansV; rw [if_neg hlz0]
          have hav2 : ansV fk lz = ⟨1, fk, lz⟩ := by unfold ansV; rw [if_neg hlz0]
          have PK2 := PK.out
          rw [hav] at PK2
          have PK3 := Lib.hid PK2
          have CKA2 := CKA.out
          rw [hav2] at CKA2
          have CKB := Lib.hid CKA2
          clear PK2 CKA2 hav hav2 hlz0
          have MV := Lib.hid (Mod.refl [ab] wW)
          have AV := Lib.hid (show Blk wW ab 39 [.int .i64 1, .int .i64 fz, .int .i64 lz] from AB.out)
          have cc2 := CCW.out.cell (i := 2) rfl
          have cc3 := CCW.out.cell (i := 3) rfl
          have rw4 := RBW.out.cell (i := 4) rfl
          have ac0 := AB.out.cell (i := 0) rfl
          have ac1 := AB.out.cell (i := 1) rfl
          have ac2 := AB.out.cell (i := 2) rfl
          have af0 := AB.out.free 0
          obtain ⟨hne1, hne2, hne3, hne4⟩ := HNE.out
          have hne3' : ¬ wr.heap.size = ab := fun h => hne3 h.symm
          have hne2' : ¬ w3.heap.size = ab := fun h => hne2 h.symm
          cases pk with
          | true =>
            go_wp2_with fail
            obtain ⟨wV, hwV⟩ : ∃ wV, wW = wV := ⟨_, rfl⟩
            have MV : Hid (Mod [ab] wW wV) := Lib.hid (by rw [← hwV]; exact MV.out)
            have AV : Hid (Blk wV ab 39 [.int .i64 1, .int .i64 fz, .int .i64 lz]) := Lib.hid (by rw [← hwV]; exact AV.out)
            rw [hwV]
            have LV := Lib.hid (LW.out.mod MV.out (fun b hb hb2 => by simp only [List.mem_singleton] at hb2; subst hb2; exact NAB.out hb) (fun hb2 => by have h1 := HTN.out.2.1; have h2 := HNE.out.2.2.2; simp only [List.mem_singleton] at hb2; omega))
            have OV := Lib.hid (OS.out.mod0 (MW.out.trans' MV.out (fun b hb => .inr (by simp only [List.mem_singleton] at hb; subst hb; exact HAB.out))))
            have RBV := Lib.hid (MV.out.blk RBW.out (by have h := HNE.out.2.1; simp; omega))
            have CCV := Lib.hid (MV.out.blk CCW.out (by have h := HNE.out.2.2.1; simp; omega))
            have GV := Lib.hid (MV.out.blk GW.out (by have h := HNE.out.1; simp; omega))
            have WV := Lib.hid (WW.out.trans' MV.out (fun b hb => .inr (by have h1 := HTN4.out; have h2 := HNE.out.2.2.2; simp only [List.mem_singleton] at hb; omega)))
            clear cc2 cc3 rw4 ac0 ac1 ac2 af0 hne1 hne2 hne3 hne4 hne3' hne2' hwV
            have cc2 := CCV.out.cell (i := 2) rfl
            have ac0 := AV.out.cell (i := 0) rfl
            have ac1 := AV.out.cell (i := 1) rfl
            have ac2 := AV.out.cell (i := 2) rfl
            have ISA := Lib.hid (isC_of_blk AV.out.drew)
            refine Go.YtndekdafiaogmaaLex.wp_region_held [6] [6] B.all (by kernel_rfl) (by kernel_rfl) ?_
            simp only [wpCut, List.take_succ_cons, List.take_zero, List.drop_succ_cons, List.drop_zero, List.cons_append, List.nil_append]
            go_wp2_with fail
            refine (PK3.out _ (LV.out.mod0 (Mod.refl [] _).drew)).mono ?_
            rintro e11 w11 ⟨rfl, hL11, hM11⟩
            have L11 := Lib.hid hL11
            have M11 := Lib.hid hM11
            have O11 := Lib.hid ((OV.out.mod0 (Mod.refl [] _).drew).mod hM11 (fun b hb => .inl (HTN.out.1 b hb)))
            have RB11 := Lib.hid (hM11.blk RBV.out.drew BL.out.2)
            have W11 := Lib.hid (WV.out.drew.trans' hM11 (fun b hb => .inr (by have := BL.out.1 b hb; omega)))
            have AV11 := Lib.hid (hM11.blk AV.out.drew NAB.out)
            have bc0 := AV11.out.cell (i := 0) rfl
            have bc1 := AV11.out.cell (i := 1) rfl
            have bc2 := AV11.out.cell (i := 2) rfl
            clear hL11 hM11 cc2 ac0 ac1 ac2
            simp only [Ans.val]
            go_wp2_with fail
            refine ⟨M11.out, ?_⟩
            go_wp2_with fail
            refine ⟨by kernel_rfl, ⟨⟨NAB.out, ISA.out⟩, trivial⟩, ?_⟩
            go_wp2_with fail
            go_roundw
            case rel => exact ⟨k + 1, T, s.to (T : Int), nn, m, P, F, by omega, by go_num, rfl, L11.out, KP.out, RingOf.rk (x := s.ring) HG.out rfl, EJ.out.to _, O11.out, by omega, RB11.out, W11.out⟩
            case measure => simp [intOf]; omega
          | false =>
            have LV := Lib.hid (LW.out.mod MV.out (fun b hb hb2 => by simp only [List.mem_singleton] at hb2; subst hb2; exact NAB.out hb) (fun hb2 => by have h1 := HTN.out.2.1; have h2 := HNE.out.2.2.2; simp only [List.mem_singleton] at hb2; omega))
            have OV := Lib.hid (OS.out.mod0 (MW.out.trans' MV.out (fun b hb => .inr (by simp only [List.mem_singleton] at hb; subst hb; exact HAB.out))))
            have RBV := Lib.hid (MV.out.blk RBW.out (by have h := HNE.out.2.1; simp; omega))
            have CCV := Lib.hid (MV.out.blk CCW.out (by have h := HNE.out.2.2.1; simp; omega))
            have GV := Lib.hid (MV.out.blk GW.out (by have h := HNE.out.1; simp; omega))
            have WV := Lib.hid (WW.out.trans' MV.out (fun b hb => .inr (by have h1 := HTN4.out; have h2 := HNE.out.2.2.2; simp only [List.mem_singleton] at hb; omega)))
            have AVV := Lib.hid (show Blk wW ab 39 [.int .i64 1, .int .i64 fz, .int .i64 lz] from AV.out)
            have TK : Hid (∀ W, Blk W gb 62 [.int .i64 z, .int .i64 ((T : Int) - r1), .int .i64 0, .int .i64 0] → Calls Try.prog 26 #[.pointer (some ⟨gb, 0, none⟩), .agg #[.int .i64 r0, .int .i64 r1, .int .i64 r2, .int .i64 r3, .int .i64 r4, .int .i64 r5, .int .i64 r6, .int .i64 r7, .bool r8], .int .i64 (T : Int), .int .i64 (n1 : Int)] W (TookPost gb (⟨r0, r1, r2, r3, r4, r5, r6, r7, r8⟩ : Rule) z (T : Int) (n1 : Int) W)) := Lib.hid (fun W hB => take_old HRO.out (by omega) HZI.out ⟨by have := HCO.out.1; omega, HCO.out.2⟩ hB)
            have RM2 : Hid (∀ u, 0 ≤ u ∧ u ≤ 100 → ∀ W, Calls Try.prog 23 #[.agg #[.int .i64 tk, .int .i64 ((T : Int) - r1), .int .i64 0, .int .i64 u], .agg #[.int .i64 r0, .int .i64 r1, .int .i64 r2, .int .i64 r3, .int .i64 r4, .int .i64 r5, .int .i64 r6, .int .i64 r7, .bool r8], .int .i64 (T : Int)] W fun e w' => e = .returned (.int .i64 fk) ∧ Mod [] W w') := Lib.hid (fun u hu W => by rw [← FKE.out]; exact room_old HRO.out (by omega) HTK.out hu W)
            have hck := CKB.out FK.out
            have ck0 := CK0.out
            have kc := KC0.out
            have hrk := RingOf.rk (x := s.ring) HG.out (rk_check c s (T : Int) 0 key (n1 : Int))
            rcases hq : check c s (T : Int) 0 key (n1 : Int) with ⟨A0, ev, s2⟩
            rw [hq] at hck ck0 kc hrk
            simp only at hck kc hrk
            obtain ⟨hA, hE⟩ := hck
            subst hA
            have CK1 := Lib.hid ck0
            have KC1 := Lib.hid kc
            have EJ2 := Lib.hid hE
            have HG2 := Lib.hid hrk
            obtain ⟨w9', pt, P9, N9⟩ := OV.out.map.put (mt := 60) SKX Try.underlying60 (by have := HNN.out; unfold maxLen; omega) (text_keyX key HKM.out) (.pointer (some ⟨gb, 0, none⟩))
            rw [CNT.out] at P9
            have P9h := Lib.hid P9
            have N9h := Lib.hid N9
            have htg := HTG.out
            have G9 := Lib.hid (N9.blk GV.out (by simp; omega))
            have RB9 := Lib.hid (N9.blk RBV.out (by have := HTN.out.2.2; simp; omega))
            have CC9 := Lib.hid (N9.blk CCV.out (by have := HTBW.out; simp; omega))
            have AV9 := Lib.hid (N9.blk AVV.out (by have := HNE.out.2.2.2; simp; omega))
            have rq0 := RB9.out.cell (i := 0) rfl
            have rq1 := RB9.out.cell (i := 1) rfl
            have rq2 := RB9.out.cell (i := 2) rfl
            have rq3 := RB9.out.cell (i := 3) rfl
            have rq4 := RB9.out.cell (i := 4) rfl
            have rq5 := RB9.out.cell (i := 5) rfl
            have rq6 := RB9.out.cell (i := 6) rfl
            have rq7 := RB9.out.cell (i := 7) rfl
            have rq8 := RB9.out.cell (i := 8) rfl
            clear hq ck0 kc hE hrk P9 N9 htg
            go_wp2_with fail
            refine (TK.out _ G9.out).mono ?_
            rintro e12 w12 ⟨⟨bt, rfl⟩, ⟨u, hu0, hu1, hB12⟩, hM12⟩
            have HU := Lib.hid (show 0 ≤ u ∧ u ≤ 100 by omega)
            have G12 : Hid (Blk w12 gb 62 [.int .i64 tk, .int .i64 ((T : Int) - r1), .int .i64 0, .int .i64 u]) := Lib.hid (by have h := hB12; rw [TKE.out] at h; exact h)
            have M12 := Lib.hid (show Mod [tb, gb] wW w12 from (N9h.out.mono (by simp)).trans (hM12.mono (by simp)))
            have O12 := Lib.hid (OV.out.put KEYC.out HTG.out M12.out (P9h.out.mod hM12 (by have := HTG.out; simp; omega)) G12.out)
            have RB12 := Lib.hid (hM12.blk RB9.out (by have := HTN.out.2.2; have := HTG.out; simp; omega))
            have CC12 := Lib.hid (hM12.blk CC9.out (by have := HGC.out; simp; omega))
            have AV12 := Lib.hid (hM12.blk AV9.out (by have := HNE.out.1; simp; omega))
            have L12 := Lib.hid (LV.out.mod M12.out (fun b hb hb2 => by have h1 := HTN.out.1 b hb; have h2 := HTG.out; simp only [List.mem_cons, List.not_mem_nil, or_false] at hb2; omega) (fun hb2 => by have h1 := HTN.out.2.1; have h2 := HTG.out; simp only [List.mem_cons, List.not_mem_nil, or_false] at hb2; omega))
            have W12 := Lib.hid (WV.out.trans' M12.out (fun b hb => .inr (by have h1 := HTN4.out; have h2 := HTG.out; simp only [List.mem_cons, List.not_mem_nil, or_false] at hb; omega)))
            clear hB12 hM12 hu0 hu1 rq0 rq1 rq2 rq3 rq4 rq5 rq6 rq7 rq8
            have gq0 := G12.out.cell (i := 0) rfl
            have gq1 := G12.out.cell (i := 1) rfl
            have gq2 := G12.out.cell (i := 2) rfl
            have gq3 := G12.out.cell (i := 3) rfl
            have rq0 := RB12.out.cell (i := 0) rfl
            have rq1 := RB12.out.cell (i := 1) rfl
            have rq2 := RB12.out.cell (i := 2) rfl
            have rq3 := RB12.out.cell (i := 3) rfl
            have rq4 := RB12.out.cell (i := 4) rfl
            have rq5 := RB12.out.cell (i := 5) rfl
            have rq6 := RB12.out.cell (i := 6) rfl
            have rq7 := RB12.out.cell (i := 7) rfl
            have rq8 := RB12.out.cell (i := 8) rfl
            go_wp2_with fail
            refine Go.YtndekdafiaogmaaLex.wp_region_lex (by kernel_rfl) (by kernel_rfl) ?_
            go_wp2_with fail
            refine (RM2.out u HU.out _).mono ?_
            rintro e13 w13 ⟨rfl, hM13⟩
            have M13 := Lib.hid ((Mod.refl [] w12).drew.trans hM13)
            have AV13 := Lib.hid (M13.out.blk AV12.out (by simp))
            have CC13 := Lib.hid (M13.out.blk CC12.out (by simp))
            have MS13 := Lib.hid ((Mod.refl [ab] w13).setCell (p := ⟨ab, 1, none⟩) (.inl (by simp)) (.int .i64 fk))
            have AV14 := Lib.hid (AV13.out.set 1 (.int .i64 fk))
            have a131 := AV13.out.cell (i := 1) rfl
            have f131 := AV13.out.free 1
            have q2 := CC13.out.cell (i := 2) rfl
            have L13 := Lib.hid ((L12.out.mod0 M13.out).mod MS13.out (fun b hb hb2 => by simp only [List.mem_singleton] at hb2; subst hb2; exact NAB.out hb) (fun hb2 => by have h1 := HTN.out.2.1; have h2 := HNE.out.2.2.2; simp only [List.mem_singleton] at hb2; omega))
            clear hM13 gq0 gq1 gq2 gq3 rq0 rq1 rq2 rq3 rq4 rq5 rq6 rq7 rq8
            go_wp2_with fail
            refine ⟨by kernel_rfl, ?_⟩
            go_wp2_with fail
            refine (CK1.out _ L13.out).mono ?_
            rintro e15 w15 ⟨v15, rfl, hO15, hL15, hM15⟩
            obtain ⟨a7, c7, rfl⟩ := hO15.slice
            have OB := Lib.hid ((O12.out.mod0 M13.out).blkX (T := 39) (by decide) AV13.out HNE.out.2.2.2 MS13.out)
            have L15 := Lib.hid hL15
            have AV15 := Lib.hid (hM15.blk AV14.out NAB.out)
            have RB15 := Lib.hid (hM15.blk (MS13.out.blk (M13.out.blk RB12.out (by simp)) (by have := HNE.out.2.1; simp; omega)) BL.out.2)
            have O15 := Lib.hid (OB.out.mod hM15 (fun b hb => .inl (HTN.out.1 b hb)))
            have W15 := Lib.hid (((W12.out.trans M13.out).trans' MS13.out (fun b hb => .inr (by have h1 := HTN4.out; have h2 := HNE.out.2.2.2; simp only [List.mem_singleton] at hb; omega))).trans' hM15 (fun b hb => .inr (by have := BL.out.1 b hb; omega)))
            have bq0 := AV15.out.cell (i := 0) rfl
            have bq1 := AV15.out.cell (i := 1) rfl
            have bq2 := AV15.out.cell (i := 2) rfl
            have lab : ab < w15.heap.size := AV15.out.lt
            have lab' : ¬ ab = w15.heap.size := by omega
            have HNK := Lib.hid (show nn + 1 ≤ k + 1 ∧ (if (F key).isSome then m else m + 1) ≤ k + 1 from by have := HNN.out; split <;> omega)
            clear hO15 hL15 hM15 a131 f131 q2
            simp only [Ans.val]
            go_wp2_with fail
            go_roundw
            case rel => exact ⟨k + 1, T, s2, nn + 1, _, _, _, by omega, by go_num, rfl, L15.out.mod0 ((Mod.refl [] _).alloc _), KC1.out, HG2.out, EJ2.out, O15.out.mod0 ((Mod.refl [] _).alloc _), HNK.out, RB15.out.alloc _, W15.out.alloc _⟩
            case measure => simp [intOf]; omega
        ·refine ⟨[(12, 14)], by decide, fun p hp => by simp only [List.mem_cons, List.not_mem_nil, or_false] at hp; rcases hp with rfl <;> assumption, held_perm [0, 1, 2, 3, 4, 6, 7, 8, 9, 10, 11, 5, 12, 13, 14, 15] [12, 1] [7, 8] [] (by kernel_rfl) (by kernel_rfl) ?_⟩
         simp only [wpCut, edges, edge, perm, reOper, reGuard, List.getElem?_cons_succ, List.getElem?_cons_zero, List.take_succ_cons, List.take_zero, List.drop_succ_cons, List.drop_zero, List.cons_append, List.nil_append]
         go_wp2_with fail
         refine (RM.out _).mono ?_
         rintro e8 w8 ⟨rfl, hM8⟩
         have MC8 := Lib.hid ((Mod.refl [] wS).drew.trans hM8)
         have HM8 := Lib.hid hM8
         clear hM8
         go_wp2_with fail
         refine ⟨((Mod.refl [] wS.drew).trans HM8.out), ?_⟩
         go_wp2_with fail
         refine (WT.out _).mono ?_
         rintro e9 w9 ⟨rfl, hM9⟩
         have HM9 := Lib.hid hM9
         have MC9 := Lib.hid (MC8.out.trans hM9)
         clear hM9
         go_wp2_with fail
         refine ⟨(((Mod.refl [] wS.drew).trans HM8.out).trans HM9.out), ?_⟩
         go_wp2_with fail
         refine ⟨by kernel_rfl, ⟨⟨by simp, ISG.out⟩, ⟨by simp, ISR.out⟩, trivial⟩, ?_⟩
         have HAB := Lib.hid (show wS.heap.size ≤ w9.heap.size from MC9.out.size)
         have MW := Lib.hid (MC9.out.alloc (.cells #[.int .i64 1, .int .i64 fz, .int .i64 lz] 39))
         have AB := Lib.hid (Blk.new w9 [.int .i64 1, .int .i64 fz, .int .i64 lz] 39)
         skip
         obtain ⟨wW, hwW⟩ : ∃ wW, (w9.alloc (.cells #[.int .i64 1, .int .i64 fz, .int .i64 lz] 39)) = wW := ⟨_, rfl⟩
         rw [hwW] at MW AB ⊢
         obtain ⟨ab, hab⟩ : ∃ ab, w9.heap.size = ab := ⟨_, rfl⟩
         rw [hab] at AB ⊢
         have HAB := Lib.hid (show wS.heap.size ≤ ab from by have := HAB.out; omega)
         clear hwW hab ltG ltG' ltR ltR' gz0 gz1 gz2 gz3 rz0 rz1 rz2 rz3 rz4 rz5 rz6 rz7 rz8
         have LW := Lib.hid (LS.out.mod0 MW.out)
         have OW := Lib.hid (OS.out.mod0 MW.out)
         have RBW := Lib.hid (MW.out.blk RBS.out (by simp))
         have CCW := Lib.hid (MW.out.blk CCS.out (by simp))
         have GW := Lib.hid (MW.out.blk GS.out (by simp))
         have WW := Lib.hid (WS.out.trans MW.out)
         have NAB := Lib.hid (show ab ∉ B.all from fun hb => by have := LS.out.lt _ hb; have := HAB.out; omega)
         have HNE := Lib.hid (show ab ≠ gb ∧ ab ≠ w3.heap.size ∧ ab ≠ wr.heap.size ∧ tb < ab from by have h1 := GS.out.lt; have h2 := RBS.out.lt; have h3 := HLC.out; have h4 := HAB.out; have h5 := HTG.out; omega)
         by_cases hlz0 : 0 < lz
         ·have dz : decide (0 < lz) = true := decide_eq_true hlz0
          have hav : ansV fz lz = ⟨2, fz, lz⟩ := by unfold ansV; rw [if_pos hlz0]
          have hav2 : ansV fk lz = ⟨2, fk, lz⟩ := by unfold ansV; rw [if_pos hlz0]
          have PK2 := PK.out
          rw [hav] at PK2
          have PK3 := Lib.hid PK2
          have CKA2 := CKA.out
          rw [hav2] at CKA2
          have CKB := Lib.hid CKA2
          clear PK2 CKA2 hav hav2 hlz0
          have MV := Lib.hid ((Mod.refl [ab] wW).setCell (p := ⟨ab, 0, none⟩) (.inl (by simp)) (.int .i64 2))
          have AV := Lib.hid (show Blk (wW.setCell ⟨ab, 0, none⟩ (.int .i64 2)) ab 39 [.int .i64 2, .int .i64 fz, .int .i64 lz] from AB.out.set 0 _)
          have cc2 := CCW.out.cell (i := 2) rfl
          have cc3 := CCW.out.cell (i := 3) rfl
          have rw4 := RBW.out.cell (i := 4) rfl
          have ac0 := AB.out.cell (i := 0) rfl
          have ac1 := AB.out.cell (i := 1) rfl
          have ac2 := AB.out.cell (i := 2) rfl
          have af0 := AB.out.free 0
          obtain ⟨hne1, hne2, hne3, hne4⟩ := HNE.out
          have hne3' : ¬ wr.heap.size = ab := fun h => hne3 h.symm
          have hne2' : ¬ w3.heap.size = ab := fun h => hne2 h.symm
          cases pk with
          | true =>
            go_wp2_with fail
            obtain ⟨wV, hwV⟩ : ∃ wV, (wW.setCell ⟨ab, 0, none⟩ (.int .i64 2)) = wV := ⟨_, rfl⟩
            rw [hwV] at MV AV ⊢
            have LV := Lib.hid (LW.out.mod MV.out (fun b hb hb2 => by simp only [List.mem_singleton] at hb2; subst hb2; exact NAB.out hb) (fun hb2 => by have h1 := HTN.out.2.1; have h2 := HNE.out.2.2.2; simp only [List.mem_singleton] at hb2; omega))
            have OV := Lib.hid (OS.out.mod0 (MW.out.trans' MV.out (fun b hb => .inr (by simp only [List.mem_singleton] at hb; subst hb; exact HAB.out))))
            have RBV := Lib.hid (MV.out.blk RBW.out (by have h := HNE.out.2.1; simp; omega))
            have CCV := Lib.hid (MV.out.blk CCW.out (by have h := HNE.out.2.2.1; simp; omega))
            have GV := Lib.hid (MV.out.blk GW.out (by have h := HNE.out.1; simp; omega))
            have WV := Lib.hid (WW.out.trans' MV.out (fun b hb => .inr (by have h1 := HTN4.out; have h2 := HNE.out.2.2.2; simp only [List.mem_singleton] at hb; omega)))
            clear cc2 cc3 rw4 ac0 ac1 ac2 af0 hne1 hne2 hne3 hne4 hne3' hne2' hwV
            have cc2 := CCV.out.cell (i := 2) rfl
            have ac0 := AV.out.cell (i := 0) rfl
            have ac1 := AV.out.cell (i := 1) rfl
            have ac2 := AV.out.cell (i := 2) rfl
            have ISA := Lib.hid (isC_of_blk AV.out.drew)
            refine Go.YtndekdafiaogmaaLex.wp_region_held [6] [6] B.all (by kernel_rfl) (by kernel_rfl) ?_
            simp only [wpCut, List.take_succ_cons, List.take_zero, List.drop_succ_cons, List.drop_zero, List.cons_append, List.nil_append]
            go_wp2_with fail
            refine (PK3.out _ (LV.out.mod0 (Mod.refl [] _).drew)).mono ?_
            rintro e11 w11 ⟨rfl, hL11, hM11⟩
            have L11 := Lib.hid hL11
            have M11 := Lib.hid hM11
            have O11 := Lib.hid ((OV.out.mod0 (Mod.refl [] _).drew).mod hM11 (fun b hb => .inl (HTN.out.1 b hb)))
            have RB11 := Lib.hid (hM11.blk RBV.out.drew BL.out.2)
            have W11 := Lib.hid (WV.out.drew.trans' hM11 (fun b hb => .inr (by have := BL.out.1 b hb; omega)))
            have AV11 := Lib.hid (hM11.blk AV.out.drew NAB.out)
            have bc0 := AV11.out.cell (i := 0) rfl
            have bc1 := AV11.out.cell (i := 1) rfl
            have bc2 := AV11.out.cell (i := 2) rfl
            clear hL11 hM11 cc2 ac0 ac1 ac2
            simp only [Ans.val]
            go_wp2_with fail
            refine ⟨M11.out, ?_⟩
            go_wp2_with fail
            refine ⟨by kernel_rfl, ⟨⟨NAB.out, ISA.out⟩, trivial⟩, ?_⟩
            go_wp2_with fail
            go_roundw
            case rel => exact ⟨k + 1, T, s.to (T : Int), nn, m, P, F, by omega, by go_num, rfl, L11.out, KP.out, RingOf.rk (x := s.ring) HG.out rfl, EJ.out.to _, O11.out, by omega, RB11.out, W11.out⟩
            case measure => simp [intOf]; omega
          | false =>
            have LV := Lib.hid (LW.out.mod MV.out (fun b hb hb2 => by simp only [List.mem_singleton] at hb2; subst hb2; exact NAB.out hb) (fun hb2 => by have h1 := HTN.out.2.1; have h2 := HNE.out.2.2.2; simp only [List.mem_singleton] at hb2; omega))
            have OV := Lib.hid (OS.out.mod0 (MW.out.trans' MV.out (fun b hb => .inr (by simp only [List.mem_singleton] at hb; subst hb; exact HAB.out))))
            have RBV := Lib.hid (MV.out.blk RBW.out (by have h := HNE.out.2.1; simp; omega))
            have CCV := Lib.hid (MV.out.blk CCW.out (by have h := HNE.out.2.2.1; simp; omega))
            have GV := Lib.hid (MV.out.blk GW.out (by have h := HNE.out.1; simp; omega))
            have WV := Lib.hid (WW.out.trans' MV.out (fun b hb => .inr (by have h1 := HTN4.out; have h2 := HNE.out.2.2.2; simp only [List.mem_singleton] at hb; omega)))
            have AVV := Lib.hid (show Blk (wW.setCell ⟨ab, 0, none⟩ (.int .i64 2)) ab 39 [.int .i64 2, .int .i64 fz, .int .i64 lz] from AV.out)
            have TK : Hid (∀ W, Blk W gb 62 [.int .i64 z, .int .i64 ((T : Int) - r1), .int .i64 0, .int .i64 0] → Calls Try.prog 26 #[.pointer (some ⟨gb, 0, none⟩), .agg #[.int .i64 r0, .int .i64 r1, .int .i64 r2, .int .i64 r3, .int .i64 r4, .int .i64 r5, .int .i64 r6, .int .i64 r7, .bool r8], .int .i64 (T : Int), .int .i64 (n1 : Int)] W (TookPost gb (⟨r0, r1, r2, r3, r4, r5, r6, r7, r8⟩ : Rule) z (T : Int) (n1 : Int) W)) := Lib.hid (fun W hB => take_old HRO.out (by omega) HZI.out ⟨by have := HCO.out.1; omega, HCO.out.2⟩ hB)
            have RM2 : Hid (∀ u, 0 ≤ u ∧ u ≤ 100 → ∀ W, Calls Try.prog 23 #[.agg #[.int .i64 tk, .int .i64 ((T : Int) - r1), .int .i64 0, .int .i64 u], .agg #[.int .i64 r0, .int .i64 r1, .int .i64 r2, .int .i64 r3, .int .i64 r4, .int .i64 r5, .int .i64 r6, .int .i64 r7, .bool r8], .int .i64 (T : Int)] W fun e w' => e = .returned (.int .i64 fk) ∧ Mod [] W w') := Lib.hid (fun u hu W => by rw [← FKE.out]; exact room_old HRO.out (by omega) HTK.out hu W)
            have hck := CKB.out FK.out
            have ck0 := CK0.out
            have kc := KC0.out
            have hrk := RingOf.rk (x := s.ring) HG.out (rk_check c s (T : Int) 0 key (n1 : Int))
            rcases hq : check c s (T : Int) 0 key (n1 : Int) with ⟨A0, ev, s2⟩
            rw [hq] at hck ck0 kc hrk
            simp only at hck kc hrk
            obtain ⟨hA, hE⟩ := hck
            subst hA
            have CK1 := Lib.hid ck0
            have KC1 := Lib.hid kc
            have EJ2 := Lib.hid hE
            have HG2 := Lib.hid hrk
            obtain ⟨w9', pt, P9, N9⟩ := OV.out.map.put (mt := 60) SKX Try.underlying60 (by have := HNN.out; unfold maxLen; omega) (text_keyX key HKM.out) (.pointer (some ⟨gb, 0, none⟩))
            rw [CNT.out] at P9
            have P9h := Lib.hid P9
            have N9h := Lib.hid N9
            have htg := HTG.out
            have G9 := Lib.hid (N9.blk GV.out (by simp; omega))
            have RB9 := Lib.hid (N9.blk RBV.out (by have := HTN.out.2.2; simp; omega))
            have CC9 := Lib.hid (N9.blk CCV.out (by have := HTBW.out; simp; omega))
            have AV9 := Lib.hid (N9.blk AVV.out (by have := HNE.out.2.2.2; simp; omega))
            have rq0 := RB9.out.cell (i := 0) rfl
            have rq1 := RB9.out.cell (i := 1) rfl
            have rq2 := RB9.out.cell (i := 2) rfl
            have rq3 := RB9.out.cell (i := 3) rfl
            have rq4 := RB9.out.cell (i := 4) rfl
            have rq5 := RB9.out.cell (i := 5) rfl
            have rq6 := RB9.out.cell (i := 6) rfl
            have rq7 := RB9.out.cell (i := 7) rfl
            have rq8 := RB9.out.cell (i := 8) rfl
            clear hq ck0 kc hE hrk P9 N9 htg
            go_wp2_with fail
            refine (TK.out _ G9.out).mono ?_
            rintro e12 w12 ⟨⟨bt, rfl⟩, ⟨u, hu0, hu1, hB12⟩, hM12⟩
            have HU := Lib.hid (show 0 ≤ u ∧ u ≤ 100 by omega)
            have G12 : Hid (Blk w12 gb 62 [.int .i64 tk, .int .i64 ((T : Int) - r1), .int .i64 0, .int .i64 u]) := Lib.hid (by have h := hB12; rw [TKE.out] at h; exact h)
            have M12 := Lib.hid (show Mod [tb, gb] (wW.setCell ⟨ab, 0, none⟩ (.int .i64 2)) w12 from (N9h.out.mono (by simp)).trans (hM12.mono (by simp)))
            have O12 := Lib.hid (OV.out.put KEYC.out HTG.out M12.out (P9h.out.mod hM12 (by have := HTG.out; simp; omega)) G12.out)
            have RB12 := Lib.hid (hM12.blk RB9.out (by have := HTN.out.2.2; have := HTG.out; simp; omega))
            have CC12 := Lib.hid (hM12.blk CC9.out (by have := HGC.out; simp; omega))
            have AV12 := Lib.hid (hM12.blk AV9.out (by have := HNE.out.1; simp; omega))
            have L12 := Lib.hid (LV.out.mod M12.out (fun b hb hb2 => by have h1 := HTN.out.1 b hb; have h2 := HTG.out; simp only [List.mem_cons, List.not_mem_nil, or_false] at hb2; omega) (fun hb2 => by have h1 := HTN.out.2.1; have h2 := HTG.out; simp only [List.mem_cons, List.not_mem_nil, or_false] at hb2; omega))
            have W12 := Lib.hid (WV.out.trans' M12.out (fun b hb => .inr (by have h1 := HTN4.out; have h2 := HTG.out; simp only [List.mem_cons, List.not_mem_nil, or_false] at hb; omega)))
            clear hB12 hM12 hu0 hu1 rq0 rq1 rq2 rq3 rq4 rq5 rq6 rq7 rq8
            have gq0 := G12.out.cell (i := 0) rfl
            have gq1 := G12.out.cell (i := 1) rfl
            have gq2 := G12.out.cell (i := 2) rfl
            have gq3 := G12.out.cell (i := 3) rfl
            have rq0 := RB12.out.cell (i := 0) rfl
            have rq1 := RB12.out.cell (i := 1) rfl
            have rq2 := RB12.out.cell (i := 2) rfl
            have rq3 := RB12.out.cell (i := 3) rfl
            have rq4 := RB12.out.cell (i := 4) rfl
            have rq5 := RB12.out.cell (i := 5) rfl
            have rq6 := RB12.out.cell (i := 6) rfl
            have rq7 := RB12.out.cell (i := 7) rfl
            have rq8 := RB12.out.cell (i := 8) rfl
            go_wp2_with fail
            refine Go.YtndekdafiaogmaaLex.wp_region_lex (by kernel_rfl) (by kernel_rfl) ?_
            go_wp2_with fail
            refine (RM2.out u HU.out _).mono ?_
            rintro e13 w13 ⟨rfl, hM13⟩
            have M13 := Lib.hid ((Mod.refl [] w12).drew.trans hM13)
            have AV13 := Lib.hid (M13.out.blk AV12.out (by simp))
            have CC13 := Lib.hid (M13.out.blk CC12.out (by simp))
            have MS13 := Lib.hid ((Mod.refl [ab] w13).setCell (p := ⟨ab, 1, none⟩) (.inl (by simp)) (.int .i64 fk))
            have AV14 := Lib.hid (AV13.out.set 1 (.int .i64 fk))
            have a131 := AV13.out.cell (i := 1) rfl
            have f131 := AV13.out.free 1
            have q2 := CC13.out.cell (i := 2) rfl
            have L13 := Lib.hid ((L12.out.mod0 M13.out).mod MS13.out (fun b hb hb2 => by simp only [List.mem_singleton] at hb2; subst hb2; exact NAB.out hb) (fun hb2 => by have h1 := HTN.out.2.1; have h2 := HNE.out.2.2.2; simp only [List.mem_singleton] at hb2; omega))
            clear hM13 gq0 gq1 gq2 gq3 rq0 rq1 rq2 rq3 rq4 rq5 rq6 rq7 rq8
            go_wp2_with fail
            refine ⟨by kernel_rfl, ?_⟩
            go_wp2_with fail
            refine (CK1.out _ L13.out).mono ?_
            rintro e15 w15 ⟨v15, rfl, hO15, hL15, hM15⟩
            obtain ⟨a7, c7, rfl⟩ := hO15.slice
            have OB := Lib.hid ((O12.out.mod0 M13.out).blkX (T := 39) (by decide) AV13.out HNE.out.2.2.2 MS13.out)
            have L15 := Lib.hid hL15
            have AV15 := Lib.hid (hM15.blk AV14.out NAB.out)
            have RB15 := Lib.hid (hM15.blk (MS13.out.blk (M13.out.blk RB12.out (by simp)) (by have := HNE.out.2.1; simp; omega)) BL.out.2)
            have O15 := Lib.hid (OB.out.mod hM15 (fun b hb => .inl (HTN.out.1 b hb)))
            have W15 := Lib.hid (((W12.out.trans M13.out).trans' MS13.out (fun b hb => .inr (by have h1 := HTN4.out; have h2 := HNE.out.2.2.2; simp only [List.mem_singleton] at hb; omega))).trans' hM15 (fun b hb => .inr (by have := BL.out.1 b hb; omega)))
            have bq0 := AV15.out.cell (i := 0) rfl
            have bq1 := AV15.out.cell (i := 1) rfl
            have bq2 := AV15.out.cell (i := 2) rfl
            have lab : ab < w15.heap.size := AV15.out.lt
            have lab' : ¬ ab = w15.heap.size := by omega
            have HNK := Lib.hid (show nn + 1 ≤ k + 1 ∧ (if (F key).isSome then m else m + 1) ≤ k + 1 from by have := HNN.out; split <;> omega)
            clear hO15 hL15 hM15 a131 f131 q2
            simp only [Ans.val]
            go_wp2_with fail
            go_roundw
            case rel => exact ⟨k + 1, T, s2, nn + 1, _, _, _, by omega, by go_num, rfl, L15.out.mod0 ((Mod.refl [] _).alloc _), KC1.out, HG2.out, EJ2.out, O15.out.mod0 ((Mod.refl [] _).alloc _), HNK.out, RB15.out.alloc _, W15.out.alloc _⟩
            case measure => simp [intOf]; omega
         ·have dz : decide (0 < lz) = false := decide_eq_false hlz0
          have hav : ansV fz lz = ⟨1, fz, lz⟩ := by unfold ansV; rw [if_neg hlz0]
          have hav2 : ansV fk lz = ⟨1, fk, lz⟩ := by unfold ansV; rw [if_neg hlz0]
          have PK2 := PK.out
          rw [hav] at PK2
          have PK3 := Lib.hid PK2
          have CKA2 := CKA.out
          rw [hav2] at CKA2
          have CKB := Lib.hid CKA2
          clear PK2 CKA2 hav hav2 hlz0
          have MV := Lib.hid (Mod.refl [ab] wW)
          have AV := Lib.hid (show Blk wW ab 39 [.int .i64 1, .int .i64 fz, .int .i64 lz] from AB.out)
          have cc2 := CCW.out.cell (i := 2) rfl
          have cc3 := CCW.out.cell (i := 3) rfl
          have rw4 := RBW.out.cell (i := 4) rfl
          have ac0 := AB.out.cell (i := 0) rfl
          have ac1 := AB.out.cell (i := 1) rfl
          have ac2 := AB.out.cell (i := 2) rfl
          have af0 := AB.out.free 0
          obtain ⟨hne1, hne2, hne3, hne4⟩ := HNE.out
          have hne3' : ¬ wr.heap.size = ab := fun h => hne3 h.symm
          have hne2' : ¬ w3.heap.size = ab := fun h => hne2 h.symm
          cases pk with
          | true =>
            go_wp2_with fail
            obtain ⟨wV, hwV⟩ : ∃ wV, wW = wV := ⟨_, rfl⟩
            have MV : Hid (Mod [ab] wW wV) := Lib.hid (by rw [← hwV]; exact MV.out)
            have AV : Hid (Blk wV ab 39 [.int .i64 1, .int .i64 fz, .int .i64 lz]) := Lib.hid (by rw [← hwV]; exact AV.out)
            rw [hwV]
            have LV := Lib.hid (LW.out.mod MV.out (fun b hb hb2 => by simp only [List.mem_singleton] at hb2; subst hb2; exact NAB.out hb) (fun hb2 => by have h1 := HTN.out.2.1; have h2 := HNE.out.2.2.2; simp only [List.mem_singleton] at hb2; omega))
            have OV := Lib.hid (OS.out.mod0 (MW.out.trans' MV.out (fun b hb => .inr (by simp only [List.mem_singleton] at hb; subst hb; exact HAB.out))))
            have RBV := Lib.hid (MV.out.blk RBW.out (by have h := HNE.out.2.1; simp; omega))
            have CCV := Lib.hid (MV.out.blk CCW.out (by have h := HNE.out.2.2.1; simp; omega))
            have GV := Lib.hid (MV.out.blk GW.out (by have h := HNE.out.1; simp; omega))
            have WV := Lib.hid (WW.out.trans' MV.out (fun b hb => .inr (by have h1 := HTN4.out; have h2 := HNE.out.2.2.2; simp only [List.mem_singleton] at hb; omega)))
            clear cc2 cc3 rw4 ac0 ac1 ac2 af0 hne1 hne2 hne3 hne4 hne3' hne2' hwV
            have cc2 := CCV.out.cell (i := 2) rfl
            have ac0 := AV.out.cell (i := 0) rfl
            have ac1 := AV.out.cell (i := 1) rfl
            have ac2 := AV.out.cell (i := 2) rfl
            have ISA := Lib.hid (isC_of_blk AV.out.drew)
            refine Go.YtndekdafiaogmaaLex.wp_region_held [6] [6] B.all (by kernel_rfl) (by kernel_rfl) ?_
            simp only [wpCut, List.take_succ_cons, List.take_zero, List.drop_succ_cons, List.drop_zero, List.cons_append, List.nil_append]
            go_wp2_with fail
            refine (PK3.out _ (LV.out.mod0 (Mod.refl [] _).drew)).mono ?_
            rintro e11 w11 ⟨rfl, hL11, hM11⟩
            have L11 := Lib.hid hL11
            have M11 := Lib.hid hM11
            have O11 := Lib.hid ((OV.out.mod0 (Mod.refl [] _).drew).mod hM11 (fun b hb => .inl (HTN.out.1 b hb)))
            have RB11 := Lib.hid (hM11.blk RBV.out.drew BL.out.2)
            have W11 := Lib.hid (WV.out.drew.trans' hM11 (fun b hb => .inr (by have := BL.out.1 b hb; omega)))
            have AV11 := Lib.hid (hM11.blk AV.out.drew NAB.out)
            have bc0 := AV11.out.cell (i := 0) rfl
            have bc1 := AV11.out.cell (i := 1) rfl
            have bc2 := AV11.out.cell (i := 2) rfl
            clear hL11 hM11 cc2 ac0 ac1 ac2
            simp only [Ans.val]
            go_wp2_with fail
            refine ⟨M11.out, ?_⟩
            go_wp2_with fail
            refine ⟨by kernel_rfl, ⟨⟨NAB.out, ISA.out⟩, trivial⟩, ?_⟩
            go_wp2_with fail
            go_roundw
            case rel => exact ⟨k + 1, T, s.to (T : Int), nn, m, P, F, by omega, by go_num, rfl, L11.out, KP.out, RingOf.rk (x := s.ring) HG.out rfl, EJ.out.to _, O11.out, by omega, RB11.out, W11.out⟩
            case measure => simp [intOf]; omega
          | false =>
            have LV := Lib.hid (LW.out.mod MV.out (fun b hb hb2 => by simp only [List.mem_singleton] at hb2; subst hb2; exact NAB.out hb) (fun hb2 => by have h1 := HTN.out.2.1; have h2 := HNE.out.2.2.2; simp only [List.mem_singleton] at hb2; omega))
            have OV := Lib.hid (OS.out.mod0 (MW.out.trans' MV.out (fun b hb => .inr (by simp only [List.mem_singleton] at hb; subst hb; exact HAB.out))))
            have RBV := Lib.hid (MV.out.blk RBW.out (by have h := HNE.out.2.1; simp; omega))
            have CCV := Lib.hid (MV.out.blk CCW.out (by have h := HNE.out.2.2.1; simp; omega))
            have GV := Lib.hid (MV.out.blk GW.out (by have h := HNE.out.1; simp; omega))
            have WV := Lib.hid (WW.out.trans' MV.out (fun b hb => .inr (by have h1 := HTN4.out; have h2 := HNE.out.2.2.2; simp only [List.mem_singleton] at hb; omega)))
            have AVV := Lib.hid (show Blk wW ab 39 [.int .i64 1, .int .i64 fz, .int .i64 lz] from AV.out)
            have TK : Hid (∀ W, Blk W gb 62 [.int .i64 z, .int .i64 ((T : Int) - r1), .int .i64 0, .int .i64 0] → Calls Try.prog 26 #[.pointer (some ⟨gb, 0, none⟩), .agg #[.int .i64 r0, .int .i64 r1, .int .i64 r2, .int .i64 r3, .int .i64 r4, .int .i64 r5, .int .i64 r6, .int .i64 r7, .bool r8], .int .i64 (T : Int), .int .i64 (n1 : Int)] W (TookPost gb (⟨r0, r1, r2, r3, r4, r5, r6, r7, r8⟩ : Rule) z (T : Int) (n1 : Int) W)) := Lib.hid (fun W hB => take_old HRO.out (by omega) HZI.out ⟨by have := HCO.out.1; omega, HCO.out.2⟩ hB)
            have RM2 : Hid (∀ u, 0 ≤ u ∧ u ≤ 100 → ∀ W, Calls Try.prog 23 #[.agg #[.int .i64 tk, .int .i64 ((T : Int) - r1), .int .i64 0, .int .i64 u], .agg #[.int .i64 r0, .int .i64 r1, .int .i64 r2, .int .i64 r3, .int .i64 r4, .int .i64 r5, .int .i64 r6, .int .i64 r7, .bool r8], .int .i64 (T : Int)] W fun e w' => e = .returned (.int .i64 fk) ∧ Mod [] W w') := Lib.hid (fun u hu W => by rw [← FKE.out]; exact room_old HRO.out (by omega) HTK.out hu W)
            have hck := CKB.out FK.out
            have ck0 := CK0.out
            have kc := KC0.out
            have hrk := RingOf.rk (x := s.ring) HG.out (rk_check c s (T : Int) 0 key (n1 : Int))
            rcases hq : check c s (T : Int) 0 key (n1 : Int) with ⟨A0, ev, s2⟩
            rw [hq] at hck ck0 kc hrk
            simp only at hck kc hrk
            obtain ⟨hA, hE⟩ := hck
            subst hA
            have CK1 := Lib.hid ck0
            have KC1 := Lib.hid kc
            have EJ2 := Lib.hid hE
            have HG2 := Lib.hid hrk
            obtain ⟨w9', pt, P9, N9⟩ := OV.out.map.put (mt := 60) SKX Try.underlying60 (by have := HNN.out; unfold maxLen; omega) (text_keyX key HKM.out) (.pointer (some ⟨gb, 0, none⟩))
            rw [CNT.out] at P9
            have P9h := Lib.hid P9
            have N9h := Lib.hid N9
            have htg := HTG.out
            have G9 := Lib.hid (N9.blk GV.out (by simp; omega))
            have RB9 := Lib.hid (N9.blk RBV.out (by have := HTN.out.2.2; simp; omega))
            have CC9 := Lib.hid (N9.blk CCV.out (by have := HTBW.out; simp; omega))
            have AV9 := Lib.hid (N9.blk AVV.out (by have := HNE.out.2.2.2; simp; omega))
            have rq0 := RB9.out.cell (i := 0) rfl
            have rq1 := RB9.out.cell (i := 1) rfl
            have rq2 := RB9.out.cell (i := 2) rfl
            have rq3 := RB9.out.cell (i := 3) rfl
            have rq4 := RB9.out.cell (i := 4) rfl
            have rq5 := RB9.out.cell (i := 5) rfl
            have rq6 := RB9.out.cell (i := 6) rfl
            have rq7 := RB9.out.cell (i := 7) rfl
            have rq8 := RB9.out.cell (i := 8) rfl
            clear hq ck0 kc hE hrk P9 N9 htg
            go_wp2_with fail
            refine (TK.out _ G9.out).mono ?_
            rintro e12 w12 ⟨⟨bt, rfl⟩, ⟨u, hu0, hu1, hB12⟩, hM12⟩
            have HU := Lib.hid (show 0 ≤ u ∧ u ≤ 100 by omega)
            have G12 : Hid (Blk w12 gb 62 [.int .i64 tk, .int .i64 ((T : Int) - r1), .int .i64 0, .int .i64 u]) := Lib.hid (by have h := hB12; rw [TKE.out] at h; exact h)
            have M12 := Lib.hid (show Mod [tb, gb] wW w12 from (N9h.out.mono (by simp)).trans (hM12.mono (by simp)))
            have O12 := Lib.hid (OV.out.put KEYC.out HTG.out M12.out (P9h.out.mod hM12 (by have := HTG.out; simp; omega)) G12.out)
            have RB12 := Lib.hid (hM12.blk RB9.out (by have := HTN.out.2.2; have := HTG.out; simp; omega))
            have CC12 := Lib.hid (hM12.blk CC9.out (by have := HGC.out; simp; omega))
            have AV12 := Lib.hid (hM12.blk AV9.out (by have := HNE.out.1; simp; omega))
            have L12 := Lib.hid (LV.out.mod M12.out (fun b hb hb2 => by have h1 := HTN.out.1 b hb; have h2 := HTG.out; simp only [List.mem_cons, List.not_mem_nil, or_false] at hb2; omega) (fun hb2 => by have h1 := HTN.out.2.1; have h2 := HTG.out; simp only [List.mem_cons, List.not_mem_nil, or_false] at hb2; omega))
            have W12 := Lib.hid (WV.out.trans' M12.out (fun b hb => .inr (by have h1 := HTN4.out; have h2 := HTG.out; simp only [List.mem_cons, List.not_mem_nil, or_false] at hb; omega)))
            clear hB12 hM12 hu0 hu1 rq0 rq1 rq2 rq3 rq4 rq5 rq6 rq7 rq8
            have gq0 := G12.out.cell (i := 0) rfl
            have gq1 := G12.out.cell (i := 1) rfl
            have gq2 := G12.out.cell (i := 2) rfl
            have gq3 := G12.out.cell (i := 3) rfl
            have rq0 := RB12.out.cell (i := 0) rfl
            have rq1 := RB12.out.cell (i := 1) rfl
            have rq2 := RB12.out.cell (i := 2) rfl
            have rq3 := RB12.out.cell (i := 3) rfl
            have rq4 := RB12.out.cell (i := 4) rfl
            have rq5 := RB12.out.cell (i := 5) rfl
            have rq6 := RB12.out.cell (i := 6) rfl
            have rq7 := RB12.out.cell (i := 7) rfl
            have rq8 := RB12.out.cell (i := 8) rfl
            go_wp2_with fail
            refine Go.YtndekdafiaogmaaLex.wp_region_lex (by kernel_rfl) (by kernel_rfl) ?_
            go_wp2_with fail
            refine (RM2.out u HU.out _).mono ?_
            rintro e13 w13 ⟨rfl, hM13⟩
            have M13 := Lib.hid ((Mod.refl [] w12).drew.trans hM13)
            have AV13 := Lib.hid (M13.out.blk AV12.out (by simp))
            have CC13 := Lib.hid (M13.out.blk CC12.out (by simp))
            have MS13 := Lib.hid ((Mod.refl [ab] w13).setCell (p := ⟨ab, 1, none⟩) (.inl (by simp)) (.int .i64 fk))
            have AV14 := Lib.hid (AV13.out.set 1 (.int .i64 fk))
            have a131 := AV13.out.cell (i := 1) rfl
            have f131 := AV13.out.free 1
            have q2 := CC13.out.cell (i := 2) rfl
            have L13 := Lib.hid ((L12.out.mod0 M13.out).mod MS13.out (fun b hb hb2 => by simp only [List.mem_singleton] at hb2; subst hb2; exact NAB.out hb) (fun hb2 => by have h1 := HTN.out.2.1; have h2 := HNE.out.2.2.2; simp only [List.mem_singleton] at hb2; omega))
            clear hM13 gq0 gq1 gq2 gq3 rq0 rq1 rq2 rq3 rq4 rq5 rq6 rq7 rq8
            go_wp2_with fail
            refine ⟨by kernel_rfl, ?_⟩
            go_wp2_with fail
            refine (CK1.out _ L13.out).mono ?_
            rintro e15 w15 ⟨v15, rfl, hO15, hL15, hM15⟩
            obtain ⟨a7, c7, rfl⟩ := hO15.slice
            have OB := Lib.hid ((O12.out.mod0 M13.out).blkX (T := 39) (by decide) AV13.out HNE.out.2.2.2 MS13.out)
            have L15 := Lib.hid hL15
            have AV15 := Lib.hid (hM15.blk AV14.out NAB.out)
            have RB15 := Lib.hid (hM15.blk (MS13.out.blk (M13.out.blk RB12.out (by simp)) (by have := HNE.out.2.1; simp; omega)) BL.out.2)
            have O15 := Lib.hid (OB.out.mod hM15 (fun b hb => .inl (HTN.out.1 b hb)))
            have W15 := Lib.hid (((W12.out.trans M13.out).trans' MS13.out (fun b hb => .inr (by have h1 := HTN4.out; have h2 := HNE.out.2.2.2; simp only [List.mem_singleton] at hb; omega))).trans' hM15 (fun b hb => .inr (by have := BL.out.1 b hb; omega)))
            have bq0 := AV15.out.cell (i := 0) rfl
            have bq1 := AV15.out.cell (i := 1) rfl
            have bq2 := AV15.out.cell (i := 2) rfl
            have lab : ab < w15.heap.size := AV15.out.lt
            have lab' : ¬ ab = w15.heap.size := by omega
            have HNK := Lib.hid (show nn + 1 ≤ k + 1 ∧ (if (F key).isSome then m else m + 1) ≤ k + 1 from by have := HNN.out; split <;> omega)
            clear hO15 hL15 hM15 a131 f131 q2
            simp only [Ans.val]
            go_wp2_with fail
            go_roundw
            case rel => exact ⟨k + 1, T, s2, nn + 1, _, _, _, by omega, by go_num, rfl, L15.out.mod0 ((Mod.refl [] _).alloc _), KC1.out, HG2.out, EJ2.out, O15.out.mod0 ((Mod.refl [] _).alloc _), HNK.out, RB15.out.alloc _, W15.out.alloc _⟩
            case measure => simp [intOf]; omega
   | none =>
     have HP := Lib.hid hP
     have HFN := Lib.hid (OC6.out.no key hP)
     rw [show (ptrs P (.string key)).getD (.pointer none) = .pointer none by rw [ptrs_none hP]; rfl] at hl1
     have AG := Lib.hid ((Mod.refl [] w6).alloc (.cells #[.int .i64 (T : Int), .int .i64 (T : Int), .int .i64 0, .int .i64 0] 62))
     have GBG := Lib.hid (Blk.new w6 [.int .i64 (T : Int), .int .i64 (T : Int), .int .i64 0, .int .i64 0] 62)
     clear hP
     have rb1 := RB6.out.cell (i := 1) rfl
     have rb2 := RB6.out.cell (i := 2) rfl
     have h36 : w3.heap.size < w6.heap.size := RB6.out.lt
     have h36' : ¬ w3.heap.size = w6.heap.size := by omega
     by_cases hv1 : (n1 : Int) < 1
     ·have dv1 : decide ((n1 : Int) < 1) = true := by simp; omega
      have dv1' : decide (n1 = 0) = true := by simp; omega
      go_wp2_with fail
      go_roundw
      case rel => exact ⟨k + 1, T, s, nn, m, P, F, by omega, by go_num, rfl, L6.out.mod0 AG.out, KS.out, HG.out, EJ.out, OC6.out.mod0 AG.out, by omega, AG.out.blk RB6.out (by simp), M6.out.trans AG.out⟩
      case measure => simp [intOf]; omega
     ·have dv1 : decide ((n1 : Int) < 1) = false := by simp; omega
      have dv1' : decide (n1 = 0) = false := by simp; omega
      by_cases hv2 : r2 < (n1 : Int)
      ·have dv2 : decide (r2 < (n1 : Int)) = true := by simp; omega
       go_wp2_with fail
       go_roundw
       case rel => exact ⟨k + 1, T, s, nn, m, P, F, by omega, by go_num, rfl, L6.out.mod0 AG.out, KS.out, HG.out, EJ.out, OC6.out.mod0 AG.out, by omega, AG.out.blk RB6.out (by simp), M6.out.trans AG.out⟩
       case measure => simp [intOf]; omega
      ·have dv2 : decide (r2 < (n1 : Int)) = false := by simp; omega
       have HCO := Lib.hid (show 1 ≤ (n1 : Int) ∧ (n1 : Int) ≤ r2 by omega)
       have M0S := Lib.hid ((Mod.refl [] w6).alloc (.cells #[.int .i64 (T : Int), .int .i64 ((T : Int) - r1), .int .i64 0, .int .i64 0] 62))
       have GS := Lib.hid (Blk.new w6 [.int .i64 (T : Int), .int .i64 ((T : Int) - r1), .int .i64 0, .int .i64 0] 62)
       go_wp2_with fail
       obtain ⟨wS, hwS⟩ : ∃ wS, w6.alloc (.cells #[.int .i64 (T : Int), .int .i64 ((T : Int) - r1), .int .i64 0, .int .i64 0] 62) = wS := ⟨_, rfl⟩
       rw [hwS] at M0S GS ⊢
       have LS := Lib.hid (L6.out.mod0 M0S.out)
       have RBS := Lib.hid (M0S.out.blk RB6.out (by simp))
       have CCS := Lib.hid (M0S.out.blk CC6.out (by simp))
       have OS := Lib.hid (OC6.out.mod0 M0S.out)
       have WS := Lib.hid (M6.out.trans M0S.out)
       obtain ⟨gb, hgb⟩ : ∃ gb, w6.heap.size = gb := ⟨_, rfl⟩
       have HTG := Lib.hid (show tb < gb by have := HWR.out; have := HTBW.out; omega)
       have HGC := Lib.hid (show gb ≠ wr.heap.size by have := HWR.out; omega)
       have KEYC : Hid (P key = some gb ∨ (P key = none ∧ ∀ k b2, P k = some b2 → b2 ≠ gb)) := Lib.hid (.inr ⟨HP.out, fun k2 b2 hb2 => by obtain ⟨_, _, _, _, h2, _⟩ := OC6.out.yes k2 b2 hb2; have := h2.lt; omega⟩)
       rw [hgb] at GS ⊢
       clear hwS rb1 rb2 hl1 h36 h36' hgb
       obtain ⟨z, hz⟩ : ∃ z : Int, (T : Int) = z := ⟨_, rfl⟩
       have HZV := Lib.hid (show (F key).getD (T : Int) = z by rw [HFN.out]; exact hz)
       have HZI := Lib.hid (show 0 ≤ z ∧ z ≤ 4611690416473899008 by omega)
       have GS : Hid (Blk wS gb 62 [.int .i64 z, .int .i64 ((T : Int) - r1), .int .i64 0, .int .i64 0]) := Lib.hid (by rw [← hz]; exact GS.out)
       have CNT : Hid ((if (ptrs P (.string key)).isSome then m else m + 1) = (if (F key).isSome then m else m + 1)) := Lib.hid (by rw [ptrs_none HP.out, HFN.out]; rfl)
       have LASTF := Lib.hid (show m ≠ r4.toNat → F key = none → m < c.r.cells.toNat from fun h1 _ => by have h2 := EJ.out.free; rw [HCR.out] at h2 ⊢; simp only at h2 ⊢; omega)
       clear hz
       obtain ⟨fz, hfz⟩ : ∃ x, (only z).free (Rule.pace (⟨r0, r1, r2, r3, r4, r5, r6, r7, r8⟩ : Rule)) (T : Int) = x := ⟨_, rfl⟩
       obtain ⟨lz, hlz⟩ : ∃ x, (only z).lag (Rule.pace (⟨r0, r1, r2, r3, r4, r5, r6, r7, r8⟩ : Rule)) (T : Int) (n1 : Int) = x := ⟨_, rfl⟩
       obtain ⟨tk, htk⟩ : ∃ x, tookF (Rule.pace (⟨r0, r1, r2, r3, r4, r5, r6, r7, r8⟩ : Rule)) z (T : Int) (n1 : Int) = x := ⟨_, rfl⟩
       obtain ⟨fk, hfk⟩ : ∃ x, (only tk).free (Rule.pace (⟨r0, r1, r2, r3, r4, r5, r6, r7, r8⟩ : Rule)) (T : Int) = x := ⟨_, rfl⟩
       have hcc : 1 ≤ (n1 : Int) ∧ (n1 : Int) ≤ c.r.burst := by rw [HCR.out]; exact HCO.out
       have HCC := Lib.hid hcc
       have RM : Hid (∀ W, Calls Try.prog 23 #[.agg #[.int .i64 z, .int .i64 ((T : Int) - r1), .int .i64 0, .int .i64 0], .agg #[.int .i64 r0, .int .i64 r1, .int .i64 r2, .int .i64 r3, .int .i64 r4, .int .i64 r5, .int .i64 r6, .int .i64 r7, .bool r8], .int .i64 (T : Int)] W fun e w' => e = .returned (.int .i64 fz) ∧ Mod [] W w') := Lib.hid (fun W => by rw [← hfz]; exact room_old HRO.out (by omega) HZI.out (by omega) W)
       have WT : Hid (∀ W, Calls Try.prog 24 #[.agg #[.int .i64 z, .int .i64 ((T : Int) - r1), .int .i64 0, .int .i64 0], .agg #[.int .i64 r0, .int .i64 r1, .int .i64 r2, .int .i64 r3, .int .i64 r4, .int .i64 r5, .int .i64 r6, .int .i64 r7, .bool r8], .int .i64 (T : Int), .int .i64 (n1 : Int)] W fun e w' => e = .returned (.int .i64 lz) ∧ Mod [] W w') := Lib.hid (fun W => by rw [← hlz]; exact wait_old HRO.out (by omega) HZI.out (by omega) HCO.out W)
       have hep := EP0.out hcc
       rw [HZV.out, HCR.out] at hep
       have hoa : ownA (Rule.pace (⟨r0, r1, r2, r3, r4, r5, r6, r7, r8⟩ : Rule)) z (T : Int) (n1 : Int) = ansV fz lz := by unfold ownA; rw [hfz, hlz]
       rw [hoa] at hep
       have PK : Hid (∀ W, LimAt W B c s → Calls Try.prog 25 #[.pointer (some ⟨B.p, 0, none⟩), .int .i64 (T : Int), .int .i64 0, .string ⟨key.toArray⟩, .int .i64 (n1 : Int)] W (PeekPost B c (ansV fz lz) (s.to (T : Int)) W)) := Lib.hid (fun W hL => by have h := PK0.out W hL; rw [hep] at h; exact h)
       have KP : Hid (Kept c (s.to (T : Int)) (k + 1) T) := Lib.hid (by have h := KP0.out; rw [hep] at h; exact h)
       have CKA : Hid ((F key = none → m < c.r.cells.toNat) → (check c s (T : Int) 0 key (n1 : Int)).1 = ansV fk lz ∧ ExJ c (check c s (T : Int) 0 key (n1 : Int)).2.2 (T : Int) (putF F key tk) (if (F key).isSome then m else m + 1)) := Lib.hid (fun hf => by
        obtain ⟨h1, h2⟩ := EC0.out HCC.out hf
        rw [HZV.out, HCR.out] at h1 h2
        rw [htk] at h2
        refine ⟨?_, h2⟩
        rw [h1]
        unfold ownC
        rw [htk, hfk, hlz])
       have HTK : Hid (0 ≤ tk ∧ tk ≤ 4611690416473899008) := Lib.hid (by rw [← htk]; exact took_in HRO.out (by omega) HZI.out HCO.out.2 (by have := HCO.out; omega))
       have TKE := Lib.hid htk
       have FKE := Lib.hid hfk
       have ISG := Lib.hid (isC_of_blk GS.out.drew)
       have ISR := Lib.hid (isC_of_blk RBS.out.drew)
       have gz0 := GS.out.cell (i := 0) rfl
       have gz1 := GS.out.cell (i := 1) rfl
       have gz2 := GS.out.cell (i := 2) rfl
       have gz3 := GS.out.cell (i := 3) rfl
       have rz0 := RBS.out.cell (i := 0) rfl
       have rz1 := RBS.out.cell (i := 1) rfl
       have rz2 := RBS.out.cell (i := 2) rfl
       have rz3 := RBS.out.cell (i := 3) rfl
       have rz4 := RBS.out.cell (i := 4) rfl
       have rz5 := RBS.out.cell (i := 5) rfl
       have rz6 := RBS.out.cell (i := 6) rfl
       have rz7 := RBS.out.cell (i := 7) rfl
       have rz8 := RBS.out.cell (i := 8) rfl
       have ltG : gb < wS.heap.size := GS.out.lt
       have ltG' : ¬ gb = wS.heap.size := by omega
       have ltR : w3.heap.size < wS.heap.size := RBS.out.lt
       have ltR' : ¬ w3.heap.size = wS.heap.size := by omega
       have HLC := Lib.hid (show wr.heap.size < wS.heap.size from CCS.out.lt)
       clear hcc hep hoa hfz hlz htk hfk
       refine wp_region_sched (by kernel_rfl) fun S => ?_
       rcases before_or 14 5 S with q0 | q0
       ·refine ⟨[(14, 5)], by decide, fun p hp => by simp only [List.mem_cons, List.not_mem_nil, or_false] at hp; rcases hp with rfl <;> assumption, held_perm [0, 1, 2, 3, 4, 6, 7, 8, 9, 10, 11, 14, 5, 12, 13, 15] [13] [2, 3, 7, 8] [] (by kernel_rfl) (by kernel_rfl) ?_⟩
        simp only [wpCut, edges, edge, perm, reOper, reGuard, List.getElem?_cons_succ, List.getElem?_cons_zero, List.take_succ_cons, List.take_zero, List.drop_succ_cons, List.drop_zero, List.cons_append, List.nil_append]
        go_wp2_with fail
        refine (RM.out _).mono ?_
        rintro e8 w8 ⟨rfl, hM8⟩
        have MC8 := Lib.hid (((Mod.refl [] wS).alloc (.cells #[.int .i64 0, .int .i64 0, .int .i64 0] 39)).drew.trans hM8)
        have HM8 := Lib.hid hM8
        have NB8 := Lib.hid (hM8.blk (Blk.new wS [.int .i64 0, .int .i64 0, .int .i64 0] 39).drew (by simp))
        clear hM8
        go_wp2_with fail
        refine ⟨(((Mod.refl [] wS.drew).alloc (.cells #[.int .i64 0, .int .i64 0, .int .i64 0] 39)).trans HM8.out), ?_⟩
        go_wp2_with fail
        refine (WT.out _).mono ?_
        rintro e9 w9 ⟨rfl, hM9⟩
        have HM9 := Lib.hid hM9
        have MC9 := Lib.hid (MC8.out.trans hM9)
        have NB9 := Lib.hid (hM9.blk NB8.out (by simp))
        have nb0 := NB9.out.cell (i := 0) rfl
        have nb1 := NB9.out.cell (i := 1) rfl
        have nb2 := NB9.out.cell (i := 2) rfl
        have nf0 := NB9.out.free 0
        have nf1 := NB9.out.free 1
        have nf2 := NB9.out.free 2
        clear hM9
        go_wp2_with fail
        refine ⟨by kernel_rfl, ⟨⟨by simp, ISG.out⟩, ⟨by simp, ISR.out⟩, ⟨by simp, ISG.out⟩, ⟨by simp, ISR.out⟩, trivial⟩, ?_⟩
        have HAB := Lib.hid (show wS.heap.size ≤ wS.heap.size from Nat.le_refl _)
        have MW := Lib.hid (MC9.out.trans' ((((Mod.refl [wS.heap.size] w9).setCell (p := ⟨wS.heap.size, 0, none⟩) (.inl (by simp)) (.int .i64 1)).setCell (p := ⟨wS.heap.size, 1, none⟩) (.inl (by simp)) (.int .i64 fz)).setCell (p := ⟨wS.heap.size, 2, none⟩) (.inl (by simp)) (.int .i64 lz)) (fun b hb => .inr (by simp only [List.mem_singleton] at hb; have := HAB.out; omega)))
        have AB := Lib.hid (show Blk (((w9.setCell ⟨wS.heap.size, 0, none⟩ (.int .i64 1)).setCell ⟨wS.heap.size, 1, none⟩ (.int .i64 fz)).setCell ⟨wS.heap.size, 2, none⟩ (.int .i64 lz)) wS.heap.size 39 [.int .i64 1, .int .i64 fz, .int .i64 lz] from ((NB9.out.set 0 _).set 1 _).set 2 _)
        skip
        obtain ⟨wW, hwW⟩ : ∃ wW, (((w9.setCell ⟨wS.heap.size, 0, none⟩ (.int .i64 1)).setCell ⟨wS.heap.size, 1, none⟩ (.int .i64 fz)).setCell ⟨wS.heap.size, 2, none⟩ (.int .i64 lz)) = wW := ⟨_, rfl⟩
        rw [hwW] at MW AB ⊢
        obtain ⟨ab, hab⟩ : ∃ ab, wS.heap.size = ab := ⟨_, rfl⟩
        rw [hab] at AB ⊢
        have HAB := Lib.hid (show wS.heap.size ≤ ab from by have := HAB.out; omega)
        clear hwW hab ltG ltG' ltR ltR' gz0 gz1 gz2 gz3 rz0 rz1 rz2 rz3 rz4 rz5 rz6 rz7 rz8 nb0 nb1 nb2 nf0 nf1 nf2
        have LW := Lib.hid (LS.out.mod0 MW.out)
        have OW := Lib.hid (OS.out.mod0 MW.out)
        have RBW := Lib.hid (MW.out.blk RBS.out (by simp))
        have CCW := Lib.hid (MW.out.blk CCS.out (by simp))
        have GW := Lib.hid (MW.out.blk GS.out (by simp))
        have WW := Lib.hid (WS.out.trans MW.out)
        have NAB := Lib.hid (show ab ∉ B.all from fun hb => by have := LS.out.lt _ hb; have := HAB.out; omega)
        have HNE := Lib.hid (show ab ≠ gb ∧ ab ≠ w3.heap.size ∧ ab ≠ wr.heap.size ∧ tb < ab from by have h1 := GS.out.lt; have h2 := RBS.out.lt; have h3 := HLC.out; have h4 := HAB.out; have h5 := HTG.out; omega)
        by_cases hlz0 : 0 < lz
        ·have dz : decide (0 < lz) = true := decide_eq_true hlz0
         have hav : ansV fz lz = ⟨2, fz, lz⟩ := by unfold ansV; rw [if_pos hlz0]
         have hav2 : ansV fk lz = ⟨2, fk, lz⟩ := by unfold ansV; rw [if_pos hlz0]
         have PK2 := PK.out
         rw [hav] at PK2
         have PK3 := Lib.hid PK2
         have CKA2 := CKA.out
         rw [hav2] at CKA2
         have CKB := Lib.hid CKA2
         clear PK2 CKA2 hav hav2 hlz0
         have MV := Lib.hid ((Mod.refl [ab] wW).setCell (p := ⟨ab, 0, none⟩) (.inl (by simp)) (.int .i64 2))
         have AV := Lib.hid (show Blk (wW.setCell ⟨ab, 0, none⟩ (.int .i64 2)) ab 39 [.int .i64 2, .int .i64 fz, .int .i64 lz] from AB.out.set 0 _)
         have cc2 := CCW.out.cell (i := 2) rfl
         have cc3 := CCW.out.cell (i := 3) rfl
         have rw4 := RBW.out.cell (i := 4) rfl
         have ac0 := AB.out.cell (i := 0) rfl
         have ac1 := AB.out.cell (i := 1) rfl
         have ac2 := AB.out.cell (i := 2) rfl
         have af0 := AB.out.free 0
         obtain ⟨hne1, hne2, hne3, hne4⟩ := HNE.out
         have hne3' : ¬ wr.heap.size = ab := fun h => hne3 h.symm
         have hne2' : ¬ w3.heap.size = ab := fun h => hne2 h.symm
         cases pk with
         | true =>
           go_wp2_with fail
           obtain ⟨wV, hwV⟩ : ∃ wV, (wW.setCell ⟨ab, 0, none⟩ (.int .i64 2)) = wV := ⟨_, rfl⟩
           rw [hwV] at MV AV ⊢
           have LV := Lib.hid (LW.out.mod MV.out (fun b hb hb2 => by simp only [List.mem_singleton] at hb2; subst hb2; exact NAB.out hb) (fun hb2 => by have h1 := HTN.out.2.1; have h2 := HNE.out.2.2.2; simp only [List.mem_singleton] at hb2; omega))
           have OV := Lib.hid (OS.out.mod0 (MW.out.trans' MV.out (fun b hb => .inr (by simp only [List.mem_singleton] at hb; subst hb; exact HAB.out))))
           have RBV := Lib.hid (MV.out.blk RBW.out (by have h := HNE.out.2.1; simp; omega))
           have CCV := Lib.hid (MV.out.blk CCW.out (by have h := HNE.out.2.2.1; simp; omega))
           have GV := Lib.hid (MV.out.blk GW.out (by have h := HNE.out.1; simp; omega))
           have WV := Lib.hid (WW.out.trans' MV.out (fun b hb => .inr (by have h1 := HTN4.out; have h2 := HNE.out.2.2.2; simp only [List.mem_singleton] at hb; omega)))
           clear cc2 cc3 rw4 ac0 ac1 ac2 af0 hne1 hne2 hne3 hne4 hne3' hne2' hwV
           have cc2 := CCV.out.cell (i := 2) rfl
           have ac0 := AV.out.cell (i := 0) rfl
           have ac1 := AV.out.cell (i := 1) rfl
           have ac2 := AV.out.cell (i := 2) rfl
           have ISA := Lib.hid (isC_of_blk AV.out.drew)
           refine Go.YtndekdafiaogmaaLex.wp_region_held [6] [6] B.all (by kernel_rfl) (by kernel_rfl) ?_
           simp only [wpCut, List.take_succ_cons, List.take_zero, List.drop_succ_cons, List.drop_zero, List.cons_append, List.nil_append]
           go_wp2_with fail
           refine (PK3.out _ (LV.out.mod0 (Mod.refl [] _).drew)).mono ?_
           rintro e11 w11 ⟨rfl, hL11, hM11⟩
           have L11 := Lib.hid hL11
           have M11 := Lib.hid hM11
           have O11 := Lib.hid ((OV.out.mod0 (Mod.refl [] _).drew).mod hM11 (fun b hb => .inl (HTN.out.1 b hb)))
           have RB11 := Lib.hid (hM11.blk RBV.out.drew BL.out.2)
           have W11 := Lib.hid (WV.out.drew.trans' hM11 (fun b hb => .inr (by have := BL.out.1 b hb; omega)))
           have AV11 := Lib.hid (hM11.blk AV.out.drew NAB.out)
           have bc0 := AV11.out.cell (i := 0) rfl
           have bc1 := AV11.out.cell (i := 1) rfl
           have bc2 := AV11.out.cell (i := 2) rfl
           clear hL11 hM11 cc2 ac0 ac1 ac2
           simp only [Ans.val]
           go_wp2_with fail
           refine ⟨M11.out, ?_⟩
           go_wp2_with fail
           refine ⟨by kernel_rfl, ⟨⟨NAB.out, ISA.out⟩, trivial⟩, ?_⟩
           go_wp2_with fail
           go_roundw
           case rel => exact ⟨k + 1, T, s.to (T : Int), nn, m, P, F, by omega, by go_num, rfl, L11.out, KP.out, RingOf.rk (x := s.ring) HG.out rfl, EJ.out.to _, O11.out, by omega, RB11.out, W11.out⟩
           case measure => simp [intOf]; omega
         | false =>
           have LV := Lib.hid (LW.out.mod MV.out (fun b hb hb2 => by simp only [List.mem_singleton] at hb2; subst hb2; exact NAB.out hb) (fun hb2 => by have h1 := HTN.out.2.1; have h2 := HNE.out.2.2.2; simp only [List.mem_singleton] at hb2; omega))
           have OV := Lib.hid (OS.out.mod0 (MW.out.trans' MV.out (fun b hb => .inr (by simp only [List.mem_singleton] at hb; subst hb; exact HAB.out))))
           have RBV := Lib.hid (MV.out.blk RBW.out (by have h := HNE.out.2.1; simp; omega))
           have CCV := Lib.hid (MV.out.blk CCW.out (by have h := HNE.out.2.2.1; simp; omega))
           have GV := Lib.hid (MV.out.blk GW.out (by have h := HNE.out.1; simp; omega))
           have WV := Lib.hid (WW.out.trans' MV.out (fun b hb => .inr (by have h1 := HTN4.out; have h2 := HNE.out.2.2.2; simp only [List.mem_singleton] at hb; omega)))
           have AVV := Lib.hid (show Blk (wW.setCell ⟨ab, 0, none⟩ (.int .i64 2)) ab 39 [.int .i64 2, .int .i64 fz, .int .i64 lz] from AV.out)
           have TK : Hid (∀ W, Blk W gb 62 [.int .i64 z, .int .i64 ((T : Int) - r1), .int .i64 0, .int .i64 0] → Calls Try.prog 26 #[.pointer (some ⟨gb, 0, none⟩), .agg #[.int .i64 r0, .int .i64 r1, .int .i64 r2, .int .i64 r3, .int .i64 r4, .int .i64 r5, .int .i64 r6, .int .i64 r7, .bool r8], .int .i64 (T : Int), .int .i64 (n1 : Int)] W (TookPost gb (⟨r0, r1, r2, r3, r4, r5, r6, r7, r8⟩ : Rule) z (T : Int) (n1 : Int) W)) := Lib.hid (fun W hB => take_old HRO.out (by omega) HZI.out ⟨by have := HCO.out.1; omega, HCO.out.2⟩ hB)
           have RM2 : Hid (∀ u, 0 ≤ u ∧ u ≤ 100 → ∀ W, Calls Try.prog 23 #[.agg #[.int .i64 tk, .int .i64 ((T : Int) - r1), .int .i64 0, .int .i64 u], .agg #[.int .i64 r0, .int .i64 r1, .int .i64 r2, .int .i64 r3, .int .i64 r4, .int .i64 r5, .int .i64 r6, .int .i64 r7, .bool r8], .int .i64 (T : Int)] W fun e w' => e = .returned (.int .i64 fk) ∧ Mod [] W w') := Lib.hid (fun u hu W => by rw [← FKE.out]; exact room_old HRO.out (by omega) HTK.out hu W)
           have hlen := fun ty => OV.out.map.len (mt := 60) Try.underlying60 ty
           by_cases hfull : (m : Int) = r4
           ·have df : decide ((m : Int) = r4) = true := decide_eq_true hfull
            have df' : ((m : Int) == r4) = true := by simp [hfull]
            go_wp2_with fail
            go_ret
            exact ⟨rfl, WV.out⟩
           ·have df : decide ((m : Int) = r4) = false := decide_eq_false hfull
            have df' : ((m : Int) == r4) = false := by simp [hfull]
            have FK : Hid (F key = none → m < c.r.cells.toNat) := Lib.hid (LASTF.out (by have := HRO.out.cells; simp only at this; omega))
            clear hfull
            have hck := CKB.out FK.out
            have ck0 := CK0.out
            have kc := KC0.out
            have hrk := RingOf.rk (x := s.ring) HG.out (rk_check c s (T : Int) 0 key (n1 : Int))
            rcases hq : check c s (T : Int) 0 key (n1 : Int) with ⟨A0, ev, s2⟩
            rw [hq] at hck ck0 kc hrk
            simp only at hck kc hrk
            obtain ⟨hA, hE⟩ := hck
            subst hA
            have CK1 := Lib.hid ck0
            have KC1 := Lib.hid kc
            have EJ2 := Lib.hid hE
            have HG2 := Lib.hid hrk
            obtain ⟨w9', pt, P9, N9⟩ := OV.out.map.put (mt := 60) SKX Try.underlying60 (by have := HNN.out; unfold maxLen; omega) (text_keyX key HKM.out) (.pointer (some ⟨gb, 0, none⟩))
            rw [CNT.out] at P9
            have P9h := Lib.hid P9
            have N9h := Lib.hid N9
            have htg := HTG.out
            have G9 := Lib.hid (N9.blk GV.out (by simp; omega))
            have RB9 := Lib.hid (N9.blk RBV.out (by have := HTN.out.2.2; simp; omega))
            have CC9 := Lib.hid (N9.blk CCV.out (by have := HTBW.out; simp; omega))
            have AV9 := Lib.hid (N9.blk AVV.out (by have := HNE.out.2.2.2; simp; omega))
            have rq0 := RB9.out.cell (i := 0) rfl
            have rq1 := RB9.out.cell (i := 1) rfl
            have rq2 := RB9.out.cell (i := 2) rfl
            have rq3 := RB9.out.cell (i := 3) rfl
            have rq4 := RB9.out.cell (i := 4) rfl
            have rq5 := RB9.out.cell (i := 5) rfl
            have rq6 := RB9.out.cell (i := 6) rfl
            have rq7 := RB9.out.cell (i := 7) rfl
            have rq8 := RB9.out.cell (i := 8) rfl
            clear hq ck0 kc hE hrk P9 N9 htg
            go_wp2_with fail
            refine (TK.out _ G9.out).mono ?_
            rintro e12 w12 ⟨⟨bt, rfl⟩, ⟨u, hu0, hu1, hB12⟩, hM12⟩
            have HU := Lib.hid (show 0 ≤ u ∧ u ≤ 100 by omega)
            have G12 : Hid (Blk w12 gb 62 [.int .i64 tk, .int .i64 ((T : Int) - r1), .int .i64 0, .int .i64 u]) := Lib.hid (by have h := hB12; rw [TKE.out] at h; exact h)
            have M12 := Lib.hid (show Mod [tb, gb] (wW.setCell ⟨ab, 0, none⟩ (.int .i64 2)) w12 from (N9h.out.mono (by simp)).trans (hM12.mono (by simp)))
            have O12 := Lib.hid (OV.out.put KEYC.out HTG.out M12.out (P9h.out.mod hM12 (by have := HTG.out; simp; omega)) G12.out)
            have RB12 := Lib.hid (hM12.blk RB9.out (by have := HTN.out.2.2; have := HTG.out; simp; omega))
            have CC12 := Lib.hid (hM12.blk CC9.out (by have := HGC.out; simp; omega))
            have AV12 := Lib.hid (hM12.blk AV9.out (by have := HNE.out.1; simp; omega))
            have L12 := Lib.hid (LV.out.mod M12.out (fun b hb hb2 => by have h1 := HTN.out.1 b hb; have h2 := HTG.out; simp only [List.mem_cons, List.not_mem_nil, or_false] at hb2; omega) (fun hb2 => by have h1 := HTN.out.2.1; have h2 := HTG.out; simp only [List.mem_cons, List.not_mem_nil, or_false] at hb2; omega))
            have W12 := Lib.hid (WV.out.trans' M12.out (fun b hb => .inr (by have h1 := HTN4.out; have h2 := HTG.out; simp only [List.mem_cons, List.not_mem_nil, or_false] at hb; omega)))
            clear hB12 hM12 hu0 hu1 rq0 rq1 rq2 rq3 rq4 rq5 rq6 rq7 rq8
            have gq0 := G12.out.cell (i := 0) rfl
            have gq1 := G12.out.cell (i := 1) rfl
            have gq2 := G12.out.cell (i := 2) rfl
            have gq3 := G12.out.cell (i := 3) rfl
            have rq0 := RB12.out.cell (i := 0) rfl
            have rq1 := RB12.out.cell (i := 1) rfl
            have rq2 := RB12.out.cell (i := 2) rfl
            have rq3 := RB12.out.cell (i := 3) rfl
            have rq4 := RB12.out.cell (i := 4) rfl
            have rq5 := RB12.out.cell (i := 5) rfl
            have rq6 := RB12.out.cell (i := 6) rfl
            have rq7 := RB12.out.cell (i := 7) rfl
            have rq8 := RB12.out.cell (i := 8) rfl
            go_wp2_with fail
            refine Go.YtndekdafiaogmaaLex.wp_region_lex (by kernel_rfl) (by kernel_rfl) ?_
            go_wp2_with fail
            refine (RM2.out u HU.out _).mono ?_
            rintro e13 w13 ⟨rfl, hM13⟩
            have M13 := Lib.hid ((Mod.refl [] w12).drew.trans hM13)
            have AV13 := Lib.hid (M13.out.blk AV12.out (by simp))
            have CC13 := Lib.hid (M13.out.blk CC12.out (by simp))
            have MS13 := Lib.hid ((Mod.refl [ab] w13).setCell (p := ⟨ab, 1, none⟩) (.inl (by simp)) (.int .i64 fk))
            have AV14 := Lib.hid (AV13.out.set 1 (.int .i64 fk))
            have a131 := AV13.out.cell (i := 1) rfl
            have f131 := AV13.out.free 1
            have q2 := CC13.out.cell (i := 2) rfl
            have L13 := Lib.hid ((L12.out.mod0 M13.out).mod MS13.out (fun b hb hb2 => by simp only [List.mem_singleton] at hb2; subst hb2; exact NAB.out hb) (fun hb2 => by have h1 := HTN.out.2.1; have h2 := HNE.out.2.2.2; simp only [List.mem_singleton] at hb2; omega))
            clear hM13 gq0 gq1 gq2 gq3 rq0 rq1 rq2 rq3 rq4 rq5 rq6 rq7 rq8
            go_wp2_with fail
            refine ⟨by kernel_rfl, ?_⟩
            go_wp2_with fail
            refine (CK1.out _ L13.out).mono ?_
            rintro e15 w15 ⟨v15, rfl, hO15, hL15, hM15⟩
            obtain ⟨a7, c7, rfl⟩ := hO15.slice
            have OB := Lib.hid ((O12.out.mod0 M13.out).blkX (T := 39) (by decide) AV13.out HNE.out.2.2.2 MS13.out)
            have L15 := Lib.hid hL15
            have AV15 := Lib.hid (hM15.blk AV14.out NAB.out)
            have RB15 := Lib.hid (hM15.blk (MS13.out.blk (M13.out.blk RB12.out (by simp)) (by have := HNE.out.2.1; simp; omega)) BL.out.2)
            have O15 := Lib.hid (OB.out.mod hM15 (fun b hb => .inl (HTN.out.1 b hb)))
            have W15 := Lib.hid (((W12.out.trans M13.out).trans' MS13.out (fun b hb => .inr (by have h1 := HTN4.out; have h2 := HNE.out.2.2.2; simp only [List.mem_singleton] at hb; omega))).trans' hM15 (fun b hb => .inr (by have := BL.out.1 b hb; omega)))
            have bq0 := AV15.out.cell (i := 0) rfl
            have bq1 := AV15.out.cell (i := 1) rfl
            have bq2 := AV15.out.cell (i := 2) rfl
            have lab : ab < w15.heap.size := AV15.out.lt
            have lab' : ¬ ab = w15.heap.size := by omega
            have HNK := Lib.hid (show nn + 1 ≤ k + 1 ∧ (if (F key).isSome then m else m + 1) ≤ k + 1 from by have := HNN.out; split <;> omega)
            clear hO15 hL15 hM15 a131 f131 q2
            simp only [Ans.val]
            go_wp2_with fail
            go_roundw
            case rel => exact ⟨k + 1, T, s2, nn + 1, _, _, _, by omega, by go_num, rfl, L15.out.mod0 ((Mod.refl [] _).alloc _), KC1.out, HG2.out, EJ2.out, O15.out.mod0 ((Mod.refl [] _).alloc _), HNK.out, RB15.out.alloc _, W15.out.alloc _⟩
            case measure => simp [intOf]; omega
        ·have dz : decide (0 < lz) = false := decide_eq_false hlz0
         have hav : ansV fz lz = ⟨1, fz, lz⟩ := by unfold ansV; rw [if_neg hlz0]
         have hav2 : ansV fk lz = ⟨1, fk, lz⟩ := by unfold ansV; rw [if_neg hlz0]
         have PK2 := PK.out
         rw [hav] at PK2
         have PK3 := Lib.hid PK2
         have CKA2 := CKA.out
         rw [hav2] at CKA2
         have CKB := Lib.hid CKA2
         clear PK2 CKA2 hav hav2 hlz0
         have MV := Lib.hid (Mod.refl [ab] wW)
         have AV := Lib.hid (show Blk wW ab 39 [.int .i64 1, .int .i64 fz, .int .i64 lz] from AB.out)
         have cc2 := CCW.out.cell (i := 2) rfl
         have cc3 := CCW.out.cell (i := 3) rfl
         have rw4 := RBW.out.cell (i := 4) rfl
         have ac0 := AB.out.cell (i := 0) rfl
         have ac1 := AB.out.cell (i := 1) rfl
         have ac2 := AB.out.cell (i := 2) rfl
         have af0 := AB.out.free 0
         obtain ⟨hne1, hne2, hne3, hne4⟩ := HNE.out
         have hne3' : ¬ wr.heap.size = ab := fun h => hne3 h.symm
         have hne2' : ¬ w3.heap.size = ab := fun h => hne2 h.symm
         cases pk with
         | true =>
           go_wp2_with fail
           obtain ⟨wV, hwV⟩ : ∃ wV, wW = wV := ⟨_, rfl⟩
           have MV : Hid (Mod [ab] wW wV) := Lib.hid (by rw [← hwV]; exact MV.out)
           have AV : Hid (Blk wV ab 39 [.int .i64 1, .int .i64 fz, .int .i64 lz]) := Lib.hid (by rw [← hwV]; exact AV.out)
           rw [hwV]
           have LV := Lib.hid (LW.out.mod MV.out (fun b hb hb2 => by simp only [List.mem_singleton] at hb2; subst hb2; exact NAB.out hb) (fun hb2 => by have h1 := HTN.out.2.1; have h2 := HNE.out.2.2.2; simp only [List.mem_singleton] at hb2; omega))
           have OV := Lib.hid (OS.out.mod0 (MW.out.trans' MV.out (fun b hb => .inr (by simp only [List.mem_singleton] at hb; subst hb; exact HAB.out))))
           have RBV := Lib.hid (MV.out.blk RBW.out (by have h := HNE.out.2.1; simp; omega))
           have CCV := Lib.hid (MV.out.blk CCW.out (by have h := HNE.out.2.2.1; simp; omega))
           have GV := Lib.hid (MV.out.blk GW.out (by have h := HNE.out.1; simp; omega))
           have WV := Lib.hid (WW.out.trans' MV.out (fun b hb => .inr (by have h1 := HTN4.out; have h2 := HNE.out.2.2.2; simp only [List.mem_singleton] at hb; omega)))
           clear cc2 cc3 rw4 ac0 ac1 ac2 af0 hne1 hne2 hne3 hne4 hne3' hne2' hwV
           have cc2 := CCV.out.cell (i := 2) rfl
           have ac0 := AV.out.cell (i := 0) rfl
           have ac1 := AV.out.cell (i := 1) rfl
           have ac2 := AV.out.cell (i := 2) rfl
           have ISA := Lib.hid (isC_of_blk AV.out.drew)
           refine Go.YtndekdafiaogmaaLex.wp_region_held [6] [6] B.all (by kernel_rfl) (by kernel_rfl) ?_
           simp only [wpCut, List.take_succ_cons, List.take_zero, List.drop_succ_cons, List.drop_zero, List.cons_append, List.nil_append]
           go_wp2_with fail
           refine (PK3.out _ (LV.out.mod0 (Mod.refl [] _).drew)).mono ?_
           rintro e11 w11 ⟨rfl, hL11, hM11⟩
           have L11 := Lib.hid hL11
           have M11 := Lib.hid hM11
           have O11 := Lib.hid ((OV.out.mod0 (Mod.refl [] _).drew).mod hM11 (fun b hb => .inl (HTN.out.1 b hb)))
           have RB11 := Lib.hid (hM11.blk RBV.out.drew BL.out.2)
           have W11 := Lib.hid (WV.out.drew.trans' hM11 (fun b hb => .inr (by have := BL.out.1 b hb; omega)))
           have AV11 := Lib.hid (hM11.blk AV.out.drew NAB.out)
           have bc0 := AV11.out.cell (i := 0) rfl
           have bc1 := AV11.out.cell (i := 1) rfl
           have bc2 := AV11.out.cell (i := 2) rfl
           clear hL11 hM11 cc2 ac0 ac1 ac2
           simp only [Ans.val]
           go_wp2_with fail
           refine ⟨M11.out, ?_⟩
           go_wp2_with fail
           refine ⟨by kernel_rfl, ⟨⟨NAB.out, ISA.out⟩, trivial⟩, ?_⟩
           go_wp2_with fail
           go_roundw
           case rel => exact ⟨k + 1, T, s.to (T : Int), nn, m, P, F, by omega, by go_num, rfl, L11.out, KP.out, RingOf.rk (x := s.ring) HG.out rfl, EJ.out.to _, O11.out, by omega, RB11.out, W11.out⟩
           case measure => simp [intOf]; omega
         | false =>
           have LV := Lib.hid (LW.out.mod MV.out (fun b hb hb2 => by simp only [List.mem_singleton] at hb2; subst hb2; exact NAB.out hb) (fun hb2 => by have h1 := HTN.out.2.1; have h2 := HNE.out.2.2.2; simp only [List.mem_singleton] at hb2; omega))
           have OV := Lib.hid (OS.out.mod0 (MW.out.trans' MV.out (fun b hb => .inr (by simp only [List.mem_singleton] at hb; subst hb; exact HAB.out))))
           have RBV := Lib.hid (MV.out.blk RBW.out (by have h := HNE.out.2.1; simp; omega))
           have CCV := Lib.hid (MV.out.blk CCW.out (by have h := HNE.out.2.2.1; simp; omega))
           have GV := Lib.hid (MV.out.blk GW.out (by have h := HNE.out.1; simp; omega))
           have WV := Lib.hid (WW.out.trans' MV.out (fun b hb => .inr (by have h1 := HTN4.out; have h2 := HNE.out.2.2.2; simp only [List.mem_singleton] at hb; omega)))
           have AVV := Lib.hid (show Blk wW ab 39 [.int .i64 1, .int .i64 fz, .int .i64 lz] from AV.out)
           have TK : Hid (∀ W, Blk W gb 62 [.int .i64 z, .int .i64 ((T : Int) - r1), .int .i64 0, .int .i64 0] → Calls Try.prog 26 #[.pointer (some ⟨gb, 0, none⟩), .agg #[.int .i64 r0, .int .i64 r1, .int .i64 r2, .int .i64 r3, .int .i64 r4, .int .i64 r5, .int .i64 r6, .int .i64 r7, .bool r8], .int .i64 (T : Int), .int .i64 (n1 : Int)] W (TookPost gb (⟨r0, r1, r2, r3, r4, r5, r6, r7, r8⟩ : Rule) z (T : Int) (n1 : Int) W)) := Lib.hid (fun W hB => take_old HRO.out (by omega) HZI.out ⟨by have := HCO.out.1; omega, HCO.out.2⟩ hB)
           have RM2 : Hid (∀ u, 0 ≤ u ∧ u ≤ 100 → ∀ W, Calls Try.prog 23 #[.agg #[.int .i64 tk, .int .i64 ((T : Int) - r1), .int .i64 0, .int .i64 u], .agg #[.int .i64 r0, .int .i64 r1, .int .i64 r2, .int .i64 r3, .int .i64 r4, .int .i64 r5, .int .i64 r6, .int .i64 r7, .bool r8], .int .i64 (T : Int)] W fun e w' => e = .returned (.int .i64 fk) ∧ Mod [] W w') := Lib.hid (fun u hu W => by rw [← FKE.out]; exact room_old HRO.out (by omega) HTK.out hu W)
           have hlen := fun ty => OV.out.map.len (mt := 60) Try.underlying60 ty
           by_cases hfull : (m : Int) = r4
           ·have df : decide ((m : Int) = r4) = true := decide_eq_true hfull
            have df' : ((m : Int) == r4) = true := by simp [hfull]
            go_wp2_with fail
            go_ret
            exact ⟨rfl, WV.out⟩
           ·have df : decide ((m : Int) = r4) = false := decide_eq_false hfull
            have df' : ((m : Int) == r4) = false := by simp [hfull]
            have FK : Hid (F key = none → m < c.r.cells.toNat) := Lib.hid (LASTF.out (by have := HRO.out.cells; simp only at this; omega))
            clear hfull
            have hck := CKB.out FK.out
            have ck0 := CK0.out
            have kc := KC0.out
            have hrk := RingOf.rk (x := s.ring) HG.out (rk_check c s (T : Int) 0 key (n1 : Int))
            rcases hq : check c s (T : Int) 0 key (n1 : Int) with ⟨A0, ev, s2⟩
            rw [hq] at hck ck0 kc hrk
            simp only at hck kc hrk
            obtain ⟨hA, hE⟩ := hck
            subst hA
            have CK1 := Lib.hid ck0
            have KC1 := Lib.hid kc
            have EJ2 := Lib.hid hE
            have HG2 := Lib.hid hrk
            obtain ⟨w9', pt, P9, N9⟩ := OV.out.map.put (mt := 60) SKX Try.underlying60 (by have := HNN.out; unfold maxLen; omega) (text_keyX key HKM.out) (.pointer (some ⟨gb, 0, none⟩))
            rw [CNT.out] at P9
            have P9h := Lib.hid P9
            have N9h := Lib.hid N9
            have htg := HTG.out
            have G9 := Lib.hid (N9.blk GV.out (by simp; omega))
            have RB9 := Lib.hid (N9.blk RBV.out (by have := HTN.out.2.2; simp; omega))
            have CC9 := Lib.hid (N9.blk CCV.out (by have := HTBW.out; simp; omega))
            have AV9 := Lib.hid (N9.blk AVV.out (by have := HNE.out.2.2.2; simp; omega))
            have rq0 := RB9.out.cell (i := 0) rfl
            have rq1 := RB9.out.cell (i := 1) rfl
            have rq2 := RB9.out.cell (i := 2) rfl
            have rq3 := RB9.out.cell (i := 3) rfl
            have rq4 := RB9.out.cell (i := 4) rfl
            have rq5 := RB9.out.cell (i := 5) rfl
            have rq6 := RB9.out.cell (i := 6) rfl
            have rq7 := RB9.out.cell (i := 7) rfl
            have rq8 := RB9.out.cell (i := 8) rfl
            clear hq ck0 kc hE hrk P9 N9 htg
            go_wp2_with fail
            refine (TK.out _ G9.out).mono ?_
            rintro e12 w12 ⟨⟨bt, rfl⟩, ⟨u, hu0, hu1, hB12⟩, hM12⟩
            have HU := Lib.hid (show 0 ≤ u ∧ u ≤ 100 by omega)
            have G12 : Hid (Blk w12 gb 62 [.int .i64 tk, .int .i64 ((T : Int) - r1), .int .i64 0, .int .i64 u]) := Lib.hid (by have h := hB12; rw [TKE.out] at h; exact h)
            have M12 := Lib.hid (show Mod [tb, gb] wW w12 from (N9h.out.mono (by simp)).trans (hM12.mono (by simp)))
            have O12 := Lib.hid (OV.out.put KEYC.out HTG.out M12.out (P9h.out.mod hM12 (by have := HTG.out; simp; omega)) G12.out)
            have RB12 := Lib.hid (hM12.blk RB9.out (by have := HTN.out.2.2; have := HTG.out; simp; omega))
            have CC12 := Lib.hid (hM12.blk CC9.out (by have := HGC.out; simp; omega))
            have AV12 := Lib.hid (hM12.blk AV9.out (by have := HNE.out.1; simp; omega))
            have L12 := Lib.hid (LV.out.mod M12.out (fun b hb hb2 => by have h1 := HTN.out.1 b hb; have h2 := HTG.out; simp only [List.mem_cons, List.not_mem_nil, or_false] at hb2; omega) (fun hb2 => by have h1 := HTN.out.2.1; have h2 := HTG.out; simp only [List.mem_cons, List.not_mem_nil, or_false] at hb2; omega))
            have W12 := Lib.hid (WV.out.trans' M12.out (fun b hb => .inr (by have h1 := HTN4.out; have h2 := HTG.out; simp only [List.mem_cons, List.not_mem_nil, or_false] at hb; omega)))
            clear hB12 hM12 hu0 hu1 rq0 rq1 rq2 rq3 rq4 rq5 rq6 rq7 rq8
            have gq0 := G12.out.cell (i := 0) rfl
            have gq1 := G12.out.cell (i := 1) rfl
            have gq2 := G12.out.cell (i := 2) rfl
            have gq3 := G12.out.cell (i := 3) rfl
            have rq0 := RB12.out.cell (i := 0) rfl
            have rq1 := RB12.out.cell (i := 1) rfl
            have rq2 := RB12.out.cell (i := 2) rfl
            have rq3 := RB12.out.cell (i := 3) rfl
            have rq4 := RB12.out.cell (i := 4) rfl
            have rq5 := RB12.out.cell (i := 5) rfl
            have rq6 := RB12.out.cell (i := 6) rfl
            have rq7 := RB12.out.cell (i := 7) rfl
            have rq8 := RB12.out.cell (i := 8) rfl
            go_wp2_with fail
            refine Go.YtndekdafiaogmaaLex.wp_region_lex (by kernel_rfl) (by kernel_rfl) ?_
            go_wp2_with fail
            refine (RM2.out u HU.out _).mono ?_
            rintro e13 w13 ⟨rfl, hM13⟩
            have M13 := Lib.hid ((Mod.refl [] w12).drew.trans hM13)
            have AV13 := Lib.hid (M13.out.blk AV12.out (by simp))
            have CC13 := Lib.hid (M13.out.blk CC12.out (by simp))
            have MS13 := Lib.hid ((Mod.refl [ab] w13).setCell (p := ⟨ab, 1, none⟩) (.inl (by simp)) (.int .i64 fk))
            have AV14 := Lib.hid (AV13.out.set 1 (.int .i64 fk))
            have a131 := AV13.out.cell (i := 1) rfl
            have f131 := AV13.out.free 1
            have q2 := CC13.out.cell (i := 2) rfl
            have L13 := Lib.hid ((L12.out.mod0 M13.out).mod MS13.out (fun b hb hb2 => by simp only [List.mem_singleton] at hb2; subst hb2; exact NAB.out hb) (fun hb2 => by have h1 := HTN.out.2.1; have h2 := HNE.out.2.2.2; simp only [List.mem_singleton] at hb2; omega))
            clear hM13 gq0 gq1 gq2 gq3 rq0 rq1 rq2 rq3 rq4 rq5 rq6 rq7 rq8
            go_wp2_with fail
            refine ⟨by kernel_rfl, ?_⟩
            go_wp2_with fail
            refine (CK1.out _ L13.out).mono ?_
            rintro e15 w15 ⟨v15, rfl, hO15, hL15, hM15⟩
            obtain ⟨a7, c7, rfl⟩ := hO15.slice
            have OB := Lib.hid ((O12.out.mod0 M13.out).blkX (T := 39) (by decide) AV13.out HNE.out.2.2.2 MS13.out)
            have L15 := Lib.hid hL15
            have AV15 := Lib.hid (hM15.blk AV14.out NAB.out)
            have RB15 := Lib.hid (hM15.blk (MS13.out.blk (M13.out.blk RB12.out (by simp)) (by have := HNE.out.2.1; simp; omega)) BL.out.2)
            have O15 := Lib.hid (OB.out.mod hM15 (fun b hb => .inl (HTN.out.1 b hb)))
            have W15 := Lib.hid (((W12.out.trans M13.out).trans' MS13.out (fun b hb => .inr (by have h1 := HTN4.out; have h2 := HNE.out.2.2.2; simp only [List.mem_singleton] at hb; omega))).trans' hM15 (fun b hb => .inr (by have := BL.out.1 b hb; omega)))
            have bq0 := AV15.out.cell (i := 0) rfl
            have bq1 := AV15.out.cell (i := 1) rfl
            have bq2 := AV15.out.cell (i := 2) rfl
            have lab : ab < w15.heap.size := AV15.out.lt
            have lab' : ¬ ab = w15.heap.size := by omega
            have HNK := Lib.hid (show nn + 1 ≤ k + 1 ∧ (if (F key).isSome then m else m + 1) ≤ k + 1 from by have := HNN.out; split <;> omega)
            clear hO15 hL15 hM15 a131 f131 q2
            simp only [Ans.val]
            go_wp2_with fail
            go_roundw
            case rel => exact ⟨k + 1, T, s2, nn + 1, _, _, _, by omega, by go_num, rfl, L15.out.mod0 ((Mod.refl [] _).alloc _), KC1.out, HG2.out, EJ2.out, O15.out.mod0 ((Mod.refl [] _).alloc _), HNK.out, RB15.out.alloc _, W15.out.alloc _⟩
            case measure => simp [intOf]; omega
       ·rcases before_or 14 12 S with q1 | q1
        ·refine ⟨[(5, 14), (14, 12)], by decide, fun p hp => by simp only [List.mem_cons, List.not_mem_nil, or_false] at hp; rcases hp with rfl | rfl <;> assumption, held_perm [0, 1, 2, 3, 4, 6, 7, 8, 9, 10, 11, 5, 14, 12, 13, 15] [12] [7, 8] [] (by kernel_rfl) (by kernel_rfl) ?_⟩
         simp only [wpCut, edges, edge, perm, reOper, reGuard, List.getElem?_cons_succ, List.getElem?_cons_zero, List.take_succ_cons, List.take_zero, List.drop_succ_cons, List.drop_zero, List.cons_append, List.nil_append]
         go_wp2_with fail
         refine (RM.out _).mono ?_
         rintro e8 w8 ⟨rfl, hM8⟩
         have MC8 := Lib.hid ((Mod.refl [] wS).drew.trans hM8)
         have HM8 := Lib.hid hM8
         clear hM8
         go_wp2_with fail
         refine ⟨((Mod.refl [] wS.drew).trans HM8.out), ?_⟩
         go_wp2_with fail
         refine (WT.out _).mono ?_
         rintro e9 w9 ⟨rfl, hM9⟩
         have HM9 := Lib.hid hM9
         have MC9 := Lib.hid ((MC8.out.alloc (.cells #[.int .i64 0, .int .i64 0, .int .i64 0] 39)).trans hM9)
         have NB9 := Lib.hid (hM9.blk (Blk.new w8 [.int .i64 0, .int .i64 0, .int .i64 0] 39) (by simp))
         have nb0 := NB9.out.cell (i := 0) rfl
         have nb1 := NB9.out.cell (i := 1) rfl
         have nb2 := NB9.out.cell (i := 2) rfl
         have nf0 := NB9.out.free 0
         have nf1 := NB9.out.free 1
         have nf2 := NB9.out.free 2
         clear hM9
         go_wp2_with fail
         refine ⟨by kernel_rfl, ⟨⟨by simp, ISG.out⟩, ⟨by simp, ISR.out⟩, trivial⟩, ?_⟩
         have HAB := Lib.hid (show wS.heap.size ≤ w8.heap.size from MC8.out.size)
         have MW := Lib.hid (MC9.out.trans' ((((Mod.refl [w8.heap.size] w9).setCell (p := ⟨w8.heap.size, 0, none⟩) (.inl (by simp)) (.int .i64 1)).setCell (p := ⟨w8.heap.size, 1, none⟩) (.inl (by simp)) (.int .i64 fz)).setCell (p := ⟨w8.heap.size, 2, none⟩) (.inl (by simp)) (.int .i64 lz)) (fun b hb => .inr (by simp only [List.mem_singleton] at hb; have := HAB.out; omega)))
         have AB := Lib.hid (show Blk (((w9.setCell ⟨w8.heap.size, 0, none⟩ (.int .i64 1)).setCell ⟨w8.heap.size, 1, none⟩ (.int .i64 fz)).setCell ⟨w8.heap.size, 2, none⟩ (.int .i64 lz)) w8.heap.size 39 [.int .i64 1, .int .i64 fz, .int .i64 lz] from ((NB9.out.set 0 _).set 1 _).set 2 _)
         skip
         obtain ⟨wW, hwW⟩ : ∃ wW, (((w9.setCell ⟨w8.heap.size, 0, none⟩ (.int .i64 1)).setCell ⟨w8.heap.size, 1, none⟩ (.int .i64 fz)).setCell ⟨w8.heap.size, 2, none⟩ (.int .i64 lz)) = wW := ⟨_, rfl⟩
         rw [hwW] at MW AB ⊢
         obtain ⟨ab, hab⟩ : ∃ ab, w8.heap.size = ab := ⟨_, rfl⟩
         rw [hab] at AB ⊢
         have HAB := Lib.hid (show wS.heap.size ≤ ab from by have := HAB.out; omega)
         clear hwW hab ltG ltG' ltR ltR' gz0 gz1 gz2 gz3 rz0 rz1 rz2 rz3 rz4 rz5 rz6 rz7 rz8 nb0 nb1 nb2 nf0 nf1 nf2
         have LW := Lib.hid (LS.out.mod0 MW.out)
         have OW := Lib.hid (OS.out.mod0 MW.out)
         have RBW := Lib.hid (MW.out.blk RBS.out (by simp))
         have CCW := Lib.hid (MW.out.blk CCS.out (by simp))
         have GW := Lib.hid (MW.out.blk GS.out (by simp))
         have WW := Lib.hid (WS.out.trans MW.out)
         have NAB := Lib.hid (show ab ∉ B.all from fun hb => by have := LS.out.lt _ hb; have := HAB.out; omega)
         have HNE := Lib.hid (show ab ≠ gb ∧ ab ≠ w3.heap.size ∧ ab ≠ wr.heap.size ∧ tb < ab from by have h1 := GS.out.lt; have h2 := RBS.out.lt; have h3 := HLC.out; have h4 := HAB.out; have h5 := HTG.out; omega)
         by_cases hlz0 : 0 < lz
         ·have dz : decide (0 < lz) = true := decide_eq_true hlz0
          have hav : ansV fz lz = ⟨2, fz, lz⟩ := by unfold ansV; rw [if_pos hlz0]
          have hav2 : ansV fk lz = ⟨2, fk, lz⟩ := by unfold ansV; rw [if_pos hlz0]
          have PK2 := PK.out
          rw [hav] at PK2
          have PK3 := Lib.hid PK2
          have CKA2 := CKA.out
          rw [hav2] at CKA2
          have CKB := Lib.hid CKA2
          clear PK2 CKA2 hav hav2 hlz0
          have MV := Lib.hid ((Mod.refl [ab] wW).setCell (p := ⟨ab, 0, none⟩) (.inl (by simp)) (.int .i64 2))
          have AV := Lib.hid (show Blk (wW.setCell ⟨ab, 0, none⟩ (.int .i64 2)) ab 39 [.int .i64 2, .int .i64 fz, .int .i64 lz] from AB.out.set 0 _)
          have cc2 := CCW.out.cell (i := 2) rfl
          have cc3 := CCW.out.cell (i := 3) rfl
          have rw4 := RBW.out.cell (i := 4) rfl
          have ac0 := AB.out.cell (i := 0) rfl
          have ac1 := AB.out.cell (i := 1) rfl
          have ac2 := AB.out.cell (i := 2) rfl
          have af0 := AB.out.free 0
          obtain ⟨hne1, hne2, hne3, hne4⟩ := HNE.out
          have hne3' : ¬ wr.heap.size = ab := fun h => hne3 h.symm
          have hne2' : ¬ w3.heap.size = ab := fun h => hne2 h.symm
          cases pk with
          | true =>
            go_wp2_with fail
            obtain ⟨wV, hwV⟩ : ∃ wV, (wW.setCell ⟨ab, 0, none⟩ (.int .i64 2)) = wV := ⟨_, rfl⟩
            rw [hwV] at MV AV ⊢
            have LV := Lib.hid (LW.out.mod MV.out (fun b hb hb2 => by simp only [List.mem_singleton] at hb2; subst hb2; exact NAB.out hb) (fun hb2 => by have h1 := HTN.out.2.1; have h2 := HNE.out.2.2.2; simp only [List.mem_singleton] at hb2; omega))
            have OV := Lib.hid (OS.out.mod0 (MW.out.trans' MV.out (fun b hb => .inr (by simp only [List.mem_singleton] at hb; subst hb; exact HAB.out))))
            have RBV := Lib.hid (MV.out.blk RBW.out (by have h := HNE.out.2.1; simp; omega))
            have CCV := Lib.hid (MV.out.blk CCW.out (by have h := HNE.out.2.2.1; simp; omega))
            have GV := Lib.hid (MV.out.blk GW.out (by have h := HNE.out.1; simp; omega))
            have WV := Lib.hid (WW.out.trans' MV.out (fun b hb => .inr (by have h1 := HTN4.out; have h2 := HNE.out.2.2.2; simp only [List.mem_singleton] at hb; omega)))
            clear cc2 cc3 rw4 ac0 ac1 ac2 af0 hne1 hne2 hne3 hne4 hne3' hne2' hwV
            have cc2 := CCV.out.cell (i := 2) rfl
            have ac0 := AV.out.cell (i := 0) rfl
            have ac1 := AV.out.cell (i := 1) rfl
            have ac2 := AV.out.cell (i := 2) rfl
            have ISA := Lib.hid (isC_of_blk AV.out.drew)
            refine Go.YtndekdafiaogmaaLex.wp_region_held [6] [6] B.all (by kernel_rfl) (by kernel_rfl) ?_
            simp only [wpCut, List.take_succ_cons, List.take_zero, List.drop_succ_cons, List.drop_zero, List.cons_append, List.nil_append]
            go_wp2_with fail
            refine (PK3.out _ (LV.out.mod0 (Mod.refl [] _).drew)).mono ?_
            rintro e11 w11 ⟨rfl, hL11, hM11⟩
            have L11 := Lib.hid hL11
            have M11 := Lib.hid hM11
            have O11 := Lib.hid ((OV.out.mod0 (Mod.refl [] _).drew).mod hM11 (fun b hb => .inl (HTN.out.1 b hb)))
            have RB11 := Lib.hid (hM11.blk RBV.out.drew BL.out.2)
            have W11 := Lib.hid (WV.out.drew.trans' hM11 (fun b hb => .inr (by have := BL.out.1 b hb; omega)))
            have AV11 := Lib.hid (hM11.blk AV.out.drew NAB.out)
            have bc0 := AV11.out.cell (i := 0) rfl
            have bc1 := AV11.out.cell (i := 1) rfl
            have bc2 := AV11.out.cell (i := 2) rfl
            clear hL11 hM11 cc2 ac0 ac1 ac2
            simp only [Ans.val]
            go_wp2_with fail
            refine ⟨M11.out, ?_⟩
            go_wp2_with fail
            refine ⟨by kernel_rfl, ⟨⟨NAB.out, ISA.out⟩, trivial⟩, ?_⟩
            go_wp2_with fail
            go_roundw
            case rel => exact ⟨k + 1, T, s.to (T : Int), nn, m, P, F, by omega, by go_num, rfl, L11.out, KP.out, RingOf.rk (x := s.ring) HG.out rfl, EJ.out.to _, O11.out, by omega, RB11.out, W11.out⟩
            case measure => simp [intOf]; omega
          | false =>
            have LV := Lib.hid (LW.out.mod MV.out (fun b hb hb2 => by simp only [List.mem_singleton] at hb2; subst hb2; exact NAB.out hb) (fun hb2 => by have h1 := HTN.out.2.1; have h2 := HNE.out.2.2.2; simp only [List.mem_singleton] at hb2; omega))
            have OV := Lib.hid (OS.out.mod0 (MW.out.trans' MV.out (fun b hb => .inr (by simp only [List.mem_singleton] at hb; subst hb; exact HAB.out))))
            have RBV := Lib.hid (MV.out.blk RBW.out (by have h := HNE.out.2.1; simp; omega))
            have CCV := Lib.hid (MV.out.blk CCW.out (by have h := HNE.out.2.2.1; simp; omega))
            have GV := Lib.hid (MV.out.blk GW.out (by have h := HNE.out.1; simp; omega))
            have WV := Lib.hid (WW.out.trans' MV.out (fun b hb => .inr (by have h1 := HTN4.out; have h2 := HNE.out.2.2.2; simp only [List.mem_singleton] at hb; omega)))
            have AVV := Lib.hid (show Blk (wW.setCell ⟨ab, 0, none⟩ (.int .i64 2)) ab 39 [.int .i64 2, .int .i64 fz, .int .i64 lz] from AV.out)
            have TK : Hid (∀ W, Blk W gb 62 [.int .i64 z, .int .i64 ((T : Int) - r1), .int .i64 0, .int .i64 0] → Calls Try.prog 26 #[.pointer (some ⟨gb, 0, none⟩), .agg #[.int .i64 r0, .int .i64 r1, .int .i64 r2, .int .i64 r3, .int .i64 r4, .int .i64 r5, .int .i64 r6, .int .i64 r7, .bool r8], .int .i64 (T : Int), .int .i64 (n1 : Int)] W (TookPost gb (⟨r0, r1, r2, r3, r4, r5, r6, r7, r8⟩ : Rule) z (T : Int) (n1 : Int) W)) := Lib.hid (fun W hB => take_old HRO.out (by omega) HZI.out ⟨by have := HCO.out.1; omega, HCO.out.2⟩ hB)
            have RM2 : Hid (∀ u, 0 ≤ u ∧ u ≤ 100 → ∀ W, Calls Try.prog 23 #[.agg #[.int .i64 tk, .int .i64 ((T : Int) - r1), .int .i64 0, .int .i64 u], .agg #[.int .i64 r0, .int .i64 r1, .int .i64 r2, .int .i64 r3, .int .i64 r4, .int .i64 r5, .int .i64 r6, .int .i64 r7, .bool r8], .int .i64 (T : Int)] W fun e w' => e = .returned (.int .i64 fk) ∧ Mod [] W w') := Lib.hid (fun u hu W => by rw [← FKE.out]; exact room_old HRO.out (by omega) HTK.out hu W)
            have hlen := fun ty => OV.out.map.len (mt := 60) Try.underlying60 ty
            by_cases hfull : (m : Int) = r4
            ·have df : decide ((m : Int) = r4) = true := decide_eq_true hfull
             have df' : ((m : Int) == r4) = true := by simp [hfull]
             go_wp2_with fail
             go_ret
             exact ⟨rfl, WV.out⟩
            ·have df : decide ((m : Int) = r4) = false := decide_eq_false hfull
             have df' : ((m : Int) == r4) = false := by simp [hfull]
             have FK : Hid (F key = none → m < c.r.cells.toNat) := Lib.hid (LASTF.out (by have := HRO.out.cells; simp only at this; omega))
             clear hfull
             have hck := CKB.out FK.out
             have ck0 := CK0.out
             have kc := KC0.out
             have hrk := RingOf.rk (x := s.ring) HG.out (rk_check c s (T : Int) 0 key (n1 : Int))
             rcases hq : check c s (T : Int) 0 key (n1 : Int) with ⟨A0, ev, s2⟩
             rw [hq] at hck ck0 kc hrk
             simp only at hck kc hrk
             obtain ⟨hA, hE⟩ := hck
             subst hA
             have CK1 := Lib.hid ck0
             have KC1 := Lib.hid kc
             have EJ2 := Lib.hid hE
             have HG2 := Lib.hid hrk
             obtain ⟨w9', pt, P9, N9⟩ := OV.out.map.put (mt := 60) SKX Try.underlying60 (by have := HNN.out; unfold maxLen; omega) (text_keyX key HKM.out) (.pointer (some ⟨gb, 0, none⟩))
             rw [CNT.out] at P9
             have P9h := Lib.hid P9
             have N9h := Lib.hid N9
             have htg := HTG.out
             have G9 := Lib.hid (N9.blk GV.out (by simp; omega))
             have RB9 := Lib.hid (N9.blk RBV.out (by have := HTN.out.2.2; simp; omega))
             have CC9 := Lib.hid (N9.blk CCV.out (by have := HTBW.out; simp; omega))
             have AV9 := Lib.hid (N9.blk AVV.out (by have := HNE.out.2.2.2; simp; omega))
             have rq0 := RB9.out.cell (i := 0) rfl
             have rq1 := RB9.out.cell (i := 1) rfl
             have rq2 := RB9.out.cell (i := 2) rfl
             have rq3 := RB9.out.cell (i := 3) rfl
             have rq4 := RB9.out.cell (i := 4) rfl
             have rq5 := RB9.out.cell (i := 5) rfl
             have rq6 := RB9.out.cell (i := 6) rfl
             have rq7 := RB9.out.cell (i := 7) rfl
             have rq8 := RB9.out.cell (i := 8) rfl
             clear hq ck0 kc hE hrk P9 N9 htg
             go_wp2_with fail
             refine (TK.out _ G9.out).mono ?_
             rintro e12 w12 ⟨⟨bt, rfl⟩, ⟨u, hu0, hu1, hB12⟩, hM12⟩
             have HU := Lib.hid (show 0 ≤ u ∧ u ≤ 100 by omega)
             have G12 : Hid (Blk w12 gb 62 [.int .i64 tk, .int .i64 ((T : Int) - r1), .int .i64 0, .int .i64 u]) := Lib.hid (by have h := hB12; rw [TKE.out] at h; exact h)
             have M12 := Lib.hid (show Mod [tb, gb] (wW.setCell ⟨ab, 0, none⟩ (.int .i64 2)) w12 from (N9h.out.mono (by simp)).trans (hM12.mono (by simp)))
             have O12 := Lib.hid (OV.out.put KEYC.out HTG.out M12.out (P9h.out.mod hM12 (by have := HTG.out; simp; omega)) G12.out)
             have RB12 := Lib.hid (hM12.blk RB9.out (by have := HTN.out.2.2; have := HTG.out; simp; omega))
             have CC12 := Lib.hid (hM12.blk CC9.out (by have := HGC.out; simp; omega))
             have AV12 := Lib.hid (hM12.blk AV9.out (by have := HNE.out.1; simp; omega))
             have L12 := Lib.hid (LV.out.mod M12.out (fun b hb hb2 => by have h1 := HTN.out.1 b hb; have h2 := HTG.out; simp only [List.mem_cons, List.not_mem_nil, or_false] at hb2; omega) (fun hb2 => by have h1 := HTN.out.2.1; have h2 := HTG.out; simp only [List.mem_cons, List.not_mem_nil, or_false] at hb2; omega))
             have W12 := Lib.hid (WV.out.trans' M12.out (fun b hb => .inr (by have h1 := HTN4.out; have h2 := HTG.out; simp only [List.mem_cons, List.not_mem_nil, or_false] at hb; omega)))
             clear hB12 hM12 hu0 hu1 rq0 rq1 rq2 rq3 rq4 rq5 rq6 rq7 rq8
             have gq0 := G12.out.cell (i := 0) rfl
             have gq1 := G12.out.cell (i := 1) rfl
             have gq2 := G12.out.cell (i := 2) rfl
             have gq3 := G12.out.cell (i := 3) rfl
             have rq0 := RB12.out.cell (i := 0) rfl
             have rq1 := RB12.out.cell (i := 1) rfl
             have rq2 := RB12.out.cell (i := 2) rfl
             have rq3 := RB12.out.cell (i := 3) rfl
             have rq4 := RB12.out.cell (i := 4) rfl
             have rq5 := RB12.out.cell (i := 5) rfl
             have rq6 := RB12.out.cell (i := 6) rfl
             have rq7 := RB12.out.cell (i := 7) rfl
             have rq8 := RB12.out.cell (i := 8) rfl
             go_wp2_with fail
             refine Go.YtndekdafiaogmaaLex.wp_region_lex (by kernel_rfl) (by kernel_rfl) ?_
             go_wp2_with fail
             refine (RM2.out u HU.out _).mono ?_
             rintro e13 w13 ⟨rfl, hM13⟩
             have M13 := Lib.hid ((Mod.refl [] w12).drew.trans hM13)
             have AV13 := Lib.hid (M13.out.blk AV12.out (by simp))
             have CC13 := Lib.hid (M13.out.blk CC12.out (by simp))
             have MS13 := Lib.hid ((Mod.refl [ab] w13).setCell (p := ⟨ab, 1, none⟩) (.inl (by simp)) (.int .i64 fk))
             have AV14 := Lib.hid (AV13.out.set 1 (.int .i64 fk))
             have a131 := AV13.out.cell (i := 1) rfl
             have f131 := AV13.out.free 1
             have q2 := CC13.out.cell (i := 2) rfl
             have L13 := Lib.hid ((L12.out.mod0 M13.out).mod MS13.out (fun b hb hb2 => by simp only [List.mem_singleton] at hb2; subst hb2; exact NAB.out hb) (fun hb2 => by have h1 := HTN.out.2.1; have h2 := HNE.out.2.2.2; simp only [List.mem_singleton] at hb2; omega))
             clear hM13 gq0 gq1 gq2 gq3 rq0 rq1 rq2 rq3 rq4 rq5 rq6 rq7 rq8
             go_wp2_with fail
             refine ⟨by kernel_rfl, ?_⟩
             go_wp2_with fail
             refine (CK1.out _ L13.out).mono ?_
             rintro e15 w15 ⟨v15, rfl, hO15, hL15, hM15⟩
             obtain ⟨a7, c7, rfl⟩ := hO15.slice
             have OB := Lib.hid ((O12.out.mod0 M13.out).blkX (T := 39) (by decide) AV13.out HNE.out.2.2.2 MS13.out)
             have L15 := Lib.hid hL15
             have AV15 := Lib.hid (hM15.blk AV14.out NAB.out)
             have RB15 := Lib.hid (hM15.blk (MS13.out.blk (M13.out.blk RB12.out (by simp)) (by have := HNE.out.2.1; simp; omega)) BL.out.2)
             have O15 := Lib.hid (OB.out.mod hM15 (fun b hb => .inl (HTN.out.1 b hb)))
             have W15 := Lib.hid (((W12.out.trans M13.out).trans' MS13.out (fun b hb => .inr (by have h1 := HTN4.out; have h2 := HNE.out.2.2.2; simp only [List.mem_singleton] at hb; omega))).trans' hM15 (fun b hb => .inr (by have := BL.out.1 b hb; omega)))
             have bq0 := AV15.out.cell (i := 0) rfl
             have bq1 := AV15.out.cell (i := 1) rfl
             have bq2 := AV15.out.cell (i := 2) rfl
             have lab : ab < w15.heap.size := AV15.out.lt
             have lab' : ¬ ab = w15.heap.size := by omega
             have HNK := Lib.hid (show nn + 1 ≤ k + 1 ∧ (if (F key).isSome then m else m + 1) ≤ k + 1 from by have := HNN.out; split <;> omega)
             clear hO15 hL15 hM15 a131 f131 q2
             simp only [Ans.val]
             go_wp2_with fail
             go_roundw
             case rel => exact ⟨k + 1, T, s2, nn + 1, _, _, _, by omega, by go_num, rfl, L15.out.mod0 ((Mod.refl [] _).alloc _), KC1.out, HG2.out, EJ2.out, O15.out.mod0 ((Mod.refl [] _).alloc _), HNK.out, RB15.out.alloc _, W15.out.alloc _⟩
             case measure => simp [intOf]; omega
         ·have dz : decide (0 < lz) = false := decide_eq_false hlz0
          have hav : ansV fz lz = ⟨1, fz, lz⟩ := by unfold ansV; rw [if_neg hlz0]
          have hav2 : ansV fk lz = ⟨1, fk, lz⟩ := by unfold ansV; rw [if_neg hlz0]
          have PK2 := PK.out
          rw [hav] at PK2
          have PK3 := Lib.hid PK2
          have CKA2 := CKA.out
          rw [hav2] at CKA2
          have CKB := Lib.hid CKA2
          clear PK2 CKA2 hav hav2 hlz0
          have MV := Lib.hid (Mod.refl [ab] wW)
          have AV := Lib.hid (show Blk wW ab 39 [.int .i64 1, .int .i64 fz, .int .i64 lz] from AB.out)
          have cc2 := CCW.out.cell (i := 2) rfl
          have cc3 := CCW.out.cell (i := 3) rfl
          have rw4 := RBW.out.cell (i := 4) rfl
          have ac0 := AB.out.cell (i := 0) rfl
          have ac1 := AB.out.cell (i := 1) rfl
          have ac2 := AB.out.cell (i := 2) rfl
          have af0 := AB.out.free 0
          obtain ⟨hne1, hne2, hne3, hne4⟩ := HNE.out
          have hne3' : ¬ wr.heap.size = ab := fun h => hne3 h.symm
          have hne2' : ¬ w3.heap.size = ab := fun h => hne2 h.symm
          cases pk with
          | true =>
            go_wp2_with fail
            obtain ⟨wV, hwV⟩ : ∃ wV, wW = wV := ⟨_, rfl⟩
            have MV : Hid (Mod [ab] wW wV) := Lib.hid (by rw [← hwV]; exact MV.out)
            have AV : Hid (Blk wV ab 39 [.int .i64 1, .int .i64 fz, .int .i64 lz]) := Lib.hid (by rw [← hwV]; exact AV.out)
            rw [hwV]
            have LV := Lib.hid (LW.out.mod MV.out (fun b hb hb2 => by simp only [List.mem_singleton] at hb2; subst hb2; exact NAB.out hb) (fun hb2 => by have h1 := HTN.out.2.1; have h2 := HNE.out.2.2.2; simp only [List.mem_singleton] at hb2; omega))
            have OV := Lib.hid (OS.out.mod0 (MW.out.trans' MV.out (fun b hb => .inr (by simp only [List.mem_singleton] at hb; subst hb; exact HAB.out))))
            have RBV := Lib.hid (MV.out.blk RBW.out (by have h := HNE.out.2.1; simp; omega))
            have CCV := Lib.hid (MV.out.blk CCW.out (by have h := HNE.out.2.2.1; simp; omega))
            have GV := Lib.hid (MV.out.blk GW.out (by have h := HNE.out.1; simp; omega))
            have WV := Lib.hid (WW.out.trans' MV.out (fun b hb => .inr (by have h1 := HTN4.out; have h2 := HNE.out.2.2.2; simp only [List.mem_singleton] at hb; omega)))
            clear cc2 cc3 rw4 ac0 ac1 ac2 af0 hne1 hne2 hne3 hne4 hne3' hne2' hwV
            have cc2 := CCV.out.cell (i := 2) rfl
            have ac0 := AV.out.cell (i := 0) rfl
            have ac1 := AV.out.cell (i := 1) rfl
            have ac2 := AV.out.cell (i := 2) rfl
            have ISA := Lib.hid (isC_of_blk AV.out.drew)
            refine Go.YtndekdafiaogmaaLex.wp_region_held [6] [6] B.all (by kernel_rfl) (by kernel_rfl) ?_
            simp only [wpCut, List.take_succ_cons, List.take_zero, List.drop_succ_cons, List.drop_zero, List.cons_append, List.nil_append]
            go_wp2_with fail
            refine (PK3.out _ (LV.out.mod0 (Mod.refl [] _).drew)).mono ?_
            rintro e11 w11 ⟨rfl, hL11, hM11⟩
            have L11 := Lib.hid hL11
            have M11 := Lib.hid hM11
            have O11 := Lib.hid ((OV.out.mod0 (Mod.refl [] _).drew).mod hM11 (fun b hb => .inl (HTN.out.1 b hb)))
            have RB11 := Lib.hid (hM11.blk RBV.out.drew BL.out.2)
            have W11 := Lib.hid (WV.out.drew.trans' hM11 (fun b hb => .inr (by have := BL.out.1 b hb; omega)))
            have AV11 := Lib.hid (hM11.blk AV.out.drew NAB.out)
            have bc0 := AV11.out.cell (i := 0) rfl
            have bc1 := AV11.out.cell (i := 1) rfl
            have bc2 := AV11.out.cell (i := 2) rfl
            clear hL11 hM11 cc2 ac0 ac1 ac2
            simp only [Ans.val]
            go_wp2_with fail
            refine ⟨M11.out, ?_⟩
            go_wp2_with fail
            refine ⟨by kernel_rfl, ⟨⟨NAB.out, ISA.out⟩, trivial⟩, ?_⟩
            go_wp2_with fail
            go_roundw
            case rel => exact ⟨k + 1, T, s.to (T : Int), nn, m, P, F, by omega, by go_num, rfl, L11.out, KP.out, RingOf.rk (x := s.ring) HG.out rfl, EJ.out.to _, O11.out, by omega, RB11.out, W11.out⟩
            case measure => simp [intOf]; omega
          | false =>
            have LV := Lib.hid (LW.out.mod MV.out (fun b hb hb2 => by simp only [List.mem_singleton] at hb2; subst hb2; exact NAB.out hb) (fun hb2 => by have h1 := HTN.out.2.1; have h2 := HNE.out.2.2.2; simp only [List.mem_singleton] at hb2; omega))
            have OV := Lib.hid (OS.out.mod0 (MW.out.trans' MV.out (fun b hb => .inr (by simp only [List.mem_singleton] at hb; subst hb; exact HAB.out))))
            have RBV := Lib.hid (MV.out.blk RBW.out (by have h := HNE.out.2.1; simp; omega))
            have CCV := Lib.hid (MV.out.blk CCW.out (by have h := HNE.out.2.2.1; simp; omega))
            have GV := Lib.hid (MV.out.blk GW.out (by have h := HNE.out.1; simp; omega))
            have WV := Lib.hid (WW.out.trans' MV.out (fun b hb => .inr (by have h1 := HTN4.out; have h2 := HNE.out.2.2.2; simp only [List.mem_singleton] at hb; omega)))
            have AVV := Lib.hid (show Blk wW ab 39 [.int .i64 1, .int .i64 fz, .int .i64 lz] from AV.out)
            have TK : Hid (∀ W, Blk W gb 62 [.int .i64 z, .int .i64 ((T : Int) - r1), .int .i64 0, .int .i64 0] → Calls Try.prog 26 #[.pointer (some ⟨gb, 0, none⟩), .agg #[.int .i64 r0, .int .i64 r1, .int .i64 r2, .int .i64 r3, .int .i64 r4, .int .i64 r5, .int .i64 r6, .int .i64 r7, .bool r8], .int .i64 (T : Int), .int .i64 (n1 : Int)] W (TookPost gb (⟨r0, r1, r2, r3, r4, r5, r6, r7, r8⟩ : Rule) z (T : Int) (n1 : Int) W)) := Lib.hid (fun W hB => take_old HRO.out (by omega) HZI.out ⟨by have := HCO.out.1; omega, HCO.out.2⟩ hB)
            have RM2 : Hid (∀ u, 0 ≤ u ∧ u ≤ 100 → ∀ W, Calls Try.prog 23 #[.agg #[.int .i64 tk, .int .i64 ((T : Int) - r1), .int .i64 0, .int .i64 u], .agg #[.int .i64 r0, .int .i64 r1, .int .i64 r2, .int .i64 r3, .int .i64 r4, .int .i64 r5, .int .i64 r6, .int .i64 r7, .bool r8], .int .i64 (T : Int)] W fun e w' => e = .returned (.int .i64 fk) ∧ Mod [] W w') := Lib.hid (fun u hu W => by rw [← FKE.out]; exact room_old HRO.out (by omega) HTK.out hu W)
            have hlen := fun ty => OV.out.map.len (mt := 60) Try.underlying60 ty
            by_cases hfull : (m : Int) = r4
            ·have df : decide ((m : Int) = r4) = true := decide_eq_true hfull
             have df' : ((m : Int) == r4) = true := by simp [hfull]
             go_wp2_with fail
             go_ret
             exact ⟨rfl, WV.out⟩
            ·have df : decide ((m : Int) = r4) = false := decide_eq_false hfull
             have df' : ((m : Int) == r4) = false := by simp [hfull]
             have FK : Hid (F key = none → m < c.r.cells.toNat) := Lib.hid (LASTF.out (by have := HRO.out.cells; simp only at this; omega))
             clear hfull
             have hck := CKB.out FK.out
             have ck0 := CK0.out
             have kc := KC0.out
             have hrk := RingOf.rk (x := s.ring) HG.out (rk_check c s (T : Int) 0 key (n1 : Int))
             rcases hq : check c s (T : Int) 0 key (n1 : Int) with ⟨A0, ev, s2⟩
             rw [hq] at hck ck0 kc hrk
             simp only at hck kc hrk
             obtain ⟨hA, hE⟩ := hck
             subst hA
             have CK1 := Lib.hid ck0
             have KC1 := Lib.hid kc
             have EJ2 := Lib.hid hE
             have HG2 := Lib.hid hrk
             obtain ⟨w9', pt, P9, N9⟩ := OV.out.map.put (mt := 60) SKX Try.underlying60 (by have := HNN.out; unfold maxLen; omega) (text_keyX key HKM.out) (.pointer (some ⟨gb, 0, none⟩))
             rw [CNT.out] at P9
             have P9h := Lib.hid P9
             have N9h := Lib.hid N9
             have htg := HTG.out
             have G9 := Lib.hid (N9.blk GV.out (by simp; omega))
             have RB9 := Lib.hid (N9.blk RBV.out (by have := HTN.out.2.2; simp; omega))
             have CC9 := Lib.hid (N9.blk CCV.out (by have := HTBW.out; simp; omega))
             have AV9 := Lib.hid (N9.blk AVV.out (by have := HNE.out.2.2.2; simp; omega))
             have rq0 := RB9.out.cell (i := 0) rfl
             have rq1 := RB9.out.cell (i := 1) rfl
             have rq2 := RB9.out.cell (i := 2) rfl
             have rq3 := RB9.out.cell (i := 3) rfl
             have rq4 := RB9.out.cell (i := 4) rfl
             have rq5 := RB9.out.cell (i := 5) rfl
             have rq6 := RB9.out.cell (i := 6) rfl
             have rq7 := RB9.out.cell (i := 7) rfl
             have rq8 := RB9.out.cell (i := 8) rfl
             clear hq ck0 kc hE hrk P9 N9 htg
             go_wp2_with fail
             refine (TK.out _ G9.out).mono ?_
             rintro e12 w12 ⟨⟨bt, rfl⟩, ⟨u, hu0, hu1, hB12⟩, hM12⟩
             have HU := Lib.hid (show 0 ≤ u ∧ u ≤ 100 by omega)
             have G12 : Hid (Blk w12 gb 62 [.int .i64 tk, .int .i64 ((T : Int) - r1), .int .i64 0, .int .i64 u]) := Lib.hid (by have h := hB12; rw [TKE.out] at h; exact h)
             have M12 := Lib.hid (show Mod [tb, gb] wW w12 from (N9h.out.mono (by simp)).trans (hM12.mono (by simp)))
             have O12 := Lib.hid (OV.out.put KEYC.out HTG.out M12.out (P9h.out.mod hM12 (by have := HTG.out; simp; omega)) G12.out)
             have RB12 := Lib.hid (hM12.blk RB9.out (by have := HTN.out.2.2; have := HTG.out; simp; omega))
             have CC12 := Lib.hid (hM12.blk CC9.out (by have := HGC.out; simp; omega))
             have AV12 := Lib.hid (hM12.blk AV9.out (by have := HNE.out.1; simp; omega))
             have L12 := Lib.hid (LV.out.mod M12.out (fun b hb hb2 => by have h1 := HTN.out.1 b hb; have h2 := HTG.out; simp only [List.mem_cons, List.not_mem_nil, or_false] at hb2; omega) (fun hb2 => by have h1 := HTN.out.2.1; have h2 := HTG.out; simp only [List.mem_cons, List.not_mem_nil, or_false] at hb2; omega))
             have W12 := Lib.hid (WV.out.trans' M12.out (fun b hb => .inr (by have h1 := HTN4.out; have h2 := HTG.out; simp only [List.mem_cons, List.not_mem_nil, or_false] at hb; omega)))
             clear hB12 hM12 hu0 hu1 rq0 rq1 rq2 rq3 rq4 rq5 rq6 rq7 rq8
             have gq0 := G12.out.cell (i := 0) rfl
             have gq1 := G12.out.cell (i := 1) rfl
             have gq2 := G12.out.cell (i := 2) rfl
             have gq3 := G12.out.cell (i := 3) rfl
             have rq0 := RB12.out.cell (i := 0) rfl
             have rq1 := RB12.out.cell (i := 1) rfl
             have rq2 := RB12.out.cell (i := 2) rfl
             have rq3 := RB12.out.cell (i := 3) rfl
             have rq4 := RB12.out.cell (i := 4) rfl
             have rq5 := RB12.out.cell (i := 5) rfl
             have rq6 := RB12.out.cell (i := 6) rfl
             have rq7 := RB12.out.cell (i := 7) rfl
             have rq8 := RB12.out.cell (i := 8) rfl
             go_wp2_with fail
             refine Go.YtndekdafiaogmaaLex.wp_region_lex (by kernel_rfl) (by kernel_rfl) ?_
             go_wp2_with fail
             refine (RM2.out u HU.out _).mono ?_
             rintro e13 w13 ⟨rfl, hM13⟩
             have M13 := Lib.hid ((Mod.refl [] w12).drew.trans hM13)
             have AV13 := Lib.hid (M13.out.blk AV12.out (by simp))
             have CC13 := Lib.hid (M13.out.blk CC12.out (by simp))
             have MS13 := Lib.hid ((Mod.refl [ab] w13).setCell (p := ⟨ab, 1, none⟩) (.inl (by simp)) (.int .i64 fk))
             have AV14 := Lib.hid (AV13.out.set 1 (.int .i64 fk))
             have a131 := AV13.out.cell (i := 1) rfl
             have f131 := AV13.out.free 1
             have q2 := CC13.out.cell (i := 2) rfl
             have L13 := Lib.hid ((L12.out.mod0 M13.out).mod MS13.out (fun b hb hb2 => by simp only [List.mem_singleton] at hb2; subst hb2; exact NAB.out hb) (fun hb2 => by have h1 := HTN.out.2.1; have h2 := HNE.out.2.2.2; simp only [List.mem_singleton] at hb2; omega))
             clear hM13 gq0 gq1 gq2 gq3 rq0 rq1 rq2 rq3 rq4 rq5 rq6 rq7 rq8
             go_wp2_with fail
             refine ⟨by kernel_rfl, ?_⟩
             go_wp2_with fail
             refine (CK1.out _ L13.out).mono ?_
             rintro e15 w15 ⟨v15, rfl, hO15, hL15, hM15⟩
             obtain ⟨a7, c7, rfl⟩ := hO15.slice
             have OB := Lib.hid ((O12.out.mod0 M13.out).blkX (T := 39) (by decide) AV13.out HNE.out.2.2.2 MS13.out)
             have L15 := Lib.hid hL15
             have AV15 := Lib.hid (hM15.blk AV14.out NAB.out)
             have RB15 := Lib.hid (hM15.blk (MS13.out.blk (M13.out.blk RB12.out (by simp)) (by have := HNE.out.2.1; simp; omega)) BL.out.2)
             have O15 := Lib.hid (OB.out.mod hM15 (fun b hb => .inl (HTN.out.1 b hb)))
             have W15 := Lib.hid (((W12.out.trans M13.out).trans' MS13.out (fun b hb => .inr (by have h1 := HTN4.out; have h2 := HNE.out.2.2.2; simp only [List.mem_singleton] at hb; omega))).trans' hM15 (fun b hb => .inr (by have := BL.out.1 b hb; omega)))
             have bq0 := AV15.out.cell (i := 0) rfl
             have bq1 := AV15.out.cell (i := 1) rfl
             have bq2 := AV15.out.cell (i := 2) rfl
             have lab : ab < w15.heap.size := AV15.out.lt
             have lab' : ¬ ab = w15.heap.size := by omega
             have HNK := Lib.hid (show nn + 1 ≤ k + 1 ∧ (if (F key).isSome then m else m + 1) ≤ k + 1 from by have := HNN.out; split <;> omega)
             clear hO15 hL15 hM15 a131 f131 q2
             simp only [Ans.val]
             go_wp2_with fail
             go_roundw
             case rel => exact ⟨k + 1, T, s2, nn + 1, _, _, _, by omega, by go_num, rfl, L15.out.mod0 ((Mod.refl [] _).alloc _), KC1.out, HG2.out, EJ2.out, O15.out.mod0 ((Mod.refl [] _).alloc _), HNK.out, RB15.out.alloc _, W15.out.alloc _⟩
             case measure => simp [intOf]; omega
        ·refine ⟨[(12, 14)], by decide, fun p hp => by simp only [List.mem_cons, List.not_mem_nil, or_false] at hp; rcases hp with rfl <;> assumption, held_perm [0, 1, 2, 3, 4, 6, 7, 8, 9, 10, 11, 5, 12, 13, 14, 15] [12, 1] [7, 8] [] (by kernel_rfl) (by kernel_rfl) ?_⟩
         simp only [wpCut, edges, edge, perm, reOper, reGuard, List.getElem?_cons_succ, List.getElem?_cons_zero, List.take_succ_cons, List.take_zero, List.drop_succ_cons, List.drop_zero, List.cons_append, List.nil_append]
         go_wp2_with fail
         refine (RM.out _).mono ?_
         rintro e8 w8 ⟨rfl, hM8⟩
         have MC8 := Lib.hid ((Mod.refl [] wS).drew.trans hM8)
         have HM8 := Lib.hid hM8
         clear hM8
         go_wp2_with fail
         refine ⟨((Mod.refl [] wS.drew).trans HM8.out), ?_⟩
         go_wp2_with fail
         refine (WT.out _).mono ?_
         rintro e9 w9 ⟨rfl, hM9⟩
         have HM9 := Lib.hid hM9
         have MC9 := Lib.hid (MC8.out.trans hM9)
         clear hM9
         go_wp2_with fail
         refine ⟨(((Mod.refl [] wS.drew).trans HM8.out).trans HM9.out), ?_⟩
         go_wp2_with fail
         refine ⟨by kernel_rfl, ⟨⟨by simp, ISG.out⟩, ⟨by simp, ISR.out⟩, trivial⟩, ?_⟩
         have HAB := Lib.hid (show wS.heap.size ≤ w9.heap.size from MC9.out.size)
         have MW := Lib.hid (MC9.out.alloc (.cells #[.int .i64 1, .int .i64 fz, .int .i64 lz] 39))
         have AB := Lib.hid (Blk.new w9 [.int .i64 1, .int .i64 fz, .int .i64 lz] 39)
         skip
         obtain ⟨wW, hwW⟩ : ∃ wW, (w9.alloc (.cells #[.int .i64 1, .int .i64 fz, .int .i64 lz] 39)) = wW := ⟨_, rfl⟩
         rw [hwW] at MW AB ⊢
         obtain ⟨ab, hab⟩ : ∃ ab, w9.heap.size = ab := ⟨_, rfl⟩
         rw [hab] at AB ⊢
         have HAB := Lib.hid (show wS.heap.size ≤ ab from by have := HAB.out; omega)
         clear hwW hab ltG ltG' ltR ltR' gz0 gz1 gz2 gz3 rz0 rz1 rz2 rz3 rz4 rz5 rz6 rz7 rz8
         have LW := Lib.hid (LS.out.mod0 MW.out)
         have OW := Lib.hid (OS.out.mod0 MW.out)
         have RBW := Lib.hid (MW.out.blk RBS.out (by simp))
         have CCW := Lib.hid (MW.out.blk CCS.out (by simp))
         have GW := Lib.hid (MW.out.blk GS.out (by simp))
         have WW := Lib.hid (WS.out.trans MW.out)
         have NAB := Lib.hid (show ab ∉ B.all from fun hb => by have := LS.out.lt _ hb; have := HAB.out; omega)
         have HNE := Lib.hid (show ab ≠ gb ∧ ab ≠ w3.heap.size ∧ ab ≠ wr.heap.size ∧ tb < ab from by have h1 := GS.out.lt; have h2 := RBS.out.lt; have h3 := HLC.out; have h4 := HAB.out; have h5 := HTG.out; omega)
         by_cases hlz0 : 0 < lz
         ·have dz : decide (0 < lz) = true := decide_eq_true hlz0
          have hav : ansV fz lz = ⟨2, fz, lz⟩ := by unfold ansV; rw [if_pos hlz0]
          have hav2 : ansV fk lz = ⟨2, fk, lz⟩ := by unfold ansV; rw [if_pos hlz0]
          have PK2 := PK.out
          rw [hav] at PK2
          have PK3 := Lib.hid PK2
          have CKA2 := CKA.out
          rw [hav2] at CKA2
          have CKB := Lib.hid CKA2
          clear PK2 CKA2 hav hav2 hlz0
          have MV := Lib.hid ((Mod.refl [ab] wW).setCell (p := ⟨ab, 0, none⟩) (.inl (by simp)) (.int .i64 2))
          have AV := Lib.hid (show Blk (wW.setCell ⟨ab, 0, none⟩ (.int .i64 2)) ab 39 [.int .i64 2, .int .i64 fz, .int .i64 lz] from AB.out.set 0 _)
          have cc2 := CCW.out.cell (i := 2) rfl
          have cc3 := CCW.out.cell (i := 3) rfl
          have rw4 := RBW.out.cell (i := 4) rfl
          have ac0 := AB.out.cell (i := 0) rfl
          have ac1 := AB.out.cell (i := 1) rfl
          have ac2 := AB.out.cell (i := 2) rfl
          have af0 := AB.out.free 0
          obtain ⟨hne1, hne2, hne3, hne4⟩ := HNE.out
          have hne3' : ¬ wr.heap.size = ab := fun h => hne3 h.symm
          have hne2' : ¬ w3.heap.size = ab := fun h => hne2 h.symm
          cases pk with
          | true =>
            go_wp2_with fail
            obtain ⟨wV, hwV⟩ : ∃ wV, (wW.setCell ⟨ab, 0, none⟩ (.int .i64 2)) = wV := ⟨_, rfl⟩
            rw [hwV] at MV AV ⊢
            have LV := Lib.hid (LW.out.mod MV.out (fun b hb hb2 => by simp only [List.mem_singleton] at hb2; subst hb2; exact NAB.out hb) (fun hb2 => by have h1 := HTN.out.2.1; have h2 := HNE.out.2.2.2; simp only [List.mem_singleton] at hb2; omega))
            have OV := Lib.hid (OS.out.mod0 (MW.out.trans' MV.out (fun b hb => .inr (by simp only [List.mem_singleton] at hb; subst hb; exact HAB.out))))
            have RBV := Lib.hid (MV.out.blk RBW.out (by have h := HNE.out.2.1; simp; omega))
            have CCV := Lib.hid (MV.out.blk CCW.out (by have h := HNE.out.2.2.1; simp; omega))
            have GV := Lib.hid (MV.out.blk GW.out (by have h := HNE.out.1; simp; omega))
            have WV := Lib.hid (WW.out.trans' MV.out (fun b hb => .inr (by have h1 := HTN4.out; have h2 := HNE.out.2.2.2; simp only [List.mem_singleton] at hb; omega)))
            clear cc2 cc3 rw4 ac0 ac1 ac2 af0 hne1 hne2 hne3 hne4 hne3' hne2' hwV
            have cc2 := CCV.out.cell (i := 2) rfl
            have ac0 := AV.out.cell (i := 0) rfl
            have ac1 := AV.out.cell (i := 1) rfl
            have ac2 := AV.out.cell (i := 2) rfl
            have ISA := Lib.hid (isC_of_blk AV.out.drew)
            refine Go.YtndekdafiaogmaaLex.wp_region_held [6] [6] B.all (by kernel_rfl) (by kernel_rfl) ?_
            simp only [wpCut, List.take_succ_cons, List.take_zero, List.drop_succ_cons, List.drop_zero, List.cons_append, List.nil_append]
            go_wp2_with fail
            refine (PK3.out _ (LV.out.mod0 (Mod.refl [] _).drew)).mono ?_
            rintro e11 w11 ⟨rfl, hL11, hM11⟩
            have L11 := Lib.hid hL11
            have M11 := Lib.hid hM11
            have O11 := Lib.hid ((OV.out.mod0 (Mod.refl [] _).drew).mod hM11 (fun b hb => .inl (HTN.out.1 b hb)))
            have RB11 := Lib.hid (hM11.blk RBV.out.drew BL.out.2)
            have W11 := Lib.hid (WV.out.drew.trans' hM11 (fun b hb => .inr (by have := BL.out.1 b hb; omega)))
            have AV11 := Lib.hid (hM11.blk AV.out.drew NAB.out)
            have bc0 := AV11.out.cell (i := 0) rfl
            have bc1 := AV11.out.cell (i := 1) rfl
            have bc2 := AV11.out.cell (i := 2) rfl
            clear hL11 hM11 cc2 ac0 ac1 ac2
            simp only [Ans.val]
            go_wp2_with fail
            refine ⟨M11.out, ?_⟩
            go_wp2_with fail
            refine ⟨by kernel_rfl, ⟨⟨NAB.out, ISA.out⟩, trivial⟩, ?_⟩
            go_wp2_with fail
            go_roundw
            case rel => exact ⟨k + 1, T, s.to (T : Int), nn, m, P, F, by omega, by go_num, rfl, L11.out, KP.out, RingOf.rk (x := s.ring) HG.out rfl, EJ.out.to _, O11.out, by omega, RB11.out, W11.out⟩
            case measure => simp [intOf]; omega
          | false =>
            have LV := Lib.hid (LW.out.mod MV.out (fun b hb hb2 => by simp only [List.mem_singleton] at hb2; subst hb2; exact NAB.out hb) (fun hb2 => by have h1 := HTN.out.2.1; have h2 := HNE.out.2.2.2; simp only [List.mem_singleton] at hb2; omega))
            have OV := Lib.hid (OS.out.mod0 (MW.out.trans' MV.out (fun b hb => .inr (by simp only [List.mem_singleton] at hb; subst hb; exact HAB.out))))
            have RBV := Lib.hid (MV.out.blk RBW.out (by have h := HNE.out.2.1; simp; omega))
            have CCV := Lib.hid (MV.out.blk CCW.out (by have h := HNE.out.2.2.1; simp; omega))
            have GV := Lib.hid (MV.out.blk GW.out (by have h := HNE.out.1; simp; omega))
            have WV := Lib.hid (WW.out.trans' MV.out (fun b hb => .inr (by have h1 := HTN4.out; have h2 := HNE.out.2.2.2; simp only [List.mem_singleton] at hb; omega)))
            have AVV := Lib.hid (show Blk (wW.setCell ⟨ab, 0, none⟩ (.int .i64 2)) ab 39 [.int .i64 2, .int .i64 fz, .int .i64 lz] from AV.out)
            have TK : Hid (∀ W, Blk W gb 62 [.int .i64 z, .int .i64 ((T : Int) - r1), .int .i64 0, .int .i64 0] → Calls Try.prog 26 #[.pointer (some ⟨gb, 0, none⟩), .agg #[.int .i64 r0, .int .i64 r1, .int .i64 r2, .int .i64 r3, .int .i64 r4, .int .i64 r5, .int .i64 r6, .int .i64 r7, .bool r8], .int .i64 (T : Int), .int .i64 (n1 : Int)] W (TookPost gb (⟨r0, r1, r2, r3, r4, r5, r6, r7, r8⟩ : Rule) z (T : Int) (n1 : Int) W)) := Lib.hid (fun W hB => take_old HRO.out (by omega) HZI.out ⟨by have := HCO.out.1; omega, HCO.out.2⟩ hB)
            have RM2 : Hid (∀ u, 0 ≤ u ∧ u ≤ 100 → ∀ W, Calls Try.prog 23 #[.agg #[.int .i64 tk, .int .i64 ((T : Int) - r1), .int .i64 0, .int .i64 u], .agg #[.int .i64 r0, .int .i64 r1, .int .i64 r2, .int .i64 r3, .int .i64 r4, .int .i64 r5, .int .i64 r6, .int .i64 r7, .bool r8], .int .i64 (T : Int)] W fun e w' => e = .returned (.int .i64 fk) ∧ Mod [] W w') := Lib.hid (fun u hu W => by rw [← FKE.out]; exact room_old HRO.out (by omega) HTK.out hu W)
            have hlen := fun ty => OV.out.map.len (mt := 60) Try.underlying60 ty
            by_cases hfull : (m : Int) = r4
            ·have df : decide ((m : Int) = r4) = true := decide_eq_true hfull
             have df' : ((m : Int) == r4) = true := by simp [hfull]
             go_wp2_with fail
             go_ret
             exact ⟨rfl, WV.out⟩
            ·have df : decide ((m : Int) = r4) = false := decide_eq_false hfull
             have df' : ((m : Int) == r4) = false := by simp [hfull]
             have FK : Hid (F key = none → m < c.r.cells.toNat) := Lib.hid (LASTF.out (by have := HRO.out.cells; simp only at this; omega))
             clear hfull
             have hck := CKB.out FK.out
             have ck0 := CK0.out
             have kc := KC0.out
             have hrk := RingOf.rk (x := s.ring) HG.out (rk_check c s (T : Int) 0 key (n1 : Int))
             rcases hq : check c s (T : Int) 0 key (n1 : Int) with ⟨A0, ev, s2⟩
             rw [hq] at hck ck0 kc hrk
             simp only at hck kc hrk
             obtain ⟨hA, hE⟩ := hck
             subst hA
             have CK1 := Lib.hid ck0
             have KC1 := Lib.hid kc
             have EJ2 := Lib.hid hE
             have HG2 := Lib.hid hrk
             obtain ⟨w9', pt, P9, N9⟩ := OV.out.map.put (mt := 60) SKX Try.underlying60 (by have := HNN.out; unfold maxLen; omega) (text_keyX key HKM.out) (.pointer (some ⟨gb, 0, none⟩))
             rw [CNT.out] at P9
             have P9h := Lib.hid P9
             have N9h := Lib.hid N9
             have htg := HTG.out
             have G9 := Lib.hid (N9.blk GV.out (by simp; omega))
             have RB9 := Lib.hid (N9.blk RBV.out (by have := HTN.out.2.2; simp; omega))
             have CC9 := Lib.hid (N9.blk CCV.out (by have := HTBW.out; simp; omega))
             have AV9 := Lib.hid (N9.blk AVV.out (by have := HNE.out.2.2.2; simp; omega))
             have rq0 := RB9.out.cell (i := 0) rfl
             have rq1 := RB9.out.cell (i := 1) rfl
             have rq2 := RB9.out.cell (i := 2) rfl
             have rq3 := RB9.out.cell (i := 3) rfl
             have rq4 := RB9.out.cell (i := 4) rfl
             have rq5 := RB9.out.cell (i := 5) rfl
             have rq6 := RB9.out.cell (i := 6) rfl
             have rq7 := RB9.out.cell (i := 7) rfl
             have rq8 := RB9.out.cell (i := 8) rfl
             clear hq ck0 kc hE hrk P9 N9 htg
             go_wp2_with fail
             refine (TK.out _ G9.out).mono ?_
             rintro e12 w12 ⟨⟨bt, rfl⟩, ⟨u, hu0, hu1, hB12⟩, hM12⟩
             have HU := Lib.hid (show 0 ≤ u ∧ u ≤ 100 by omega)
             have G12 : Hid (Blk w12 gb 62 [.int .i64 tk, .int .i64 ((T : Int) - r1), .int .i64 0, .int .i64 u]) := Lib.hid (by have h := hB12; rw [TKE.out] at h; exact h)
             have M12 := Lib.hid (show Mod [tb, gb] (wW.setCell ⟨ab, 0, none⟩ (.int .i64 2)) w12 from (N9h.out.mono (by simp)).trans (hM12.mono (by simp)))
             have O12 := Lib.hid (OV.out.put KEYC.out HTG.out M12.out (P9h.out.mod hM12 (by have := HTG.out; simp; omega)) G12.out)
             have RB12 := Lib.hid (hM12.blk RB9.out (by have := HTN.out.2.2; have := HTG.out; simp; omega))
             have CC12 := Lib.hid (hM12.blk CC9.out (by have := HGC.out; simp; omega))
             have AV12 := Lib.hid (hM12.blk AV9.out (by have := HNE.out.1; simp; omega))
             have L12 := Lib.hid (LV.out.mod M12.out (fun b hb hb2 => by have h1 := HTN.out.1 b hb; have h2 := HTG.out; simp only [List.mem_cons, List.not_mem_nil, or_false] at hb2; omega) (fun hb2 => by have h1 := HTN.out.2.1; have h2 := HTG.out; simp only [List.mem_cons, List.not_mem_nil, or_false] at hb2; omega))
             have W12 := Lib.hid (WV.out.trans' M12.out (fun b hb => .inr (by have h1 := HTN4.out; have h2 := HTG.out; simp only [List.mem_cons, List.not_mem_nil, or_false] at hb; omega)))
             clear hB12 hM12 hu0 hu1 rq0 rq1 rq2 rq3 rq4 rq5 rq6 rq7 rq8
             have gq0 := G12.out.cell (i := 0) rfl
             have gq1 := G12.out.cell (i := 1) rfl
             have gq2 := G12.out.cell (i := 2) rfl
             have gq3 := G12.out.cell (i := 3) rfl
             have rq0 := RB12.out.cell (i := 0) rfl
             have rq1 := RB12.out.cell (i := 1) rfl
             have rq2 := RB12.out.cell (i := 2) rfl
             have rq3 := RB12.out.cell (i := 3) rfl
             have rq4 := RB12.out.cell (i := 4) rfl
             have rq5 := RB12.out.cell (i := 5) rfl
             have rq6 := RB12.out.cell (i := 6) rfl
             have rq7 := RB12.out.cell (i := 7) rfl
             have rq8 := RB12.out.cell (i := 8) rfl
             go_wp2_with fail
             refine Go.YtndekdafiaogmaaLex.wp_region_lex (by kernel_rfl) (by kernel_rfl) ?_
             go_wp2_with fail
             refine (RM2.out u HU.out _).mono ?_
             rintro e13 w13 ⟨rfl, hM13⟩
             have M13 := Lib.hid ((Mod.refl [] w12).drew.trans hM13)
             have AV13 := Lib.hid (M13.out.blk AV12.out (by simp))
             have CC13 := Lib.hid (M13.out.blk CC12.out (by simp))
             have MS13 := Lib.hid ((Mod.refl [ab] w13).setCell (p := ⟨ab, 1, none⟩) (.inl (by simp)) (.int .i64 fk))
             have AV14 := Lib.hid (AV13.out.set 1 (.int .i64 fk))
             have a131 := AV13.out.cell (i := 1) rfl
             have f131 := AV13.out.free 1
             have q2 := CC13.out.cell (i := 2) rfl
             have L13 := Lib.hid ((L12.out.mod0 M13.out).mod MS13.out (fun b hb hb2 => by simp only [List.mem_singleton] at hb2; subst hb2; exact NAB.out hb) (fun hb2 => by have h1 := HTN.out.2.1; have h2 := HNE.out.2.2.2; simp only [List.mem_singleton] at hb2; omega))
             clear hM13 gq0 gq1 gq2 gq3 rq0 rq1 rq2 rq3 rq4 rq5 rq6 rq7 rq8
             go_wp2_with fail
             refine ⟨by kernel_rfl, ?_⟩
             go_wp2_with fail
             refine (CK1.out _ L13.out).mono ?_
             rintro e15 w15 ⟨v15, rfl, hO15, hL15, hM15⟩
             obtain ⟨a7, c7, rfl⟩ := hO15.slice
             have OB := Lib.hid ((O12.out.mod0 M13.out).blkX (T := 39) (by decide) AV13.out HNE.out.2.2.2 MS13.out)
             have L15 := Lib.hid hL15
             have AV15 := Lib.hid (hM15.blk AV14.out NAB.out)
             have RB15 := Lib.hid (hM15.blk (MS13.out.blk (M13.out.blk RB12.out (by simp)) (by have := HNE.out.2.1; simp; omega)) BL.out.2)
             have O15 := Lib.hid (OB.out.mod hM15 (fun b hb => .inl (HTN.out.1 b hb)))
             have W15 := Lib.hid (((W12.out.trans M13.out).trans' MS13.out (fun b hb => .inr (by have h1 := HTN4.out; have h2 := HNE.out.2.2.2; simp only [List.mem_singleton] at hb; omega))).trans' hM15 (fun b hb => .inr (by have := BL.out.1 b hb; omega)))
             have bq0 := AV15.out.cell (i := 0) rfl
             have bq1 := AV15.out.cell (i := 1) rfl
             have bq2 := AV15.out.cell (i := 2) rfl
             have lab : ab < w15.heap.size := AV15.out.lt
             have lab' : ¬ ab = w15.heap.size := by omega
             have HNK := Lib.hid (show nn + 1 ≤ k + 1 ∧ (if (F key).isSome then m else m + 1) ≤ k + 1 from by have := HNN.out; split <;> omega)
             clear hO15 hL15 hM15 a131 f131 q2
             simp only [Ans.val]
             go_wp2_with fail
             go_roundw
             case rel => exact ⟨k + 1, T, s2, nn + 1, _, _, _, by omega, by go_num, rfl, L15.out.mod0 ((Mod.refl [] _).alloc _), KC1.out, HG2.out, EJ2.out, O15.out.mod0 ((Mod.refl [] _).alloc _), HNK.out, RB15.out.alloc _, W15.out.alloc _⟩
             case measure => simp [intOf]; omega
         ·have dz : decide (0 < lz) = false := decide_eq_false hlz0
          have hav : ansV fz lz = ⟨1, fz, lz⟩ := by unfold ansV; rw [if_neg hlz0]
          have hav2 : ansV fk lz = ⟨1, fk, lz⟩ := by unfold ansV; rw [if_neg hlz0]
          have PK2 := PK.out
          rw [hav] at PK2
          have PK3 := Lib.hid PK2
          have CKA2 := CKA.out
          rw [hav2] at CKA2
          have CKB := Lib.hid CKA2
          clear PK2 CKA2 hav hav2 hlz0
          have MV := Lib.hid (Mod.refl [ab] wW)
          have AV := Lib.hid (show Blk wW ab 39 [.int .i64 1, .int .i64 fz, .int .i64 lz] from AB.out)
          have cc2 := CCW.out.cell (i := 2) rfl
          have cc3 := CCW.out.cell (i := 3) rfl
          have rw4 := RBW.out.cell (i := 4) rfl
          have ac0 := AB.out.cell (i := 0) rfl
          have ac1 := AB.out.cell (i := 1) rfl
          have ac2 := AB.out.cell (i := 2) rfl
          have af0 := AB.out.free 0
          obtain ⟨hne1, hne2, hne3, hne4⟩ := HNE.out
          have hne3' : ¬ wr.heap.size = ab := fun h => hne3 h.symm
          have hne2' : ¬ w3.heap.size = ab := fun h => hne2 h.symm
          cases pk with
          | true =>
            go_wp2_with fail
            obtain ⟨wV, hwV⟩ : ∃ wV, wW = wV := ⟨_, rfl⟩
            have MV : Hid (Mod [ab] wW wV) := Lib.hid (by rw [← hwV]; exact MV.out)
            have AV : Hid (Blk wV ab 39 [.int .i64 1, .int .i64 fz, .int .i64 lz]) := Lib.hid (by rw [← hwV]; exact AV.out)
            rw [hwV]
            have LV := Lib.hid (LW.out.mod MV.out (fun b hb hb2 => by simp only [List.mem_singleton] at hb2; subst hb2; exact NAB.out hb) (fun hb2 => by have h1 := HTN.out.2.1; have h2 := HNE.out.2.2.2; simp only [List.mem_singleton] at hb2; omega))
            have OV := Lib.hid (OS.out.mod0 (MW.out.trans' MV.out (fun b hb => .inr (by simp only [List.mem_singleton] at hb; subst hb; exact HAB.out))))
            have RBV := Lib.hid (MV.out.blk RBW.out (by have h := HNE.out.2.1; simp; omega))
            have CCV := Lib.hid (MV.out.blk CCW.out (by have h := HNE.out.2.2.1; simp; omega))
            have GV := Lib.hid (MV.out.blk GW.out (by have h := HNE.out.1; simp; omega))
            have WV := Lib.hid (WW.out.trans' MV.out (fun b hb => .inr (by have h1 := HTN4.out; have h2 := HNE.out.2.2.2; simp only [List.mem_singleton] at hb; omega)))
            clear cc2 cc3 rw4 ac0 ac1 ac2 af0 hne1 hne2 hne3 hne4 hne3' hne2' hwV
            have cc2 := CCV.out.cell (i := 2) rfl
            have ac0 := AV.out.cell (i := 0) rfl
            have ac1 := AV.out.cell (i := 1) rfl
            have ac2 := AV.out.cell (i := 2) rfl
            have ISA := Lib.hid (isC_of_blk AV.out.drew)
            refine Go.YtndekdafiaogmaaLex.wp_region_held [6] [6] B.all (by kernel_rfl) (by kernel_rfl) ?_
            simp only [wpCut, List.take_succ_cons, List.take_zero, List.drop_succ_cons, List.drop_zero, List.cons_append, List.nil_append]
            go_wp2_with fail
            refine (PK3.out _ (LV.out.mod0 (Mod.refl [] _).drew)).mono ?_
            rintro e11 w11 ⟨rfl, hL11, hM11⟩
            have L11 := Lib.hid hL11
            have M11 := Lib.hid hM11
            have O11 := Lib.hid ((OV.out.mod0 (Mod.refl [] _).drew).mod hM11 (fun b hb => .inl (HTN.out.1 b hb)))
            have RB11 := Lib.hid (hM11.blk RBV.out.drew BL.out.2)
            have W11 := Lib.hid (WV.out.drew.trans' hM11 (fun b hb => .inr (by have := BL.out.1 b hb; omega)))
            have AV11 := Lib.hid (hM11.blk AV.out.drew NAB.out)
            have bc0 := AV11.out.cell (i := 0) rfl
            have bc1 := AV11.out.cell (i := 1) rfl
            have bc2 := AV11.out.cell (i := 2) rfl
            clear hL11 hM11 cc2 ac0 ac1 ac2
            simp only [Ans.val]
            go_wp2_with fail
            refine ⟨M11.out, ?_⟩
            go_wp2_with fail
            refine ⟨by kernel_rfl, ⟨⟨NAB.out, ISA.out⟩, trivial⟩, ?_⟩
            go_wp2_with fail
            go_roundw
            case rel => exact ⟨k + 1, T, s.to (T : Int), nn, m, P, F, by omega, by go_num, rfl, L11.out, KP.out, RingOf.rk (x := s.ring) HG.out rfl, EJ.out.to _, O11.out, by omega, RB11.out, W11.out⟩
            case measure => simp [intOf]; omega
          | false =>
            have LV := Lib.hid (LW.out.mod MV.out (fun b hb hb2 => by simp only [List.mem_singleton] at hb2; subst hb2; exact NAB.out hb) (fun hb2 => by have h1 := HTN.out.2.1; have h2 := HNE.out.2.2.2; simp only [List.mem_singleton] at hb2; omega))
            have OV := Lib.hid (OS.out.mod0 (MW.out.trans' MV.out (fun b hb => .inr (by simp only [List.mem_singleton] at hb; subst hb; exact HAB.out))))
            have RBV := Lib.hid (MV.out.blk RBW.out (by have h := HNE.out.2.1; simp; omega))
            have CCV := Lib.hid (MV.out.blk CCW.out (by have h := HNE.out.2.2.1; simp; omega))
            have GV := Lib.hid (MV.out.blk GW.out (by have h := HNE.out.1; simp; omega))
            have WV := Lib.hid (WW.out.trans' MV.out (fun b hb => .inr (by have h1 := HTN4.out; have h2 := HNE.out.2.2.2; simp only [List.mem_singleton] at hb; omega)))
            have AVV := Lib.hid (show Blk wW ab 39 [.int .i64 1, .int .i64 fz, .int .i64 lz] from AV.out)
            have TK : Hid (∀ W, Blk W gb 62 [.int .i64 z, .int .i64 ((T : Int) - r1), .int .i64 0, .int .i64 0] → Calls Try.prog 26 #[.pointer (some ⟨gb, 0, none⟩), .agg #[.int .i64 r0, .int .i64 r1, .int .i64 r2, .int .i64 r3, .int .i64 r4, .int .i64 r5, .int .i64 r6, .int .i64 r7, .bool r8], .int .i64 (T : Int), .int .i64 (n1 : Int)] W (TookPost gb (⟨r0, r1, r2, r3, r4, r5, r6, r7, r8⟩ : Rule) z (T : Int) (n1 : Int) W)) := Lib.hid (fun W hB => take_old HRO.out (by omega) HZI.out ⟨by have := HCO.out.1; omega, HCO.out.2⟩ hB)
            have RM2 : Hid (∀ u, 0 ≤ u ∧ u ≤ 100 → ∀ W, Calls Try.prog 23 #[.agg #[.int .i64 tk, .int .i64 ((T : Int) - r1), .int .i64 0, .int .i64 u], .agg #[.int .i64 r0, .int .i64 r1, .int .i64 r2, .int .i64 r3, .int .i64 r4, .int .i64 r5, .int .i64 r6, .int .i64 r7, .bool r8], .int .i64 (T : Int)] W fun e w' => e = .returned (.int .i64 fk) ∧ Mod [] W w') := Lib.hid (fun u hu W => by rw [← FKE.out]; exact room_old HRO.out (by omega) HTK.out hu W)
            have hlen := fun ty => OV.out.map.len (mt := 60) Try.underlying60 ty
            by_cases hfull : (m : Int) = r4
            ·have df : decide ((m : Int) = r4) = true := decide_eq_true hfull
             have df' : ((m : Int) == r4) = true := by simp [hfull]
             go_wp2_with fail
             go_ret
             exact ⟨rfl, WV.out⟩
            ·have df : decide ((m : Int) = r4) = false := decide_eq_false hfull
             have df' : ((m : Int) == r4) = false := by simp [hfull]
             have FK : Hid (F key = none → m < c.r.cells.toNat) := Lib.hid (LASTF.out (by have := HRO.out.cells; simp only at this; omega))
             clear hfull
             have hck := CKB.out FK.out
             have ck0 := CK0.out
             have kc := KC0.out
             have hrk := RingOf.rk (x := s.ring) HG.out (rk_check c s (T : Int) 0 key (n1 : Int))
             rcases hq : check c s (T : Int) 0 key (n1 : Int) with ⟨A0, ev, s2⟩
             rw [hq] at hck ck0 kc hrk
             simp only at hck kc hrk
             obtain ⟨hA, hE⟩ := hck
             subst hA
             have CK1 := Lib.hid ck0
             have KC1 := Lib.hid kc
             have EJ2 := Lib.hid hE
             have HG2 := Lib.hid hrk
             obtain ⟨w9', pt, P9, N9⟩ := OV.out.map.put (mt := 60) SKX Try.underlying60 (by have := HNN.out; unfold maxLen; omega) (text_keyX key HKM.out) (.pointer (some ⟨gb, 0, none⟩))
             rw [CNT.out] at P9
             have P9h := Lib.hid P9
             have N9h := Lib.hid N9
             have htg := HTG.out
             have G9 := Lib.hid (N9.blk GV.out (by simp; omega))
             have RB9 := Lib.hid (N9.blk RBV.out (by have := HTN.out.2.2; simp; omega))
             have CC9 := Lib.hid (N9.blk CCV.out (by have := HTBW.out; simp; omega))
             have AV9 := Lib.hid (N9.blk AVV.out (by have := HNE.out.2.2.2; simp; omega))
             have rq0 := RB9.out.cell (i := 0) rfl
             have rq1 := RB9.out.cell (i := 1) rfl
             have rq2 := RB9.out.cell (i := 2) rfl
             have rq3 := RB9.out.cell (i := 3) rfl
             have rq4 := RB9.out.cell (i := 4) rfl
             have rq5 := RB9.out.cell (i := 5) rfl
             have rq6 := RB9.out.cell (i := 6) rfl
             have rq7 := RB9.out.cell (i := 7) rfl
             have rq8 := RB9.out.cell (i := 8) rfl
             clear hq ck0 kc hE hrk P9 N9 htg
             go_wp2_with fail
             refine (TK.out _ G9.out).mono ?_
             rintro e12 w12 ⟨⟨bt, rfl⟩, ⟨u, hu0, hu1, hB12⟩, hM12⟩
             have HU := Lib.hid (show 0 ≤ u ∧ u ≤ 100 by omega)
             have G12 : Hid (Blk w12 gb 62 [.int .i64 tk, .int .i64 ((T : Int) - r1), .int .i64 0, .int .i64 u]) := Lib.hid (by have h := hB12; rw [TKE.out] at h; exact h)
             have M12 := Lib.hid (show Mod [tb, gb] wW w12 from (N9h.out.mono (by simp)).trans (hM12.mono (by simp)))
             have O12 := Lib.hid (OV.out.put KEYC.out HTG.out M12.out (P9h.out.mod hM12 (by have := HTG.out; simp; omega)) G12.out)
             have RB12 := Lib.hid (hM12.blk RB9.out (by have := HTN.out.2.2; have := HTG.out; simp; omega))
             have CC12 := Lib.hid (hM12.blk CC9.out (by have := HGC.out; simp; omega))
             have AV12 := Lib.hid (hM12.blk AV9.out (by have := HNE.out.1; simp; omega))
             have L12 := Lib.hid (LV.out.mod M12.out (fun b hb hb2 => by have h1 := HTN.out.1 b hb; have h2 := HTG.out; simp only [List.mem_cons, List.not_mem_nil, or_false] at hb2; omega) (fun hb2 => by have h1 := HTN.out.2.1; have h2 := HTG.out; simp only [List.mem_cons, List.not_mem_nil, or_false] at hb2; omega))
             have W12 := Lib.hid (WV.out.trans' M12.out (fun b hb => .inr (by have h1 := HTN4.out; have h2 := HTG.out; simp only [List.mem_cons, List.not_mem_nil, or_false] at hb; omega)))
             clear hB12 hM12 hu0 hu1 rq0 rq1 rq2 rq3 rq4 rq5 rq6 rq7 rq8
             have gq0 := G12.out.cell (i := 0) rfl
             have gq1 := G12.out.cell (i := 1) rfl
             have gq2 := G12.out.cell (i := 2) rfl
             have gq3 := G12.out.cell (i := 3) rfl
             have rq0 := RB12.out.cell (i := 0) rfl
             have rq1 := RB12.out.cell (i := 1) rfl
             have rq2 := RB12.out.cell (i := 2) rfl
             have rq3 := RB12.out.cell (i := 3) rfl
             have rq4 := RB12.out.cell (i := 4) rfl
             have rq5 := RB12.out.cell (i := 5) rfl
             have rq6 := RB12.out.cell (i := 6) rfl
             have rq7 := RB12.out.cell (i := 7) rfl
             have rq8 := RB12.out.cell (i := 8) rfl
             go_wp2_with fail
             refine Go.YtndekdafiaogmaaLex.wp_region_lex (by kernel_rfl) (by kernel_rfl) ?_
             go_wp2_with fail
             refine (RM2.out u HU.out _).mono ?_
             rintro e13 w13 ⟨rfl, hM13⟩
             have M13 := Lib.hid ((Mod.refl [] w12).drew.trans hM13)
             have AV13 := Lib.hid (M13.out.blk AV12.out (by simp))
             have CC13 := Lib.hid (M13.out.blk CC12.out (by simp))
             have MS13 := Lib.hid ((Mod.refl [ab] w13).setCell (p := ⟨ab, 1, none⟩) (.inl (by simp)) (.int .i64 fk))
             have AV14 := Lib.hid (AV13.out.set 1 (.int .i64 fk))
             have a131 := AV13.out.cell (i := 1) rfl
             have f131 := AV13.out.free 1
             have q2 := CC13.out.cell (i := 2) rfl
             have L13 := Lib.hid ((L12.out.mod0 M13.out).mod MS13.out (fun b hb hb2 => by simp only [List.mem_singleton] at hb2; subst hb2; exact NAB.out hb) (fun hb2 => by have h1 := HTN.out.2.1; have h2 := HNE.out.2.2.2; simp only [List.mem_singleton] at hb2; omega))
             clear hM13 gq0 gq1 gq2 gq3 rq0 rq1 rq2 rq3 rq4 rq5 rq6 rq7 rq8
             go_wp2_with fail
             refine ⟨by kernel_rfl, ?_⟩
             go_wp2_with fail
             refine (CK1.out _ L13.out).mono ?_
             rintro e15 w15 ⟨v15, rfl, hO15, hL15, hM15⟩
             obtain ⟨a7, c7, rfl⟩ := hO15.slice
             have OB := Lib.hid ((O12.out.mod0 M13.out).blkX (T := 39) (by decide) AV13.out HNE.out.2.2.2 MS13.out)
             have L15 := Lib.hid hL15
             have AV15 := Lib.hid (hM15.blk AV14.out NAB.out)
             have RB15 := Lib.hid (hM15.blk (MS13.out.blk (M13.out.blk RB12.out (by simp)) (by have := HNE.out.2.1; simp; omega)) BL.out.2)
             have O15 := Lib.hid (OB.out.mod hM15 (fun b hb => .inl (HTN.out.1 b hb)))
             have W15 := Lib.hid (((W12.out.trans M13.out).trans' MS13.out (fun b hb => .inr (by have h1 := HTN4.out; have h2 := HNE.out.2.2.2; simp only [List.mem_singleton] at hb; omega))).trans' hM15 (fun b hb => .inr (by have := BL.out.1 b hb; omega)))
             have bq0 := AV15.out.cell (i := 0) rfl
             have bq1 := AV15.out.cell (i := 1) rfl
             have bq2 := AV15.out.cell (i := 2) rfl
             have lab : ab < w15.heap.size := AV15.out.lt
             have lab' : ¬ ab = w15.heap.size := by omega
             have HNK := Lib.hid (show nn + 1 ≤ k + 1 ∧ (if (F key).isSome then m else m + 1) ≤ k + 1 from by have := HNN.out; split <;> omega)
             clear hO15 hL15 hM15 a131 f131 q2
             simp only [Ans.val]
             go_wp2_with fail
             go_roundw
             case rel => exact ⟨k + 1, T, s2, nn + 1, _, _, _, by omega, by go_num, rfl, L15.out.mod0 ((Mod.refl [] _).alloc _), KC1.out, HG2.out, EJ2.out, O15.out.mod0 ((Mod.refl [] _).alloc _), HNK.out, RB15.out.alloc _, W15.out.alloc _⟩
             case measure => simp [intOf]; omega
  ·obtain rfl : k = n := by omega
   have dk : decide ((k : Int) < (k : Int)) = false := by simp
   clear hLr hKr hGr hEr hOr hNr hRr hM
   go_wp2_with fail
   go_ret
   exact ⟨rfl, MR.out⟩
theorem exact_law (w : World) (p : Plan) (v : Value) (zs : List Int) (h : Sl w v (zs.map (Value.int .u64))) (hw : ∀ z ∈ zs, (Lit.int .u64 z).wf = true) (a : Option Addr) (cp : Nat) (l : List Call) (hm : l.length ≤ maxLen) (hP : InRow w a 4 Call.cells l) :
  Calls Try.prog 7 #[p.val, v, .slice a l.length cp] w fun e w' => e = .returned (.bool true) ∧ Mod [] w w' := by
 obtain ⟨ds, hds, hdx⟩ := u64s hw
 rw [hds] at h
 clear hds hw
 by_cases hd60 : ds.length ≤ 60
 ·cases hL : lightB l with
  | true => exact exact_main w p v ds h hdx hd60 a cp l hm hP hL
  | false =>
    have LI := Lib.hid (fun W (hM : Mod [] w W) => light_any (inrow_mod hP hM) hm cp)
    rw [hL] at LI
    obtain ⟨da, dc, rfl⟩ := sl_slice h
    have hdl : (v64 ds).length = ds.length := by simp [v64]
    rw [hdl]
    have d60 : decide ((60 : Int) < (ds.length : Int)) = false := by simp; omega
    obtain ⟨p0, p1, p2, p3, p4, p5, p6, p7, p8⟩ := p
    simp only [Plan.val] at *
    have M0 := Lib.hid ((Mod.refl [] w).alloc (.cells #[.int .i64 p0, .int .i64 p1, .int .i64 p2, .int .i64 p3, .int .i64 p4, .int .i64 p5, .int .i64 p6, .int .i64 p7, .bool p8] 23))
    clear hP hm hL h hdx hd60 hdl
    generalize ds.length = dn at *
    generalize l.length = n at *
    go_enter Try.func7, Try.ntmps7
    go_wp2_with fail
    refine (fit_any _).mono ?_
    rintro e1 w1 ⟨rfl, hM1⟩
    have M1 := Lib.hid (M0.out.trans hM1)
    clear hM1
    go_wp2_with fail
    refine (LI.out _ M1.out).mono ?_
    rintro e2 w2 ⟨rfl, hM2⟩
    go_wp2_with fail
    go_ret
    exact ⟨rfl, M1.out.trans hM2⟩
 ·obtain ⟨da, dc, rfl⟩ := sl_slice h
  have hdl : (v64 ds).length = ds.length := by simp [v64]
  rw [hdl]
  have d60 : decide ((60 : Int) < (ds.length : Int)) = true := by simp; omega
  obtain ⟨p0, p1, p2, p3, p4, p5, p6, p7, p8⟩ := p
  simp only [Plan.val] at *
  have M0 := Lib.hid ((Mod.refl [] w).alloc (.cells #[.int .i64 p0, .int .i64 p1, .int .i64 p2, .int .i64 p3, .int .i64 p4, .int .i64 p5, .int .i64 p6, .int .i64 p7, .bool p8] 23))
  clear hP hm h hdx hd60 hdl
  generalize ds.length = dn at *
  generalize l.length = n at *
  go_enter Try.func7, Try.ntmps7
  go_wp2_with fail
  refine (fit_any _).mono ?_
  rintro e1 w1 ⟨rfl, hM1⟩
  have M1 := Lib.hid (M0.out.trans hM1)
  clear hM1
  go_wp2_with fail
  go_ret
  exact ⟨rfl, M1.out⟩
end Go.Proofs.Ytndekdafiaogmaa.Lim
end
