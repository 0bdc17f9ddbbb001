/- limiter's laws: LimiterTotals. No condition. -/
import Derived.Test.YtndekdafiaogmaaZLimB
import Derived.Deep.Cut
section
namespace Go.Proofs.Ytndekdafiaogmaa.Lim
open Go Go.RowKit Go.YtndekdafiaogmaaMem Go.YtndekdafiaogmaaLex Go.Proofs.Ytndekdafiaogmaa.Hash Go.Proofs.Ytndekdafiaogmaa.Arith Go.Proofs.Ytndekdafiaogmaa.Index Go.Proofs.Ytndekdafiaogmaa.Cell Go.Proofs.Ytndekdafiaogmaa.Slot
open Go.Proofs.Ytndekdafiaogmaa.Pool (PS putP remP pairs PB PoolAt firstIdle)
open Go.Proofs.Ytndekdafiaogmaa.Ring (Rs RiB RingAt estS addR waitS massS Small small_get leastV leastV_small ring0)
open Go.Proofs.Ytndekdafiaogmaa.Sum (Ent OkE SB SumAt countE leastOf)
set_option linter.unusedVariables false
set_option linter.unusedSimpArgs false

theorem inrow_mod {α : Type} {w w' : World} {a : Option Addr} {k : Nat} {enc : α → List Value} {l : List α} (h : InRow w a k enc l) (hm : Mod [] w w') : InRow w' a k enc l := by
  intro i x hx
  obtain ⟨b, off, ha, hb, hc⟩ := h i x hx
  exact ⟨b, off, ha, hm.lt hb, fun j u hu => (hm.cell (a := ⟨b, off + i * k + j, none⟩) hb (by simp)).trans (hc j u hu)⟩
theorem inrow_get {w : World} {a : Option Addr} {l : List Call} (h : InRow w a 4 Call.cells l) {j : Nat} {q : Call} (hq : l[j]? = some q) :
    ∃ b off, a = some ⟨b, off, none⟩ ∧ ∀ W, Mod [] w W → W.cell? ⟨b, off + j * 4, none⟩ = some (.int .i64 q.gap) ∧ W.cell? ⟨b, off + j * 4 + 1, none⟩ = some (.int .i64 q.cost) ∧ W.cell? ⟨b, off + j * 4 + 2, none⟩ = some (.string ⟨q.key.toArray⟩) ∧ W.cell? ⟨b, off + j * 4 + 3, none⟩ = some (.bool q.peek) := by
  obtain ⟨b, off, ha, hb, hc⟩ := h j q hq
  exact ⟨b, off, ha, fun W hM => ⟨(hM.cell (a := ⟨b, off + j * 4, none⟩) hb (by simp)).trans (hc 0 _ rfl), (hM.cell (a := ⟨b, off + j * 4 + 1, none⟩) hb (by simp)).trans (hc 1 _ rfl), (hM.cell (a := ⟨b, off + j * 4 + 2, none⟩) hb (by simp)).trans (hc 2 _ rfl), (hM.cell (a := ⟨b, off + j * 4 + 3, none⟩) hb (by simp)).trans (hc 3 _ rfl)⟩⟩
theorem light_spec {l : List Call} (h : lightB l = true) : l.length ≤ 150 ∧ ∀ q ∈ l, q.key.length ≤ 64 := by
  unfold lightB at h
  simp only [Bool.and_eq_true, decide_eq_true_eq, List.all_eq_true] at h
  exact h
/-- What a law's loop keeps of a limiter. -/
structure Kept (c : Cf) (s : Lm) (k now : Nat) : Prop where
  inv : Inv c s (65 * k)
  time : s.ring.now ≤ now ∧ now ≤ 1023 * k
  t : 0 ≤ s.t ∧ s.t ≤ 63 * k
  len : s.pool.S.length = c.r.cells.toNat
theorem kept0 (c : Cf) (hc : c.Ok) : Kept c (new0 c) 0 0 := by
  refine ⟨new0_inv c hc, ⟨Nat.le_refl _, Nat.le_refl _⟩, by simp [new0], by simp [new0, emp]⟩
theorem Kept.check {c : Cf} {s : Lm} {k now : Nat} (h : Kept c s k now) (hc : c.Ok) (hl : c.r.limit ≤ 32) (hk : k < 150) (hf : s.ring.st.length ≤ 65) {g : Nat} (hg : g ≤ 1023) (held : Int) {key : List UInt8} (hkey : key.length ≤ 64) {n : Nat} (hn : n ≤ 63) :
    Kept c (check c s ((now + g : Nat) : Int) held key n).2.2 (k + 1) (now + g) := by
  have hstep : c.step = 2 * c.r.limit.toNat + 1 := rfl
  have h1 := h.time
  obtain ⟨i1, i2, i3⟩ := h.inv.check hc hf (now := now + g) (by omega) held key n (by omega)
  refine ⟨i1.mono (by omega) (by omega), ⟨i3, by omega⟩, ?_, ?_⟩
  · rw [check_t]
    have ht := h.t
    split
    · rename_i hr
      cases hr2 : refuse c.r ((now + g : Nat) : Int) held n with
      | some a => rw [hr2] at hr; simp at hr
      | none =>
        have := (refuse_none hr2).1
        rw [offer_t (key := key) (cost := (n : Int)) (by omega) hkey (by omega)]
        omega
    · omega
  · rw [check_slen]; exact h.len
theorem wrap_small {z : Int} (h0 : -4611686018427387904 ≤ z) (h1 : z ≤ 4611686018427387904) : wrap64 z = z := by unfold wrap64; omega
theorem mod7 {k m : Nat} (h : k % 7 = m) : (k : Int) % 7 = (m : Int) := by omega
theorem tmod7 {k m : Nat} (h : k % 7 = m) : (k : Int).tmod 7 = (m : Int) := by rw [Int.tmod_eq_emod_of_nonneg (Int.natCast_nonneg k)]; exact mod7 h
theorem small_all {k t : Nat} {al de bad st : Int} (hk : k ≤ 149) (ht : t ≤ 1023 * k) (h1 : 0 ≤ al ∧ al ≤ ((65 * k : Nat) : Int)) (h2 : 0 ≤ de ∧ de ≤ ((65 * k : Nat) : Int)) (h3 : 0 ≤ bad ∧ bad ≤ ((65 * k : Nat) : Int)) (h4 : 0 ≤ st ∧ st ≤ 63 * (k : Int)) :
    k ≤ 149 ∧ t ≤ 200000 ∧ (0 ≤ al ∧ al ≤ 10000) ∧ (0 ≤ de ∧ de ≤ 10000) ∧ (0 ≤ bad ∧ bad ≤ 10000) ∧ 0 ≤ st ∧ st ≤ 10000 := by omega
/-- What the law counts. -/
def wantV (s : Lm) : List Value := [.int .i64 s.al, .int .i64 s.de, .int .i64 s.bad, .int .i64 ((Keys.used s.pool.S : Nat) : Int), .int .i64 s.t]
set_option maxRecDepth 8000 in
set_option maxHeartbeats 12800000 in
theorem totals_main (p : Plan) (w : World) (a : Option Addr) (cp : Nat) (l : List Call) (hP : InRow w a 4 Call.cells l) (hm : l.length ≤ maxLen) (hL : lightB l = true) :
    Calls Try.prog 4 #[p.val, .slice a l.length cp] w fun e w' => e = .returned (.bool true) ∧ Mod [] w w' := by
  obtain ⟨hl150, hkeys⟩ := light_spec hL
  obtain ⟨hro, hlim⟩ := rule_ok p
  have LI := Lib.hid (fun W (hM : Mod [] w W) => light_any (inrow_mod hP hM) hm cp)
  rw [hL] at LI
  have GET := Lib.hid (fun j q (hq : l[j]? = some q) => inrow_get hP hq)
  have KEY := Lib.hid (fun j q (hq : l[j]? = some q) => hkeys q (List.mem_of_getElem? hq))
  have RU := Lib.hid (fun W : World => rule_any p W)
  obtain ⟨r, hr⟩ : ∃ r, p.rule = r := ⟨_, rfl⟩
  rw [hr] at RU hro hlim
  have HRO := Lib.hid hro
  have NW := Lib.hid (fun (W : World) v (hv : Sl W v (v64 [9])) => new_any hv (by simp) r hro)
  have CO := Lib.hid (fun z (W : World) => cost_any r (by have := hro.burst; omega) z W)
  obtain ⟨c, hc⟩ : ∃ c, cfOf r [9] = c := ⟨_, rfl⟩
  have hcr : c.r = r := by rw [← hc]; rfl
  have HCR := Lib.hid hcr
  have HC := Lib.hid (show c.Ok by rw [← hc]; exact hro.cf [9])
  rw [hc] at NW
  have HLIM := Lib.hid hlim
  have hbur := hro.burst
  obtain ⟨p0, p1, p2, p3, p4, p5, p6, p7, p8⟩ := p
  obtain ⟨r0, r1, r2, r3, r4, r5, r6, r7, r8⟩ := r
  simp only [Plan.val, Rule.val] at *
  have PB0 := Lib.hid (Blk.new w [.int .i64 p0, .int .i64 p1, .int .i64 p2, .int .i64 p3, .int .i64 p4, .int .i64 p5, .int .i64 p6, .int .i64 p7, .bool p8] 23)
  have M0 := Lib.hid ((Mod.refl [] w).alloc (.cells #[.int .i64 p0, .int .i64 p1, .int .i64 p2, .int .i64 p3, .int .i64 p4, .int .i64 p5, .int .i64 p6, .int .i64 p7, .bool p8] 23))
  obtain ⟨n, hn⟩ : ∃ n, l.length = n := ⟨_, rfl⟩
  have HN := Lib.hid hn
  rw [hn] at LI hl150 ⊢
  clear hP hm hL hkeys hro hr hc hcr hlim hn
  go_enter Try.func4, Try.ntmps4
  go_wp2_with fail
  refine (fit_any _).mono ?_
  rintro e1 w1 ⟨rfl, hM1⟩
  have M1 := Lib.hid (M0.out.trans hM1)
  have PB1 := Lib.hid (hM1.blk PB0.out (by simp))
  clear hM1
  go_wp2_with fail
  refine (LI.out _ M1.out).mono ?_
  rintro e2 w2 ⟨rfl, hM2⟩
  have M2 := Lib.hid (M1.out.trans hM2)
  have PB2 := Lib.hid (hM2.blk PB1.out (by simp))
  have b0 := PB2.out.cell (i := 0) rfl
  have b1 := PB2.out.cell (i := 1) rfl
  have b2 := PB2.out.cell (i := 2) rfl
  have b3 := PB2.out.cell (i := 3) rfl
  have b4 := PB2.out.cell (i := 4) rfl
  have b5 := PB2.out.cell (i := 5) rfl
  have b6 := PB2.out.cell (i := 6) rfl
  have b7 := PB2.out.cell (i := 7) rfl
  have b8 := PB2.out.cell (i := 8) rfl
  clear hM2
  go_wp2_with fail
  refine (RU.out _).mono ?_
  rintro e3 w3 ⟨rfl, hM3⟩
  have M3 := Lib.hid (M2.out.trans hM3)
  have RB3 := Lib.hid ((Blk.new w3 [.int .i64 r0, .int .i64 r1, .int .i64 r2, .int .i64 r3, .int .i64 r4, .int .i64 r5, .int .i64 r6, .int .i64 r7, .bool r8] 29).alloc (.cells #[.int .u64 9] 47))
  have DR := Lib.hid (Blk.new (w3.alloc (.cells #[.int .i64 r0, .int .i64 r1, .int .i64 r2, .int .i64 r3, .int .i64 r4, .int .i64 r5, .int .i64 r6, .int .i64 r7, .bool r8] 29)) [.int .u64 9] 47)
  have A3 := Lib.hid (((Mod.refl [] w3).alloc (.cells #[.int .i64 r0, .int .i64 r1, .int .i64 r2, .int .i64 r3, .int .i64 r4, .int .i64 r5, .int .i64 r6, .int .i64 r7, .bool r8] 29)).alloc (.cells #[.int .u64 9] 47))
  rw [show (w3.alloc (.cells #[.int .i64 r0, .int .i64 r1, .int .i64 r2, .int .i64 r3, .int .i64 r4, .int .i64 r5, .int .i64 r6, .int .i64 r7, .bool r8] 29)).heap.size = w3.heap.size + 1 by simp] at DR
  clear hM3 b0 b1 b2 b3 b4 b5 b6 b7 b8
  simp only [Rule.val]
  have hsl : Sl ((w3.alloc (.cells #[.int .i64 r0, .int .i64 r1, .int .i64 r2, .int .i64 r3, .int .i64 r4, .int .i64 r5, .int .i64 r6, .int .i64 r7, .bool r8] 29)).alloc (.cells #[.int .u64 9] 47)) (.slice (some ⟨w3.heap.size + 1, 0, none⟩) 1 1) (v64 [9]) :=
    .inr ⟨w3.heap.size + 1, 0, 1, rfl, Nat.le_refl _, by unfold maxLen; omega, DR.out.lt, fun i u hu => by rw [Nat.zero_add]; exact DR.out.cell hu⟩
  have SL := Lib.hid hsl
  clear hsl
  go_wp2_with fail
  refine (NW.out _ _ SL.out).mono ?_
  rintro e4 w4 ⟨B, rfl, hL4, hB4, hrb4, hM4⟩
  have BL := Lib.hid (show (∀ b, b ∈ B.all → w.heap.size < b) ∧ w3.heap.size ∉ B.all from by
    have h1 := M3.out.size
    have h2 := PB2.out.lt
    have h3 : w3.heap.size + 2 ≤ ((w3.alloc (.cells #[.int .i64 r0, .int .i64 r1, .int .i64 r2, .int .i64 r3, .int .i64 r4, .int .i64 r5, .int .i64 r6, .int .i64 r7, .bool r8] 29)).alloc (.cells #[.int .u64 9] 47)).heap.size := by simp
    exact ⟨fun b hb => by have := hB4 b hb; omega, fun hb => by have := hB4 _ hb; omega⟩)
  have RB4 := Lib.hid (hM4.blk RB3.out (by simp))
  have L4 := Lib.hid (hL4.mod0 ((Mod.refl [] w4).alloc (.cells #[.int .i64 0, .int .i64 0, .int .i64 0, .int .i64 0, .int .i64 0] 49)))
  have WB4 := Lib.hid (Blk.new w4 [.int .i64 0, .int .i64 0, .int .i64 0, .int .i64 0, .int .i64 0] 49)
  have hwb : w4.heap.size ∉ B.all := fun hb => by have := hL4.lt _ hb; omega
  have HWB := Lib.hid hwb
  have HRB := Lib.hid (show B.Q.rb ≠ w4.heap.size from by have h : B.Q.rb < w4.heap.size := (hL4.ring.each 0 (by have := hL4.ring.few.1; omega)).rows.1; omega)
  have M4 := Lib.hid (((M3.out.trans A3.out).trans hM4).alloc (.cells #[.int .i64 0, .int .i64 0, .int .i64 0, .int .i64 0, .int .i64 0] 49))
  have RB5 := Lib.hid (RB4.out.alloc (.cells #[.int .i64 0, .int .i64 0, .int .i64 0, .int .i64 0, .int .i64 0] 49))
  have hz4 : w3.heap.size < w4.heap.size := RB4.out.lt
  have hz34 : w.heap.size ≤ w3.heap.size := M3.out.size
  clear hL4 hB4 hrb4 hM4 hwb
  go_wp2_with fail
  -- LOOP (wip/tools/glaw12_1.py)
  go_loopw [8, 28] (fun now i W => ∃ (k t : Nat) (s : Lm), k ≤ n ∧ i = .int .i64 (k : Int) ∧ now = .int .i64 (t : Int) ∧ LimAt W B c s ∧ Kept c s k t ∧ Blk W w4.heap.size 49 (wantV s) ∧ Blk W w3.heap.size 29 [.int .i64 r0, .int .i64 r1, .int .i64 r2, .int .i64 r3, .int .i64 r4, .int .i64 r5, .int .i64 r6, .int .i64 r7, .bool r8] ∧ Mod [] w W) (fun _ i _ => n - (intOf i).toNat)
  case atStart =>
    refine ⟨0, 0, new0 c, Nat.zero_le _, rfl, rfl, L4.out, kept0 c HC.out, ?_, RB5.out, M4.out⟩
    have : wantV (new0 c) = [.int .i64 0, .int .i64 0, .int .i64 0, .int .i64 0, .int .i64 0] := by unfold wantV; simp [new0, used_emp]
    rw [this]; exact WB4.out
  case round =>
    obtain ⟨k, t, s, hk, rfl, rfl, hLr, hKr, hWr, hRr, hM⟩ := hrel
    have LR := Lib.hid hLr
    have HK := Lib.hid hKr
    have WR := Lib.hid hWr
    have RR := Lib.hid hRr
    have MR := Lib.hid hM
    by_cases hlt : k < n
    · obtain ⟨q, hq⟩ : ∃ q, l[k]? = some q := ⟨_, List.getElem?_eq_getElem (by have := HN.out; omega)⟩
      obtain ⟨b, off, rfl, hcells⟩ := GET.out k q hq
      have hk64 := KEY.out k q hq
      obtain ⟨x0, x1, x2, x3⟩ := hcells wr hM
      obtain ⟨gz, cz, key, pk⟩ := q
      simp only at x0 x1 x2 x3 hk64
      have HF := Lib.hid (hLr.ring.few.2)
      have CC := Lib.hid (Blk.new wr [.int .i64 gz, .int .i64 cz, .string ⟨key.toArray⟩, .bool pk] 35)
      have AC := Lib.hid ((Mod.refl [] wr).alloc (.cells #[.int .i64 gz, .int .i64 cz, .string ⟨key.toArray⟩, .bool pk] 35))
      have hrw : w3.heap.size < wr.heap.size := hRr.lt
      have hrw' : ¬ w3.heap.size = wr.heap.size := by omega
      have hti := hKr.time
      have htu := hKr.t
      have hbig := hKr.inv.big
      have hal := hKr.inv.al
      have hde := hKr.inv.de
      have hbad := hKr.inv.bad
      have rb0 := hRr.cell (i := 0) rfl
      have rb1 := hRr.cell (i := 1) rfl
      have rb2 := hRr.cell (i := 2) rfl
      have rb3 := hRr.cell (i := 3) rfl
      have rb4 := hRr.cell (i := 4) rfl
      have rb5 := hRr.cell (i := 5) rfl
      have rb6 := hRr.cell (i := 6) rfl
      have rb7 := hRr.cell (i := 7) rfl
      have rb8 := hRr.cell (i := 8) rfl
      have dk : decide ((k : Int) < (n : Int)) = true := by simp; omega
      obtain ⟨hk150, ht2, ⟨ha0, ha1⟩, ⟨hd0, hd1⟩, ⟨hb0, hb1⟩, hs0, hs1⟩ := small_all (show k ≤ 149 by omega) hti.2 hal hde hbad htu
      clear hal hde hbad htu hbig
      clear hLr hKr hWr hRr hM hcells hq
      go_wp2_with fail
      refine (gap_any gz _).mono ?_
      rintro e5 w5 ⟨g, rfl, hg, rfl⟩
      go_wp2_with fail
      refine (CO.out cz _).mono ?_
      rintro e6 w6 ⟨n1, rfl, hn1, hM6⟩
      have MC6 := Lib.hid (AC.out.trans hM6)
      have WR6 := Lib.hid (MC6.out.blk WR.out (by simp))
      have RB6 := Lib.hid (MC6.out.blk RR.out (by simp))
      have CC6 := Lib.hid (hM6.blk CC.out (by simp))
      have cc2 := CC6.out.cell (i := 2) rfl
      have hlim2 : c.r.limit ≤ 32 := by rw [HCR.out]; exact HLIM.out
      have hcb : c.r.burst = r2 := by rw [HCR.out]
      obtain ⟨m7, hm7⟩ : ∃ m7, k % 7 = m7 := ⟨_, rfl⟩
      have hme := mod7 hm7
      have htm := tmod7 hm7
      have hm7l : m7 < 7 := by omega
      clear hM6 x0 x1 x2 x3 rb0 rb1 rb2 rb3 rb4 rb5 rb6 rb7 rb8 hm7
      by_cases h73 : m7 = 3
      · subst h73
        have CK := Lib.hid (fun W (hL : LimAt W B c s) => check_any hL HK.out.inv HC.out (by have : c.step = 2 * c.r.limit.toNat + 1 := rfl; omega) (now := t + g) (by have := HK.out.time; omega) 5 key (by omega) (n1 : Int))
        have K2a := HK.out.check HC.out (by omega) (by omega) HF.out hg 5 hk64 hn1
        have hta := check_tally c s ((t + g : Nat) : Int) 5 key (n1 : Int)
        have htt := check_t c s ((t + g : Nat) : Int) 5 key (n1 : Int)
        have hvd := check_verdict c s ((t + g : Nat) : Int) 5 key (n1 : Int)
        have hrf : ∀ a, refuse c.r ((t + g : Nat) : Int) 5 (n1 : Int) = some a → check c s ((t + g : Nat) : Int) 5 key (n1 : Int) = (a, [], s.count a.verdict) := fun a ha => by unfold check; rw [ha]
        have hrn : refuse c.r ((t + g : Nat) : Int) 5 (n1 : Int) = none → (check c s ((t + g : Nat) : Int) 5 key (n1 : Int)).1.verdict = 1 ∨ (check c s ((t + g : Nat) : Int) 5 key (n1 : Int)).1.verdict = 2 := fun ha => by
          unfold check; rw [ha]; exact answer_verdict _ _ _ _ _ _
        cases hrr : refuse c.r ((t + g : Nat) : Int) 5 (n1 : Int) with
        | none => exact absurd (refuse_none hrr).2.2 (by omega)
        | some a0 =>
          have he := hrf a0 hrr
          rw [hrr, if_neg (by simp)] at htt
          rcases refuse_verdict hrr with ⟨hv0, _, _⟩ | ⟨hv0, _⟩
          · have hvv : (check c s ((t + g : Nat) : Int) 5 key (n1 : Int)).1.verdict = 2 := by rw [he]; exact hv0
            clear he hrf hrn hrr

            rcases hck : check c s ((t + g : Nat) : Int) 5 key (n1 : Int) with ⟨⟨av, ar, at_⟩, ev, s2⟩
            rw [hck] at CK K2a hta htt hvd hvv
            simp only at K2a hta htt hvd hvv
            have hck2 := hck
            rw [show ((t + g : Nat) : Int) = (t : Int) + (g : Int) by omega] at CK
            have K2 := Lib.hid K2a
            have DU : Hid (decide (r4 < ((Keys.used s2.pool.S : Nat) : Int)) = false) := Lib.hid (by
              have h1 := used_le s2.pool.S
              have h2 := K2a.len
              rw [HCR.out] at h2
              have h3 := HRO.out.cells
              simp only at h2 h3
              simp; omega)
            have hv : av = 2 := by exact hvv
            subst hv
            have TA : Hid (s2.al = s.al ∧ s2.de = s.de + 1 ∧ s2.bad = s.bad) := Lib.hid (by simp [tally, plus] at hta; exact hta)
            have TT : Hid (s2.t = s.t) := Lib.hid (by exact htt)
            clear hta htt hvd hvv hck hck2 K2a
            go_wp2_with fail
            refine (CK.out _ (LR.out.mod0 MC6.out)).mono ?_
            rintro e7 w7 ⟨v7, rfl, hO7, hL7, hM7⟩
            obtain ⟨a7, c7, rfl⟩ := hO7.slice
            have L7 := Lib.hid hL7
            have W7 := Lib.hid (hM7.blk WR6.out HWB.out)
            have R7 := Lib.hid (hM7.blk RB6.out BL.out.2)
            have M7 := Lib.hid ((MR.out.trans MC6.out).trans' hM7 (fun b hb => .inr (by have := BL.out.1 b hb; omega)))
            have z0 := W7.out.cell (i := 0) rfl
            have z1 := W7.out.cell (i := 1) rfl
            have z2 := W7.out.cell (i := 2) rfl
            have z3 := W7.out.cell (i := 3) rfl
            have z4 := W7.out.cell (i := 4) rfl
            have y0 := W7.out.free 0
            have y1 := W7.out.free 1
            have y2 := W7.out.free 2
            have y4 := W7.out.free 4
            have rb2 := R7.out.cell (i := 2) rfl
            have h37 : w3.heap.size < w7.heap.size := R7.out.lt
            have hn37 : ¬ w3.heap.size = w7.heap.size := by omega
            clear hO7 hL7 hM7
            simp only [Ans.val]
            have MS8 := Lib.hid (((Mod.refl [w4.heap.size] w7).setCell (p := ⟨w4.heap.size, 1, none⟩) (.inl (by simp)) (.int .i64 (s.de + 1))).alloc (.cells #[.int .i64 2, .int .i64 ar, .int .i64 at_] 39))
            have WB8 := Lib.hid ((W7.out.set 1 (.int .i64 (s.de + 1))).alloc (.cells #[.int .i64 2, .int .i64 ar, .int .i64 at_] 39))
            have hne7 : w4.heap.size < w7.heap.size := W7.out.lt
            have hnq7 : ¬ w4.heap.size = w7.heap.size := by omega
            have hnq7' : ¬ w7.heap.size = w4.heap.size := by omega
            go_upto_region 27 with (fail)
            obtain ⟨w8, hw8⟩ : ∃ w8, ((w7.setCell ⟨w4.heap.size, 1, none⟩ (.int .i64 (s.de + 1))).alloc (.cells #[.int .i64 2, .int .i64 ar, .int .i64 at_] 39)) = w8 := ⟨_, rfl⟩
            rw [hw8] at MS8 ⊢
            have WB8' : Hid (Blk w8 w4.heap.size 49 [.int .i64 s.al, .int .i64 (s.de + 1), .int .i64 s.bad, .int .i64 ((Keys.used s.pool.S : Nat) : Int), .int .i64 s.t]) := Lib.hid (by rw [← hw8]; exact WB8.out)
            have AN8 : Hid (w8.cell? ⟨w7.heap.size, 0, none⟩ = some (.int .i64 2)) := Lib.hid (by
              rw [← hw8]
              have AX := (Blk.new (w7.setCell ⟨w4.heap.size, 1, none⟩ (.int .i64 (s.de + 1))) [.int .i64 2, .int .i64 ar, .int .i64 at_] 39).cell (i := 0) rfl
              rw [show (w7.setCell ⟨w4.heap.size, 1, none⟩ (.int .i64 (s.de + 1))).heap.size = w7.heap.size by simp [World.setCell]] at AX
              exact AX)
            clear hw8 WB8
            have L8 := Lib.hid (L7.out.mod MS8.out (fun b hb hb' => HWB.out (by simp at hb'; rw [← hb']; exact hb)) (fun hb' => HRB.out (by simpa using hb')))
            have RB8 := Lib.hid (MS8.out.blk R7.out (by simp; omega))
            have M8 := Lib.hid (M7.out.trans' MS8.out (fun b hb => .inr (by simp at hb; omega)))
            have h78 : w7.heap.size < w8.heap.size := cell_lt AN8.out
            go_wp2_with fail
            refine (totals_any L8.out).mono ?_
            rintro e9 w9 ⟨rfl, hM9⟩
            unfold totV
            rw [TA.out.1, TA.out.2.1, TA.out.2.2, TT.out]
            have W9 := Lib.hid (hM9.blk WB8'.out (by simp))
            have RB9 := Lib.hid (hM9.blk RB8.out (by simp))
            have AN9 := (hM9.cell (a := ⟨w7.heap.size, 0, none⟩) h78 (by simp)).trans AN8.out
            have L9 := Lib.hid (L8.out.mod0 hM9)
            have M9 := Lib.hid (M8.out.trans hM9)
            have z0 := W9.out.cell (i := 0) rfl
            have z1 := W9.out.cell (i := 1) rfl
            have z2 := W9.out.cell (i := 2) rfl
            have z3 := W9.out.cell (i := 3) rfl
            have z4 := W9.out.cell (i := 4) rfl
            have y3 := W9.out.free 3
            have rb4 := RB9.out.cell (i := 4) rfl
            have h9 : w4.heap.size < w9.heap.size := W9.out.lt
            have h9' : w3.heap.size < w9.heap.size := RB9.out.lt
            have h9'' : w7.heap.size < w9.heap.size := hM9.lt h78
            have hn9 : ¬ w4.heap.size = w9.heap.size := by omega
            have hn9' : ¬ w9.heap.size = w4.heap.size := by omega
            have hn9'' : ¬ w3.heap.size = w9.heap.size := by omega
            have hn9x : ¬ w7.heap.size = w9.heap.size := by omega
            have h34 : ¬ w3.heap.size = w4.heap.size := by omega
            have h34' : ¬ w4.heap.size = w3.heap.size := by omega
            have dus := DU.out
            clear hM9
            go_wp2_with fail
            go_roundw
            case rel =>
              have MF := ((Mod.refl [w4.heap.size] w9).setCell (p := ⟨w4.heap.size, 3, none⟩) (.inl (by simp)) (.int .i64 ((Keys.used s2.pool.S : Nat) : Int))).alloc (.cells #[.int .i64 s.al, .int .i64 (s.de + 1), .int .i64 s.bad, .int .i64 ((Keys.used s2.pool.S : Nat) : Int), .int .i64 s.t] 49)
              refine ⟨k + 1, t + g, s2, by omega, by go_num, by go_num, L9.out.mod MF (fun b hb hb' => HWB.out (by simp at hb'; rw [← hb']; exact hb)) (fun hb' => HRB.out (by simpa using hb')), K2.out, ?_, MF.blk RB9.out (by simp; omega), M9.out.trans' MF (fun b hb => .inr (by simp at hb; omega))⟩
              unfold wantV
              rw [TA.out.1, TA.out.2.1, TA.out.2.2, TT.out]
              exact (W9.out.set 3 _).alloc _
            case measure => simp [intOf]; omega
          · have hvv : (check c s ((t + g : Nat) : Int) 5 key (n1 : Int)).1.verdict = 3 := by rw [he]; exact hv0
            clear he hrf hrn hrr

            rcases hck : check c s ((t + g : Nat) : Int) 5 key (n1 : Int) with ⟨⟨av, ar, at_⟩, ev, s2⟩
            rw [hck] at CK K2a hta htt hvd hvv
            simp only at K2a hta htt hvd hvv
            have hck2 := hck
            rw [show ((t + g : Nat) : Int) = (t : Int) + (g : Int) by omega] at CK
            have K2 := Lib.hid K2a
            have DU : Hid (decide (r4 < ((Keys.used s2.pool.S : Nat) : Int)) = false) := Lib.hid (by
              have h1 := used_le s2.pool.S
              have h2 := K2a.len
              rw [HCR.out] at h2
              have h3 := HRO.out.cells
              simp only at h2 h3
              simp; omega)
            have hv : av = 3 := by exact hvv
            subst hv
            have TA : Hid (s2.al = s.al ∧ s2.de = s.de ∧ s2.bad = s.bad + 1) := Lib.hid (by simp [tally, plus] at hta; exact hta)
            have TT : Hid (s2.t = s.t) := Lib.hid (by exact htt)
            clear hta htt hvd hvv hck hck2 K2a
            go_wp2_with fail
            refine (CK.out _ (LR.out.mod0 MC6.out)).mono ?_
            rintro e7 w7 ⟨v7, rfl, hO7, hL7, hM7⟩
            obtain ⟨a7, c7, rfl⟩ := hO7.slice
            have L7 := Lib.hid hL7
            have W7 := Lib.hid (hM7.blk WR6.out HWB.out)
            have R7 := Lib.hid (hM7.blk RB6.out BL.out.2)
            have M7 := Lib.hid ((MR.out.trans MC6.out).trans' hM7 (fun b hb => .inr (by have := BL.out.1 b hb; omega)))
            have z0 := W7.out.cell (i := 0) rfl
            have z1 := W7.out.cell (i := 1) rfl
            have z2 := W7.out.cell (i := 2) rfl
            have z3 := W7.out.cell (i := 3) rfl
            have z4 := W7.out.cell (i := 4) rfl
            have y0 := W7.out.free 0
            have y1 := W7.out.free 1
            have y2 := W7.out.free 2
            have y4 := W7.out.free 4
            have rb2 := R7.out.cell (i := 2) rfl
            have h37 : w3.heap.size < w7.heap.size := R7.out.lt
            have hn37 : ¬ w3.heap.size = w7.heap.size := by omega
            clear hO7 hL7 hM7
            simp only [Ans.val]
            have MS8 := Lib.hid (((Mod.refl [w4.heap.size] w7).setCell (p := ⟨w4.heap.size, 2, none⟩) (.inl (by simp)) (.int .i64 (s.bad + 1))).alloc (.cells #[.int .i64 3, .int .i64 ar, .int .i64 at_] 39))
            have WB8 := Lib.hid ((W7.out.set 2 (.int .i64 (s.bad + 1))).alloc (.cells #[.int .i64 3, .int .i64 ar, .int .i64 at_] 39))
            have hne7 : w4.heap.size < w7.heap.size := W7.out.lt
            have hnq7 : ¬ w4.heap.size = w7.heap.size := by omega
            have hnq7' : ¬ w7.heap.size = w4.heap.size := by omega
            go_upto_region 27 with (fail)
            obtain ⟨w8, hw8⟩ : ∃ w8, ((w7.setCell ⟨w4.heap.size, 2, none⟩ (.int .i64 (s.bad + 1))).alloc (.cells #[.int .i64 3, .int .i64 ar, .int .i64 at_] 39)) = w8 := ⟨_, rfl⟩
            rw [hw8] at MS8 ⊢
            have WB8' : Hid (Blk w8 w4.heap.size 49 [.int .i64 s.al, .int .i64 s.de, .int .i64 (s.bad + 1), .int .i64 ((Keys.used s.pool.S : Nat) : Int), .int .i64 s.t]) := Lib.hid (by rw [← hw8]; exact WB8.out)
            have AN8 : Hid (w8.cell? ⟨w7.heap.size, 0, none⟩ = some (.int .i64 3)) := Lib.hid (by
              rw [← hw8]
              have AX := (Blk.new (w7.setCell ⟨w4.heap.size, 2, none⟩ (.int .i64 (s.bad + 1))) [.int .i64 3, .int .i64 ar, .int .i64 at_] 39).cell (i := 0) rfl
              rw [show (w7.setCell ⟨w4.heap.size, 2, none⟩ (.int .i64 (s.bad + 1))).heap.size = w7.heap.size by simp [World.setCell]] at AX
              exact AX)
            clear hw8 WB8
            have L8 := Lib.hid (L7.out.mod MS8.out (fun b hb hb' => HWB.out (by simp at hb'; rw [← hb']; exact hb)) (fun hb' => HRB.out (by simpa using hb')))
            have RB8 := Lib.hid (MS8.out.blk R7.out (by simp; omega))
            have M8 := Lib.hid (M7.out.trans' MS8.out (fun b hb => .inr (by simp at hb; omega)))
            have h78 : w7.heap.size < w8.heap.size := cell_lt AN8.out
            go_wp2_with fail
            refine (totals_any L8.out).mono ?_
            rintro e9 w9 ⟨rfl, hM9⟩
            unfold totV
            rw [TA.out.1, TA.out.2.1, TA.out.2.2, TT.out]
            have W9 := Lib.hid (hM9.blk WB8'.out (by simp))
            have RB9 := Lib.hid (hM9.blk RB8.out (by simp))
            have AN9 := (hM9.cell (a := ⟨w7.heap.size, 0, none⟩) h78 (by simp)).trans AN8.out
            have L9 := Lib.hid (L8.out.mod0 hM9)
            have M9 := Lib.hid (M8.out.trans hM9)
            have z0 := W9.out.cell (i := 0) rfl
            have z1 := W9.out.cell (i := 1) rfl
            have z2 := W9.out.cell (i := 2) rfl
            have z3 := W9.out.cell (i := 3) rfl
            have z4 := W9.out.cell (i := 4) rfl
            have y3 := W9.out.free 3
            have rb4 := RB9.out.cell (i := 4) rfl
            have h9 : w4.heap.size < w9.heap.size := W9.out.lt
            have h9' : w3.heap.size < w9.heap.size := RB9.out.lt
            have h9'' : w7.heap.size < w9.heap.size := hM9.lt h78
            have hn9 : ¬ w4.heap.size = w9.heap.size := by omega
            have hn9' : ¬ w9.heap.size = w4.heap.size := by omega
            have hn9'' : ¬ w3.heap.size = w9.heap.size := by omega
            have hn9x : ¬ w7.heap.size = w9.heap.size := by omega
            have h34 : ¬ w3.heap.size = w4.heap.size := by omega
            have h34' : ¬ w4.heap.size = w3.heap.size := by omega
            have dus := DU.out
            clear hM9
            go_wp2_with fail
            go_roundw
            case rel =>
              have MF := ((Mod.refl [w4.heap.size] w9).setCell (p := ⟨w4.heap.size, 3, none⟩) (.inl (by simp)) (.int .i64 ((Keys.used s2.pool.S : Nat) : Int))).alloc (.cells #[.int .i64 s.al, .int .i64 s.de, .int .i64 (s.bad + 1), .int .i64 ((Keys.used s2.pool.S : Nat) : Int), .int .i64 s.t] 49)
              refine ⟨k + 1, t + g, s2, by omega, by go_num, by go_num, L9.out.mod MF (fun b hb hb' => HWB.out (by simp at hb'; rw [← hb']; exact hb)) (fun hb' => HRB.out (by simpa using hb')), K2.out, ?_, MF.blk RB9.out (by simp; omega), M9.out.trans' MF (fun b hb => .inr (by simp at hb; omega))⟩
              unfold wantV
              rw [TA.out.1, TA.out.2.1, TA.out.2.2, TT.out]
              exact (W9.out.set 3 _).alloc _
            case measure => simp [intOf]; omega
      · have h7b : ((m7 : Int) == 3) = false := by simp; omega
        have CK := Lib.hid (fun W (hL : LimAt W B c s) => check_any hL HK.out.inv HC.out (by have : c.step = 2 * c.r.limit.toNat + 1 := rfl; omega) (now := t + g) (by have := HK.out.time; omega) 0 key (by omega) (n1 : Int))
        have K2a := HK.out.check HC.out (by omega) (by omega) HF.out hg 0 hk64 hn1
        have hta := check_tally c s ((t + g : Nat) : Int) 0 key (n1 : Int)
        have htt := check_t c s ((t + g : Nat) : Int) 0 key (n1 : Int)
        have hvd := check_verdict c s ((t + g : Nat) : Int) 0 key (n1 : Int)
        have hrf : ∀ a, refuse c.r ((t + g : Nat) : Int) 0 (n1 : Int) = some a → check c s ((t + g : Nat) : Int) 0 key (n1 : Int) = (a, [], s.count a.verdict) := fun a ha => by unfold check; rw [ha]
        have hrn : refuse c.r ((t + g : Nat) : Int) 0 (n1 : Int) = none → (check c s ((t + g : Nat) : Int) 0 key (n1 : Int)).1.verdict = 1 ∨ (check c s ((t + g : Nat) : Int) 0 key (n1 : Int)).1.verdict = 2 := fun ha => by
          unfold check; rw [ha]; exact answer_verdict _ _ _ _ _ _
        cases hrr : refuse c.r ((t + g : Nat) : Int) 0 (n1 : Int) with
        | none =>
          have hin := (refuse_none hrr).1
          rw [hrr, if_pos (show (none : Option Ans).isNone = true from rfl), offer_t key _ (by omega) hk64 (by omega)] at htt
          have d1 : decide (1 ≤ (n1 : Int)) = true := by simp; omega
          have d1' : decide (1 ≤ n1) = true := by simp; omega
          have d2 : decide ((n1 : Int) ≤ r2) = true := by simp; omega
          rcases hrn hrr with hvv | hvv
          · clear hrf hrn hrr

            rcases hck : check c s ((t + g : Nat) : Int) 0 key (n1 : Int) with ⟨⟨av, ar, at_⟩, ev, s2⟩
            rw [hck] at CK K2a hta htt hvd hvv
            simp only at K2a hta htt hvd hvv
            have hck2 := hck
            rw [show ((t + g : Nat) : Int) = (t : Int) + (g : Int) by omega] at CK
            have K2 := Lib.hid K2a
            have DU : Hid (decide (r4 < ((Keys.used s2.pool.S : Nat) : Int)) = false) := Lib.hid (by
              have h1 := used_le s2.pool.S
              have h2 := K2a.len
              rw [HCR.out] at h2
              have h3 := HRO.out.cells
              simp only at h2 h3
              simp; omega)
            have hv : av = 1 := by exact hvv
            subst hv
            have TA : Hid (s2.al = s.al + 1 ∧ s2.de = s.de ∧ s2.bad = s.bad) := Lib.hid (by simp [tally, plus] at hta; exact hta)
            have TT : Hid (s2.t = s.t + n1) := Lib.hid (by exact htt)
            clear hta htt hvd hvv hck hck2 K2a
            go_wp2_with fail
            refine (CK.out _ (LR.out.mod0 MC6.out)).mono ?_
            rintro e7 w7 ⟨v7, rfl, hO7, hL7, hM7⟩
            obtain ⟨a7, c7, rfl⟩ := hO7.slice
            have L7 := Lib.hid hL7
            have W7 := Lib.hid (hM7.blk WR6.out HWB.out)
            have R7 := Lib.hid (hM7.blk RB6.out BL.out.2)
            have M7 := Lib.hid ((MR.out.trans MC6.out).trans' hM7 (fun b hb => .inr (by have := BL.out.1 b hb; omega)))
            have z0 := W7.out.cell (i := 0) rfl
            have z1 := W7.out.cell (i := 1) rfl
            have z2 := W7.out.cell (i := 2) rfl
            have z3 := W7.out.cell (i := 3) rfl
            have z4 := W7.out.cell (i := 4) rfl
            have y0 := W7.out.free 0
            have y1 := W7.out.free 1
            have y2 := W7.out.free 2
            have y4 := W7.out.free 4
            have rb2 := R7.out.cell (i := 2) rfl
            have h37 : w3.heap.size < w7.heap.size := R7.out.lt
            have hn37 : ¬ w3.heap.size = w7.heap.size := by omega
            clear hO7 hL7 hM7
            simp only [Ans.val]
            have MS8 := Lib.hid ((((Mod.refl [w4.heap.size] w7).setCell (p := ⟨w4.heap.size, 0, none⟩) (.inl (by simp)) (.int .i64 (s.al + 1))).setCell (p := ⟨w4.heap.size, 4, none⟩) (.inl (by simp)) (.int .i64 (s.t + n1))).alloc (.cells #[.int .i64 1, .int .i64 ar, .int .i64 at_] 39))
            have WB8 := Lib.hid (((W7.out.set 0 (.int .i64 (s.al + 1))).set 4 (.int .i64 (s.t + n1))).alloc (.cells #[.int .i64 1, .int .i64 ar, .int .i64 at_] 39))
            have hne7 : w4.heap.size < w7.heap.size := W7.out.lt
            have hnq7 : ¬ w4.heap.size = w7.heap.size := by omega
            have hnq7' : ¬ w7.heap.size = w4.heap.size := by omega
            go_upto_region 27 with (fail)
            obtain ⟨w8, hw8⟩ : ∃ w8, (((w7.setCell ⟨w4.heap.size, 0, none⟩ (.int .i64 (s.al + 1))).setCell ⟨w4.heap.size, 4, none⟩ (.int .i64 (s.t + n1))).alloc (.cells #[.int .i64 1, .int .i64 ar, .int .i64 at_] 39)) = w8 := ⟨_, rfl⟩
            rw [hw8] at MS8 ⊢
            have WB8' : Hid (Blk w8 w4.heap.size 49 [.int .i64 (s.al + 1), .int .i64 s.de, .int .i64 s.bad, .int .i64 ((Keys.used s.pool.S : Nat) : Int), .int .i64 (s.t + n1)]) := Lib.hid (by rw [← hw8]; exact WB8.out)
            have AN8 : Hid (w8.cell? ⟨w7.heap.size, 0, none⟩ = some (.int .i64 1)) := Lib.hid (by
              rw [← hw8]
              have AX := (Blk.new ((w7.setCell ⟨w4.heap.size, 0, none⟩ (.int .i64 (s.al + 1))).setCell ⟨w4.heap.size, 4, none⟩ (.int .i64 (s.t + n1))) [.int .i64 1, .int .i64 ar, .int .i64 at_] 39).cell (i := 0) rfl
              rw [show ((w7.setCell ⟨w4.heap.size, 0, none⟩ (.int .i64 (s.al + 1))).setCell ⟨w4.heap.size, 4, none⟩ (.int .i64 (s.t + n1))).heap.size = w7.heap.size by simp [World.setCell]] at AX
              exact AX)
            clear hw8 WB8
            have L8 := Lib.hid (L7.out.mod MS8.out (fun b hb hb' => HWB.out (by simp at hb'; rw [← hb']; exact hb)) (fun hb' => HRB.out (by simpa using hb')))
            have RB8 := Lib.hid (MS8.out.blk R7.out (by simp; omega))
            have M8 := Lib.hid (M7.out.trans' MS8.out (fun b hb => .inr (by simp at hb; omega)))
            have h78 : w7.heap.size < w8.heap.size := cell_lt AN8.out
            go_wp2_with fail
            refine (totals_any L8.out).mono ?_
            rintro e9 w9 ⟨rfl, hM9⟩
            unfold totV
            rw [TA.out.1, TA.out.2.1, TA.out.2.2, TT.out]
            have W9 := Lib.hid (hM9.blk WB8'.out (by simp))
            have RB9 := Lib.hid (hM9.blk RB8.out (by simp))
            have AN9 := (hM9.cell (a := ⟨w7.heap.size, 0, none⟩) h78 (by simp)).trans AN8.out
            have L9 := Lib.hid (L8.out.mod0 hM9)
            have M9 := Lib.hid (M8.out.trans hM9)
            have z0 := W9.out.cell (i := 0) rfl
            have z1 := W9.out.cell (i := 1) rfl
            have z2 := W9.out.cell (i := 2) rfl
            have z3 := W9.out.cell (i := 3) rfl
            have z4 := W9.out.cell (i := 4) rfl
            have y3 := W9.out.free 3
            have rb4 := RB9.out.cell (i := 4) rfl
            have h9 : w4.heap.size < w9.heap.size := W9.out.lt
            have h9' : w3.heap.size < w9.heap.size := RB9.out.lt
            have h9'' : w7.heap.size < w9.heap.size := hM9.lt h78
            have hn9 : ¬ w4.heap.size = w9.heap.size := by omega
            have hn9' : ¬ w9.heap.size = w4.heap.size := by omega
            have hn9'' : ¬ w3.heap.size = w9.heap.size := by omega
            have hn9x : ¬ w7.heap.size = w9.heap.size := by omega
            have h34 : ¬ w3.heap.size = w4.heap.size := by omega
            have h34' : ¬ w4.heap.size = w3.heap.size := by omega
            have dus := DU.out
            clear hM9
            go_wp2_with fail
            go_roundw
            case rel =>
              have MF := ((Mod.refl [w4.heap.size] w9).setCell (p := ⟨w4.heap.size, 3, none⟩) (.inl (by simp)) (.int .i64 ((Keys.used s2.pool.S : Nat) : Int))).alloc (.cells #[.int .i64 (s.al + 1), .int .i64 s.de, .int .i64 s.bad, .int .i64 ((Keys.used s2.pool.S : Nat) : Int), .int .i64 (s.t + n1)] 49)
              refine ⟨k + 1, t + g, s2, by omega, by go_num, by go_num, L9.out.mod MF (fun b hb hb' => HWB.out (by simp at hb'; rw [← hb']; exact hb)) (fun hb' => HRB.out (by simpa using hb')), K2.out, ?_, MF.blk RB9.out (by simp; omega), M9.out.trans' MF (fun b hb => .inr (by simp at hb; omega))⟩
              unfold wantV
              rw [TA.out.1, TA.out.2.1, TA.out.2.2, TT.out]
              exact (W9.out.set 3 _).alloc _
            case measure => simp [intOf]; omega
          · clear hrf hrn hrr

            rcases hck : check c s ((t + g : Nat) : Int) 0 key (n1 : Int) with ⟨⟨av, ar, at_⟩, ev, s2⟩
            rw [hck] at CK K2a hta htt hvd hvv
            simp only at K2a hta htt hvd hvv
            have hck2 := hck
            rw [show ((t + g : Nat) : Int) = (t : Int) + (g : Int) by omega] at CK
            have K2 := Lib.hid K2a
            have DU : Hid (decide (r4 < ((Keys.used s2.pool.S : Nat) : Int)) = false) := Lib.hid (by
              have h1 := used_le s2.pool.S
              have h2 := K2a.len
              rw [HCR.out] at h2
              have h3 := HRO.out.cells
              simp only at h2 h3
              simp; omega)
            have hv : av = 2 := by exact hvv
            subst hv
            have TA : Hid (s2.al = s.al ∧ s2.de = s.de + 1 ∧ s2.bad = s.bad) := Lib.hid (by simp [tally, plus] at hta; exact hta)
            have TT : Hid (s2.t = s.t + n1) := Lib.hid (by exact htt)
            clear hta htt hvd hvv hck hck2 K2a
            go_wp2_with fail
            refine (CK.out _ (LR.out.mod0 MC6.out)).mono ?_
            rintro e7 w7 ⟨v7, rfl, hO7, hL7, hM7⟩
            obtain ⟨a7, c7, rfl⟩ := hO7.slice
            have L7 := Lib.hid hL7
            have W7 := Lib.hid (hM7.blk WR6.out HWB.out)
            have R7 := Lib.hid (hM7.blk RB6.out BL.out.2)
            have M7 := Lib.hid ((MR.out.trans MC6.out).trans' hM7 (fun b hb => .inr (by have := BL.out.1 b hb; omega)))
            have z0 := W7.out.cell (i := 0) rfl
            have z1 := W7.out.cell (i := 1) rfl
            have z2 := W7.out.cell (i := 2) rfl
            have z3 := W7.out.cell (i := 3) rfl
            have z4 := W7.out.cell (i := 4) rfl
            have y0 := W7.out.free 0
            have y1 := W7.out.free 1
            have y2 := W7.out.free 2
            have y4 := W7.out.free 4
            have rb2 := R7.out.cell (i := 2) rfl
            have h37 : w3.heap.size < w7.heap.size := R7.out.lt
            have hn37 : ¬ w3.heap.size = w7.heap.size := by omega
            clear hO7 hL7 hM7
            simp only [Ans.val]
            have MS8 := Lib.hid ((((Mod.refl [w4.heap.size] w7).setCell (p := ⟨w4.heap.size, 1, none⟩) (.inl (by simp)) (.int .i64 (s.de + 1))).setCell (p := ⟨w4.heap.size, 4, none⟩) (.inl (by simp)) (.int .i64 (s.t + n1))).alloc (.cells #[.int .i64 2, .int .i64 ar, .int .i64 at_] 39))
            have WB8 := Lib.hid (((W7.out.set 1 (.int .i64 (s.de + 1))).set 4 (.int .i64 (s.t + n1))).alloc (.cells #[.int .i64 2, .int .i64 ar, .int .i64 at_] 39))
            have hne7 : w4.heap.size < w7.heap.size := W7.out.lt
            have hnq7 : ¬ w4.heap.size = w7.heap.size := by omega
            have hnq7' : ¬ w7.heap.size = w4.heap.size := by omega
            go_upto_region 27 with (fail)
            obtain ⟨w8, hw8⟩ : ∃ w8, (((w7.setCell ⟨w4.heap.size, 1, none⟩ (.int .i64 (s.de + 1))).setCell ⟨w4.heap.size, 4, none⟩ (.int .i64 (s.t + n1))).alloc (.cells #[.int .i64 2, .int .i64 ar, .int .i64 at_] 39)) = w8 := ⟨_, rfl⟩
            rw [hw8] at MS8 ⊢
            have WB8' : Hid (Blk w8 w4.heap.size 49 [.int .i64 s.al, .int .i64 (s.de + 1), .int .i64 s.bad, .int .i64 ((Keys.used s.pool.S : Nat) : Int), .int .i64 (s.t + n1)]) := Lib.hid (by rw [← hw8]; exact WB8.out)
            have AN8 : Hid (w8.cell? ⟨w7.heap.size, 0, none⟩ = some (.int .i64 2)) := Lib.hid (by
              rw [← hw8]
              have AX := (Blk.new ((w7.setCell ⟨w4.heap.size, 1, none⟩ (.int .i64 (s.de + 1))).setCell ⟨w4.heap.size, 4, none⟩ (.int .i64 (s.t + n1))) [.int .i64 2, .int .i64 ar, .int .i64 at_] 39).cell (i := 0) rfl
              rw [show ((w7.setCell ⟨w4.heap.size, 1, none⟩ (.int .i64 (s.de + 1))).setCell ⟨w4.heap.size, 4, none⟩ (.int .i64 (s.t + n1))).heap.size = w7.heap.size by simp [World.setCell]] at AX
              exact AX)
            clear hw8 WB8
            have L8 := Lib.hid (L7.out.mod MS8.out (fun b hb hb' => HWB.out (by simp at hb'; rw [← hb']; exact hb)) (fun hb' => HRB.out (by simpa using hb')))
            have RB8 := Lib.hid (MS8.out.blk R7.out (by simp; omega))
            have M8 := Lib.hid (M7.out.trans' MS8.out (fun b hb => .inr (by simp at hb; omega)))
            have h78 : w7.heap.size < w8.heap.size := cell_lt AN8.out
            go_wp2_with fail
            refine (totals_any L8.out).mono ?_
            rintro e9 w9 ⟨rfl, hM9⟩
            unfold totV
            rw [TA.out.1, TA.out.2.1, TA.out.2.2, TT.out]
            have W9 := Lib.hid (hM9.blk WB8'.out (by simp))
            have RB9 := Lib.hid (hM9.blk RB8.out (by simp))
            have AN9 := (hM9.cell (a := ⟨w7.heap.size, 0, none⟩) h78 (by simp)).trans AN8.out
            have L9 := Lib.hid (L8.out.mod0 hM9)
            have M9 := Lib.hid (M8.out.trans hM9)
            have z0 := W9.out.cell (i := 0) rfl
            have z1 := W9.out.cell (i := 1) rfl
            have z2 := W9.out.cell (i := 2) rfl
            have z3 := W9.out.cell (i := 3) rfl
            have z4 := W9.out.cell (i := 4) rfl
            have y3 := W9.out.free 3
            have rb4 := RB9.out.cell (i := 4) rfl
            have h9 : w4.heap.size < w9.heap.size := W9.out.lt
            have h9' : w3.heap.size < w9.heap.size := RB9.out.lt
            have h9'' : w7.heap.size < w9.heap.size := hM9.lt h78
            have hn9 : ¬ w4.heap.size = w9.heap.size := by omega
            have hn9' : ¬ w9.heap.size = w4.heap.size := by omega
            have hn9'' : ¬ w3.heap.size = w9.heap.size := by omega
            have hn9x : ¬ w7.heap.size = w9.heap.size := by omega
            have h34 : ¬ w3.heap.size = w4.heap.size := by omega
            have h34' : ¬ w4.heap.size = w3.heap.size := by omega
            have dus := DU.out
            clear hM9
            go_wp2_with fail
            go_roundw
            case rel =>
              have MF := ((Mod.refl [w4.heap.size] w9).setCell (p := ⟨w4.heap.size, 3, none⟩) (.inl (by simp)) (.int .i64 ((Keys.used s2.pool.S : Nat) : Int))).alloc (.cells #[.int .i64 s.al, .int .i64 (s.de + 1), .int .i64 s.bad, .int .i64 ((Keys.used s2.pool.S : Nat) : Int), .int .i64 (s.t + n1)] 49)
              refine ⟨k + 1, t + g, s2, by omega, by go_num, by go_num, L9.out.mod MF (fun b hb hb' => HWB.out (by simp at hb'; rw [← hb']; exact hb)) (fun hb' => HRB.out (by simpa using hb')), K2.out, ?_, MF.blk RB9.out (by simp; omega), M9.out.trans' MF (fun b hb => .inr (by simp at hb; omega))⟩
              unfold wantV
              rw [TA.out.1, TA.out.2.1, TA.out.2.2, TT.out]
              exact (W9.out.set 3 _).alloc _
            case measure => simp [intOf]; omega
        | some a0 =>
          have he := hrf a0 hrr
          rw [hrr, if_neg (by simp)] at htt
          have ho : a0.verdict = 3 ∧ ((n1 : Int) < 1 ∨ r2 < (n1 : Int)) := by
            rcases refuse_verdict hrr with ⟨_, h1, h2⟩ | ⟨h1, h2⟩
            · exfalso
              unfold refuse at hrr
              rw [if_neg (by omega), if_neg (by omega), if_neg (by omega)] at hrr
              cases hrr
            · exact ⟨h1, by rw [← hcb]; exact h2⟩
          have hvv : (check c s ((t + g : Nat) : Int) 0 key (n1 : Int)).1.verdict = 3 := by rw [he]; exact ho.1
          rcases ho.2 with ho2 | ho2
          · have d1 : decide (1 ≤ (n1 : Int)) = false := by simp; omega
            have d1' : decide (1 ≤ n1) = false := by simp; omega
            clear he hrf hrn hrr ho

            rcases hck : check c s ((t + g : Nat) : Int) 0 key (n1 : Int) with ⟨⟨av, ar, at_⟩, ev, s2⟩
            rw [hck] at CK K2a hta htt hvd hvv
            simp only at K2a hta htt hvd hvv
            have hck2 := hck
            rw [show ((t + g : Nat) : Int) = (t : Int) + (g : Int) by omega] at CK
            have K2 := Lib.hid K2a
            have DU : Hid (decide (r4 < ((Keys.used s2.pool.S : Nat) : Int)) = false) := Lib.hid (by
              have h1 := used_le s2.pool.S
              have h2 := K2a.len
              rw [HCR.out] at h2
              have h3 := HRO.out.cells
              simp only at h2 h3
              simp; omega)
            have hv : av = 3 := by exact hvv
            subst hv
            have TA : Hid (s2.al = s.al ∧ s2.de = s.de ∧ s2.bad = s.bad + 1) := Lib.hid (by simp [tally, plus] at hta; exact hta)
            have TT : Hid (s2.t = s.t) := Lib.hid (by exact htt)
            clear hta htt hvd hvv hck hck2 K2a
            go_wp2_with fail
            refine (CK.out _ (LR.out.mod0 MC6.out)).mono ?_
            rintro e7 w7 ⟨v7, rfl, hO7, hL7, hM7⟩
            obtain ⟨a7, c7, rfl⟩ := hO7.slice
            have L7 := Lib.hid hL7
            have W7 := Lib.hid (hM7.blk WR6.out HWB.out)
            have R7 := Lib.hid (hM7.blk RB6.out BL.out.2)
            have M7 := Lib.hid ((MR.out.trans MC6.out).trans' hM7 (fun b hb => .inr (by have := BL.out.1 b hb; omega)))
            have z0 := W7.out.cell (i := 0) rfl
            have z1 := W7.out.cell (i := 1) rfl
            have z2 := W7.out.cell (i := 2) rfl
            have z3 := W7.out.cell (i := 3) rfl
            have z4 := W7.out.cell (i := 4) rfl
            have y0 := W7.out.free 0
            have y1 := W7.out.free 1
            have y2 := W7.out.free 2
            have y4 := W7.out.free 4
            have rb2 := R7.out.cell (i := 2) rfl
            have h37 : w3.heap.size < w7.heap.size := R7.out.lt
            have hn37 : ¬ w3.heap.size = w7.heap.size := by omega
            clear hO7 hL7 hM7
            simp only [Ans.val]
            have MS8 := Lib.hid (((Mod.refl [w4.heap.size] w7).setCell (p := ⟨w4.heap.size, 2, none⟩) (.inl (by simp)) (.int .i64 (s.bad + 1))).alloc (.cells #[.int .i64 3, .int .i64 ar, .int .i64 at_] 39))
            have WB8 := Lib.hid ((W7.out.set 2 (.int .i64 (s.bad + 1))).alloc (.cells #[.int .i64 3, .int .i64 ar, .int .i64 at_] 39))
            have hne7 : w4.heap.size < w7.heap.size := W7.out.lt
            have hnq7 : ¬ w4.heap.size = w7.heap.size := by omega
            have hnq7' : ¬ w7.heap.size = w4.heap.size := by omega
            go_upto_region 27 with (fail)
            obtain ⟨w8, hw8⟩ : ∃ w8, ((w7.setCell ⟨w4.heap.size, 2, none⟩ (.int .i64 (s.bad + 1))).alloc (.cells #[.int .i64 3, .int .i64 ar, .int .i64 at_] 39)) = w8 := ⟨_, rfl⟩
            rw [hw8] at MS8 ⊢
            have WB8' : Hid (Blk w8 w4.heap.size 49 [.int .i64 s.al, .int .i64 s.de, .int .i64 (s.bad + 1), .int .i64 ((Keys.used s.pool.S : Nat) : Int), .int .i64 s.t]) := Lib.hid (by rw [← hw8]; exact WB8.out)
            have AN8 : Hid (w8.cell? ⟨w7.heap.size, 0, none⟩ = some (.int .i64 3)) := Lib.hid (by
              rw [← hw8]
              have AX := (Blk.new (w7.setCell ⟨w4.heap.size, 2, none⟩ (.int .i64 (s.bad + 1))) [.int .i64 3, .int .i64 ar, .int .i64 at_] 39).cell (i := 0) rfl
              rw [show (w7.setCell ⟨w4.heap.size, 2, none⟩ (.int .i64 (s.bad + 1))).heap.size = w7.heap.size by simp [World.setCell]] at AX
              exact AX)
            clear hw8 WB8
            have L8 := Lib.hid (L7.out.mod MS8.out (fun b hb hb' => HWB.out (by simp at hb'; rw [← hb']; exact hb)) (fun hb' => HRB.out (by simpa using hb')))
            have RB8 := Lib.hid (MS8.out.blk R7.out (by simp; omega))
            have M8 := Lib.hid (M7.out.trans' MS8.out (fun b hb => .inr (by simp at hb; omega)))
            have h78 : w7.heap.size < w8.heap.size := cell_lt AN8.out
            go_wp2_with fail
            refine (totals_any L8.out).mono ?_
            rintro e9 w9 ⟨rfl, hM9⟩
            unfold totV
            rw [TA.out.1, TA.out.2.1, TA.out.2.2, TT.out]
            have W9 := Lib.hid (hM9.blk WB8'.out (by simp))
            have RB9 := Lib.hid (hM9.blk RB8.out (by simp))
            have AN9 := (hM9.cell (a := ⟨w7.heap.size, 0, none⟩) h78 (by simp)).trans AN8.out
            have L9 := Lib.hid (L8.out.mod0 hM9)
            have M9 := Lib.hid (M8.out.trans hM9)
            have z0 := W9.out.cell (i := 0) rfl
            have z1 := W9.out.cell (i := 1) rfl
            have z2 := W9.out.cell (i := 2) rfl
            have z3 := W9.out.cell (i := 3) rfl
            have z4 := W9.out.cell (i := 4) rfl
            have y3 := W9.out.free 3
            have rb4 := RB9.out.cell (i := 4) rfl
            have h9 : w4.heap.size < w9.heap.size := W9.out.lt
            have h9' : w3.heap.size < w9.heap.size := RB9.out.lt
            have h9'' : w7.heap.size < w9.heap.size := hM9.lt h78
            have hn9 : ¬ w4.heap.size = w9.heap.size := by omega
            have hn9' : ¬ w9.heap.size = w4.heap.size := by omega
            have hn9'' : ¬ w3.heap.size = w9.heap.size := by omega
            have hn9x : ¬ w7.heap.size = w9.heap.size := by omega
            have h34 : ¬ w3.heap.size = w4.heap.size := by omega
            have h34' : ¬ w4.heap.size = w3.heap.size := by omega
            have dus := DU.out
            clear hM9
            go_wp2_with fail
            go_roundw
            case rel =>
              have MF := ((Mod.refl [w4.heap.size] w9).setCell (p := ⟨w4.heap.size, 3, none⟩) (.inl (by simp)) (.int .i64 ((Keys.used s2.pool.S : Nat) : Int))).alloc (.cells #[.int .i64 s.al, .int .i64 s.de, .int .i64 (s.bad + 1), .int .i64 ((Keys.used s2.pool.S : Nat) : Int), .int .i64 s.t] 49)
              refine ⟨k + 1, t + g, s2, by omega, by go_num, by go_num, L9.out.mod MF (fun b hb hb' => HWB.out (by simp at hb'; rw [← hb']; exact hb)) (fun hb' => HRB.out (by simpa using hb')), K2.out, ?_, MF.blk RB9.out (by simp; omega), M9.out.trans' MF (fun b hb => .inr (by simp at hb; omega))⟩
              unfold wantV
              rw [TA.out.1, TA.out.2.1, TA.out.2.2, TT.out]
              exact (W9.out.set 3 _).alloc _
            case measure => simp [intOf]; omega
          · have d2 : decide ((n1 : Int) ≤ r2) = false := by simp; omega
            have d1 : decide (1 ≤ (n1 : Int)) = true := by simp; omega
            have d1' : decide (1 ≤ n1) = true := by simp; omega
            clear he hrf hrn hrr ho

            rcases hck : check c s ((t + g : Nat) : Int) 0 key (n1 : Int) with ⟨⟨av, ar, at_⟩, ev, s2⟩
            rw [hck] at CK K2a hta htt hvd hvv
            simp only at K2a hta htt hvd hvv
            have hck2 := hck
            rw [show ((t + g : Nat) : Int) = (t : Int) + (g : Int) by omega] at CK
            have K2 := Lib.hid K2a
            have DU : Hid (decide (r4 < ((Keys.used s2.pool.S : Nat) : Int)) = false) := Lib.hid (by
              have h1 := used_le s2.pool.S
              have h2 := K2a.len
              rw [HCR.out] at h2
              have h3 := HRO.out.cells
              simp only at h2 h3
              simp; omega)
            have hv : av = 3 := by exact hvv
            subst hv
            have TA : Hid (s2.al = s.al ∧ s2.de = s.de ∧ s2.bad = s.bad + 1) := Lib.hid (by simp [tally, plus] at hta; exact hta)
            have TT : Hid (s2.t = s.t) := Lib.hid (by exact htt)
            clear hta htt hvd hvv hck hck2 K2a
            go_wp2_with fail
            refine (CK.out _ (LR.out.mod0 MC6.out)).mono ?_
            rintro e7 w7 ⟨v7, rfl, hO7, hL7, hM7⟩
            obtain ⟨a7, c7, rfl⟩ := hO7.slice
            have L7 := Lib.hid hL7
            have W7 := Lib.hid (hM7.blk WR6.out HWB.out)
            have R7 := Lib.hid (hM7.blk RB6.out BL.out.2)
            have M7 := Lib.hid ((MR.out.trans MC6.out).trans' hM7 (fun b hb => .inr (by have := BL.out.1 b hb; omega)))
            have z0 := W7.out.cell (i := 0) rfl
            have z1 := W7.out.cell (i := 1) rfl
            have z2 := W7.out.cell (i := 2) rfl
            have z3 := W7.out.cell (i := 3) rfl
            have z4 := W7.out.cell (i := 4) rfl
            have y0 := W7.out.free 0
            have y1 := W7.out.free 1
            have y2 := W7.out.free 2
            have y4 := W7.out.free 4
            have rb2 := R7.out.cell (i := 2) rfl
            have h37 : w3.heap.size < w7.heap.size := R7.out.lt
            have hn37 : ¬ w3.heap.size = w7.heap.size := by omega
            clear hO7 hL7 hM7
            simp only [Ans.val]
            have MS8 := Lib.hid (((Mod.refl [w4.heap.size] w7).setCell (p := ⟨w4.heap.size, 2, none⟩) (.inl (by simp)) (.int .i64 (s.bad + 1))).alloc (.cells #[.int .i64 3, .int .i64 ar, .int .i64 at_] 39))
            have WB8 := Lib.hid ((W7.out.set 2 (.int .i64 (s.bad + 1))).alloc (.cells #[.int .i64 3, .int .i64 ar, .int .i64 at_] 39))
            have hne7 : w4.heap.size < w7.heap.size := W7.out.lt
            have hnq7 : ¬ w4.heap.size = w7.heap.size := by omega
            have hnq7' : ¬ w7.heap.size = w4.heap.size := by omega
            go_upto_region 27 with (fail)
            obtain ⟨w8, hw8⟩ : ∃ w8, ((w7.setCell ⟨w4.heap.size, 2, none⟩ (.int .i64 (s.bad + 1))).alloc (.cells #[.int .i64 3, .int .i64 ar, .int .i64 at_] 39)) = w8 := ⟨_, rfl⟩
            rw [hw8] at MS8 ⊢
            have WB8' : Hid (Blk w8 w4.heap.size 49 [.int .i64 s.al, .int .i64 s.de, .int .i64 (s.bad + 1), .int .i64 ((Keys.used s.pool.S : Nat) : Int), .int .i64 s.t]) := Lib.hid (by rw [← hw8]; exact WB8.out)
            have AN8 : Hid (w8.cell? ⟨w7.heap.size, 0, none⟩ = some (.int .i64 3)) := Lib.hid (by
              rw [← hw8]
              have AX := (Blk.new (w7.setCell ⟨w4.heap.size, 2, none⟩ (.int .i64 (s.bad + 1))) [.int .i64 3, .int .i64 ar, .int .i64 at_] 39).cell (i := 0) rfl
              rw [show (w7.setCell ⟨w4.heap.size, 2, none⟩ (.int .i64 (s.bad + 1))).heap.size = w7.heap.size by simp [World.setCell]] at AX
              exact AX)
            clear hw8 WB8
            have L8 := Lib.hid (L7.out.mod MS8.out (fun b hb hb' => HWB.out (by simp at hb'; rw [← hb']; exact hb)) (fun hb' => HRB.out (by simpa using hb')))
            have RB8 := Lib.hid (MS8.out.blk R7.out (by simp; omega))
            have M8 := Lib.hid (M7.out.trans' MS8.out (fun b hb => .inr (by simp at hb; omega)))
            have h78 : w7.heap.size < w8.heap.size := cell_lt AN8.out
            go_wp2_with fail
            refine (totals_any L8.out).mono ?_
            rintro e9 w9 ⟨rfl, hM9⟩
            unfold totV
            rw [TA.out.1, TA.out.2.1, TA.out.2.2, TT.out]
            have W9 := Lib.hid (hM9.blk WB8'.out (by simp))
            have RB9 := Lib.hid (hM9.blk RB8.out (by simp))
            have AN9 := (hM9.cell (a := ⟨w7.heap.size, 0, none⟩) h78 (by simp)).trans AN8.out
            have L9 := Lib.hid (L8.out.mod0 hM9)
            have M9 := Lib.hid (M8.out.trans hM9)
            have z0 := W9.out.cell (i := 0) rfl
            have z1 := W9.out.cell (i := 1) rfl
            have z2 := W9.out.cell (i := 2) rfl
            have z3 := W9.out.cell (i := 3) rfl
            have z4 := W9.out.cell (i := 4) rfl
            have y3 := W9.out.free 3
            have rb4 := RB9.out.cell (i := 4) rfl
            have h9 : w4.heap.size < w9.heap.size := W9.out.lt
            have h9' : w3.heap.size < w9.heap.size := RB9.out.lt
            have h9'' : w7.heap.size < w9.heap.size := hM9.lt h78
            have hn9 : ¬ w4.heap.size = w9.heap.size := by omega
            have hn9' : ¬ w9.heap.size = w4.heap.size := by omega
            have hn9'' : ¬ w3.heap.size = w9.heap.size := by omega
            have hn9x : ¬ w7.heap.size = w9.heap.size := by omega
            have h34 : ¬ w3.heap.size = w4.heap.size := by omega
            have h34' : ¬ w4.heap.size = w3.heap.size := by omega
            have dus := DU.out
            clear hM9
            go_wp2_with fail
            go_roundw
            case rel =>
              have MF := ((Mod.refl [w4.heap.size] w9).setCell (p := ⟨w4.heap.size, 3, none⟩) (.inl (by simp)) (.int .i64 ((Keys.used s2.pool.S : Nat) : Int))).alloc (.cells #[.int .i64 s.al, .int .i64 s.de, .int .i64 (s.bad + 1), .int .i64 ((Keys.used s2.pool.S : Nat) : Int), .int .i64 s.t] 49)
              refine ⟨k + 1, t + g, s2, by omega, by go_num, by go_num, L9.out.mod MF (fun b hb hb' => HWB.out (by simp at hb'; rw [← hb']; exact hb)) (fun hb' => HRB.out (by simpa using hb')), K2.out, ?_, MF.blk RB9.out (by simp; omega), M9.out.trans' MF (fun b hb => .inr (by simp at hb; omega))⟩
              unfold wantV
              rw [TA.out.1, TA.out.2.1, TA.out.2.2, TT.out]
              exact (W9.out.set 3 _).alloc _
            case measure => simp [intOf]; omega
    · obtain rfl : k = n := by omega
      have dk : decide ((k : Int) < (k : Int)) = false := by simp
      clear hLr hKr hWr hRr hM
      go_wp2_with fail
      go_ret
      exact ⟨rfl, MR.out⟩
theorem totals_walk (p : Plan) (w : World) (a : Option Addr) (cp : Nat) (l : List Call) (hm : l.length ≤ maxLen) (hP : InRow w a 4 Call.cells l) :
    Calls Try.prog 4 #[p.val, .slice a l.length cp] w fun e w' => e = .returned (.bool true) ∧ Mod [] w w' := by
  cases hL : lightB l with
  | true => exact totals_main p w a cp l hP hm hL
  | false =>
    have LI := Lib.hid (fun W (hM : Mod [] w W) => light_any (inrow_mod hP hM) hm cp)
    rw [hL] at LI
    obtain ⟨p0, p1, p2, p3, p4, p5, p6, p7, p8⟩ := p
    simp only [Plan.val] at *
    have M0 := Lib.hid ((Mod.refl [] w).alloc (.cells #[.int .i64 p0, .int .i64 p1, .int .i64 p2, .int .i64 p3, .int .i64 p4, .int .i64 p5, .int .i64 p6, .int .i64 p7, .bool p8] 23))
    clear hP hm hL
    go_enter Try.func4, Try.ntmps4
    go_wp2_with fail
    refine (fit_any _).mono ?_
    rintro e1 w1 ⟨rfl, hM1⟩
    have M1 := Lib.hid (M0.out.trans hM1)
    clear hM1
    go_wp2_with fail
    refine (LI.out _ M1.out).mono ?_
    rintro e2 w2 ⟨rfl, hM2⟩
    go_wp2_with fail
    go_ret
    exact ⟨rfl, M1.out.trans hM2⟩
theorem totals_law (w : World) (p : Plan) (a : Option Addr) (cp : Nat) (l : List Call) (hm : l.length ≤ maxLen) (hP : InRow w a 4 Call.cells l) :
    Calls Try.prog 4 #[p.val, .slice a l.length cp] w fun e w' => e = .returned (.bool true) ∧ Mod [] w w' := totals_walk p w a cp l hm hP
end Go.Proofs.Ytndekdafiaogmaa.Lim
end
