/- the document's cell, unit by unit: Room. -/
import Derived.Test.YtndekdafiaogmaaZRefCell
import Derived.Deep.Cut
set_option linter.unusedSimpArgs false
set_option linter.unusedVariables false
section
namespace Go.Proofs.Ytndekdafiaogmaa.Lim
open Go Go.RowKit Go.YtndekdafiaogmaaMem Go.YtndekdafiaogmaaLex Go.Proofs.Ytndekdafiaogmaa.Hash Go.Proofs.Ytndekdafiaogmaa.Arith Go.Proofs.Ytndekdafiaogmaa.Index Go.Proofs.Ytndekdafiaogmaa.Cell Go.Proofs.Ytndekdafiaogmaa.Slot
def upF (p : Pace) (f now : Int) (k : Nat) : Int := if k = 0 then f else max f now + (k : Int) * p.unit
def okU (p : Pace) (f now : Int) (k : Nat) : Prop := k = 0 ∨ max f now + ((k : Int) - 1) * p.unit ≤ now + (p.burst - 1) * p.unit
section
variable {p : Pace} {f now : Int} {k : Nat}
theorem up_max (hu : 1 ≤ p.unit) : max (upF p f now k) now = max f now + (k : Int) * p.unit := by
 unfold upF
 have h0 : 0 ≤ (k : Int) * p.unit := Int.mul_nonneg (by omega) (by omega)
 split
 ·rename_i h; subst h; simp
 ·omega
theorem up_next (hu : 1 ≤ p.unit) : upF p f now (k + 1) = max (upF p f now k) now + p.unit := by
 rw [up_max hu]
 unfold upF
 rw [if_neg (by omega), show ((k + 1 : Nat) : Int) = (k : Int) + 1 by omega, Int.add_mul, Int.one_mul]
 omega
theorem up_in (hp : Tame p now) (hf : 0 ≤ f ∧ f ≤ 4611690416473899008) (hk : (k : Int) ≤ p.burst) (h : okU p f now k) : 0 ≤ upF p f now k ∧ upF p f now k ≤ 4611690416473899008 := by
 have hu := hp.unit
 have ha := hp.all
 have hn := hp.now
 have h0 : 0 ≤ (k : Int) * p.unit := Int.mul_nonneg (by omega) (by omega)
 rcases h with rfl | h
 ·exact hf
 ·unfold upF
  split
  ·exact hf
  ·rw [Int.sub_mul, Int.sub_mul] at h
   omega
theorem one_ok (hu : 1 ≤ p.unit) : oneB p (upF p f now k) now = true ↔ okU p f now (k + 1) := by
 unfold oneB okU
 rw [up_max hu, show ((k + 1 : Nat) : Int) - 1 = (k : Int) by omega]
 simp
theorem free_is (hp : Tame p now) (hk : (k : Int) ≤ p.burst) (h1 : okU p f now k) (h2 : (k : Int) = p.burst ∨ ¬ okU p f now (k + 1)) : (k : Int) = (only f).free p now := by
 have hu := hp.unit
 have e : ∀ z : Int, (z - 1) * p.unit = z * p.unit - p.unit := fun z => by rw [Int.sub_mul, Int.one_mul]
 have hkb : (k : Int) < p.burst → ((k : Int) + 1) * p.unit ≤ p.burst * p.unit := fun h => Int.mul_le_mul_of_nonneg_right (by omega) (by omega)
 have hk0 : 0 ≤ (k : Int) * p.unit := Int.mul_nonneg (by omega) (by omega)
 have hk1 : ((k : Int) + 1) * p.unit = (k : Int) * p.unit + p.unit := by rw [Int.add_mul, Int.one_mul]
 unfold okU at h1 h2
 rw [e, e] at h1
 rw [e, e, show ((k + 1 : Nat) : Int) = (k : Int) + 1 by omega, hk1] at h2
 unfold Cell.free
 show (k : Int) = if 0 < f - now then (if p.burst * p.unit < f - now then 0 else (p.burst * p.unit - (f - now)).tdiv p.unit) else p.burst
 split
 ·rename_i hf
  have hz : (k : Int) = 0 ∨ (k : Int) * p.unit ≤ p.burst * p.unit - (f - now) := by omega
  have hnb : ¬ (k : Int) = p.burst ∨ p.burst = 0 := by
   rcases hz with hz | hz
   ·omega
   ·left; intro hh; rw [hh] at hz; omega
  split
  ·rename_i hb
   rcases hz with hz | hz
   ·exact hz
   ·omega
  ·rename_i hb
   rw [Int.tdiv_eq_ediv_of_nonneg (by omega)]
   have g1 : (k : Int) ≤ (p.burst * p.unit - (f - now)) / p.unit := by
    rw [Int.le_ediv_iff_mul_le (by omega)]
    rcases hz with hz | hz
    ·rw [hz]; omega
    ·exact hz
   have g2 : (p.burst * p.unit - (f - now)) / p.unit < (k : Int) + 1 := by
    rw [Int.ediv_lt_iff_lt_mul (by omega)]
    rcases h2 with h2 | h2
    ·rcases hnb with hnb | hnb
     ·exact absurd h2 hnb
     ·rw [h2, hnb]; omega
    ·omega
   omega
 ·rename_i hf
  rcases Int.lt_or_le (k : Int) p.burst with h3 | h3
  ·have := hkb h3
   omega
  ·omega
end
def roomR (c : Cell) (r : Rule) (now : Int) : Int := if now - c.since < r.window then min (c.free r.pace now) (max (r.limit - c.carry - c.used) 0) else c.free r.pace now
theorem RuleOk.tame {r : Rule} (h : RuleOk r) {now : Int} (hn : 0 ≤ now ∧ now < 4611686018427387904) : Tame r.pace now := (h.cf []).tame hn
structure MildR (c : Cell) : Prop where
 full : 0 ≤ c.full ∧ c.full ≤ 4611690416473899008
 since : -1099511627776 ≤ c.since ∧ c.since < 4611686018427387904
 carry : 0 ≤ c.carry ∧ c.carry ≤ 2305843009213693952
 used : 0 ≤ c.used ∧ c.used ≤ 2305843009213693952
theorem only_mild {f : Int} (h : 0 ≤ f ∧ f ≤ 4611690416473899008) : Mild (only f) := by
 unfold only
 refine ⟨h, ?_, ?_, ?_⟩ <;> simp only <;> omega
set_option maxRecDepth 8000 in
set_option maxHeartbeats 3200000 in
theorem roomR_any (c : Cell) (r : Rule) (now : Int) (h : RuleOk r) (hn : 0 ≤ now ∧ now < 4611686018427387904) (hm : MildR c) (w : World) :
  Calls Try.prog 23 #[c.val, r.val, .int .i64 now] w fun e w' => e = .returned (.int .i64 (roomR c r now)) ∧ Mod [] w w' := by
 have ht := h.tame hn
 have hu := ht.unit
 have ONE := Lib.hid (fun (f : Int) (W : World) g (hf : 0 ≤ f ∧ f ≤ 4611690416473899008) (hB : Blk W g 62 ({ c with full := f } : Cell).cells) => oneR_any { c with full := f } r now h hn hf hB)
 have hsn : wrap64 (now - c.since) = now - c.since := by have := hm.since; unfold wrap64; omega
 have YO := Lib.hid (fun W : World => youngR_any c r now hsn W)
 have UPI := Lib.hid (fun (k : Nat) (hk : (k : Int) ≤ r.burst) hok => up_in (k := k) ht hm.full hk hok)
 have UPN := Lib.hid (fun k => up_next (f := c.full) (now := now) (k := k) hu.1)
 have OOK := Lib.hid (fun k => one_ok (f := c.full) (now := now) (k := k) hu.1)
 have FIS := Lib.hid (fun (k : Nat) (hk : (k : Int) ≤ r.burst) h1 (h2 : (k : Int) = r.burst ∨ ¬ okU r.pace c.full now (k + 1)) => free_is (f := c.full) (k := k) ht hk h1 h2)
 have FI := free_in (only_mild hm.full) ht
 have HB2 := Lib.hid (show r.burst ≤ r.limit from h.burst.2)
 have hrm : roomR c r now = if now - c.since < r.window then min ((only c.full).free r.pace now) (max (r.limit - c.carry - c.used) 0) else (only c.full).free r.pace now := rfl
 rw [hrm]
 have hfb : (only c.full).free r.pace now ≤ r.burst := FI.2
 obtain ⟨fr, hfr⟩ : ∃ z, (only c.full).free r.pace now = z := ⟨_, rfl⟩
 rw [hfr] at FIS FI hfb ⊢
 obtain ⟨rv, hrv⟩ : ∃ z, (if now - c.since < r.window then min fr (max (r.limit - c.carry - c.used) 0) else fr) = z := ⟨_, rfl⟩
 rw [hrv]
 have HRV := Lib.hid hrv
 clear hrv
 have hl := h.limit
 have hb := h.burst
 have hca := hm.carry
 have hus := hm.used
 have B0 := Lib.hid (Blk.new w c.cells 62)
 have hsz : (w.alloc (.cells c.cells.toArray 62)).heap.size = w.heap.size + 1 := by simp
 have B1 := Lib.hid (Blk.new (w.alloc (.cells c.cells.toArray 62)) r.vals 29)
 rw [hsz] at B1
 have hsz2 : ((w.alloc (.cells c.cells.toArray 62)).alloc (.cells r.vals.toArray 29)).heap.size = w.heap.size + 2 := by simp
 have B2 := Lib.hid (Blk.new ((w.alloc (.cells c.cells.toArray 62)).alloc (.cells r.vals.toArray 29)) c.cells 62)
 rw [hsz2] at B2
 have B1' := Lib.hid (B1.out.alloc (.cells c.cells.toArray 62))
 have B0' := Lib.hid ((B0.out.alloc (.cells r.vals.toArray 29)).alloc (.cells c.cells.toArray 62))
 have B0q := Lib.hid (B0.out.alloc (.cells r.vals.toArray 29))
 have M0 := Lib.hid ((((Mod.refl [] w).alloc (.cells c.cells.toArray 62)).alloc (.cells r.vals.toArray 29)).alloc (.cells c.cells.toArray 62))
 obtain ⟨p, hp⟩ : ∃ p, r.pace = p := ⟨_, rfl⟩
 unfold OnePost at ONE
 simp only at ONE
 have hup0 : upF r.pace c.full now 0 = c.full := rfl
 rw [hp] at ONE UPI UPN OOK FIS hup0
 clear hsz hsz2 hrm ht hu hsn hfr FI hm h hp
 obtain ⟨c0, c1, c2, c3⟩ := c
 obtain ⟨r0, r1, r2, r3, r4, r5, r6, r7, r8⟩ := r
 simp only [Rule.vals, Rule.val, Cell.val, Cell.cells] at *
 go_enter Try.func23, Try.ntmps23
 have l0 := B0q.out.cell (i := 0) rfl
 have l1 := B0q.out.cell (i := 1) rfl
 have l2 := B0q.out.cell (i := 2) rfl
 have l3 := B0q.out.cell (i := 3) rfl
 go_wp2_with fail
 clear l0 l1 l2 l3
 go_loopw [7] (fun n W => ∃ k : Nat, (k : Int) ≤ r2 ∧ n = .int .i64 (k : Int) ∧ okU p c0 now k ∧ Blk W (w.heap.size + 2) 62 [.int .i64 (upF p c0 now k), .int .i64 c1, .int .i64 c2, .int .i64 c3] ∧ Blk W (w.heap.size + 1) 29 [.int .i64 r0, .int .i64 r1, .int .i64 r2, .int .i64 r3, .int .i64 r4, .int .i64 r5, .int .i64 r6, .int .i64 r7, .bool r8] ∧ Blk W w.heap.size 62 [.int .i64 c0, .int .i64 c1, .int .i64 c2, .int .i64 c3] ∧ Mod [] w W) (fun n _ => (r2 - intOf n).toNat)
 case atStart => exact ⟨0, by omega, rfl, .inl rfl, B2.out, B1'.out, B0'.out, M0.out⟩
 case round =>
  obtain ⟨k, hk, rfl, hok, hD, hR, hC, hM⟩ := hrel
  have RR := Lib.hid hR
  have CR := Lib.hid hC
  have DR := Lib.hid hD
  have MR := Lib.hid hM
  have HU := Lib.hid (UPI.out k hk hok)
  by_cases hlt : (k : Int) < r2
  ·have dk : decide ((k : Int) < r2) = true := by simp [hlt]
   have rz0 := RR.out.cell (i := 0) rfl
   have rz1 := RR.out.cell (i := 1) rfl
   have rz2 := RR.out.cell (i := 2) rfl
   have rz3 := RR.out.cell (i := 3) rfl
   have rz4 := RR.out.cell (i := 4) rfl
   have rz5 := RR.out.cell (i := 5) rfl
   have rz6 := RR.out.cell (i := 6) rfl
   have rz7 := RR.out.cell (i := 7) rfl
   have rz8 := RR.out.cell (i := 8) rfl
   clear hD hR hC hM
   go_wp2_with fail
   refine (ONE.out _ _ _ HU.out DR.out).mono ?_
   rintro e2 w2 ⟨rfl, hD2, hM2⟩
   have M2 := Lib.hid (MR.out.trans' hM2 (fun x hx => .inr (by simp at hx; omega)))
   have R2 := Lib.hid (hM2.blk RR.out (by simp))
   have C2 := Lib.hid (hM2.blk CR.out (by simp))
   have D2 := Lib.hid hD2
   clear hD2 hM2 RR CR DR MR rz0 rz1 rz2 rz3 rz4 rz5 rz6 rz7 rz8
   by_cases hone : oneB p (upF p c0 now k) now = true
   ·have HOK2 := Lib.hid ((OOK.out k).1 hone)
    rw [hone] at D2 ⊢
    rw [if_pos rfl, ← UPN.out k] at D2
    clear hone
    go_wp2_with fail
    go_roundw
    case rel => exact ⟨k + 1, by omega, by go_num, HOK2.out, D2.out, R2.out, C2.out, M2.out⟩
    case measure => simp [intOf]; omega
   ·have HOK2 := Lib.hid (fun hh => hone ((OOK.out k).2 hh))
    have hone' : oneB p (upF p c0 now k) now = false := by simpa using hone
    have RR := Lib.hid R2.out
    have CR := Lib.hid C2.out
    have MR := Lib.hid M2.out
    rw [hone']
    have hkf : (k : Int) = fr := FIS.out k hk hok (.inr HOK2.out)
    subst hkf
    clear hone hone' D2 R2 C2 M2
    have rz0 := RR.out.cell (i := 0) rfl
    have rz1 := RR.out.cell (i := 1) rfl
    have rz2 := RR.out.cell (i := 2) rfl
    have rz3 := RR.out.cell (i := 3) rfl
    have rz4 := RR.out.cell (i := 4) rfl
    have rz5 := RR.out.cell (i := 5) rfl
    have rz6 := RR.out.cell (i := 6) rfl
    have rz7 := RR.out.cell (i := 7) rfl
    have rz8 := RR.out.cell (i := 8) rfl
    have cz0 := CR.out.cell (i := 0) rfl
    have cz1 := CR.out.cell (i := 1) rfl
    have cz2 := CR.out.cell (i := 2) rfl
    have cz3 := CR.out.cell (i := 3) rfl
    go_wp2_with fail
    refine (YO.out _).mono ?_
    rintro e3 w3 ⟨rfl, hM3⟩
    have RR3 := Lib.hid (hM3.blk RR.out (by simp))
    have CR3 := Lib.hid (hM3.blk CR.out (by simp))
    have M3 := Lib.hid (MR.out.trans hM3)
    clear hM3 rz0 rz1 rz2 rz3 rz4 rz5 rz6 rz7 rz8 cz0 cz1 cz2 cz3
    have rz0 := RR3.out.cell (i := 0) rfl
    have cz2 := CR3.out.cell (i := 2) rfl
    have cz3 := CR3.out.cell (i := 3) rfl
    by_cases hy : now - c1 < r1
    ·have dy : decide (now - c1 < r1) = true := by simp [hy]
     rw [dy]
     by_cases hl0 : r0 - c2 - c3 < 0
     ·have dl : decide (r0 - c2 - c3 < 0) = true := by simp [hl0]
      by_cases hk0 : 0 < (k : Int)
      ·have dk0 : decide (0 < (k : Int)) = true := by simp; omega
       have HV := Lib.hid (show rv = 0 from by rw [← HRV.out, if_pos hy]; omega)
       clear hy
       go_wp2_with fail
       go_ret
       exact ⟨by rw [HV.out]; rfl, M3.out⟩
      ·have dk0 : decide (0 < (k : Int)) = false := by simp; omega
       have HV := Lib.hid (show rv = (k : Int) from by rw [← HRV.out, if_pos hy]; omega)
       clear hy
       go_wp2_with fail
       go_ret
       exact ⟨by rw [HV.out]; rfl, M3.out⟩
     ·have dl : decide (r0 - c2 - c3 < 0) = false := by simp; omega
      by_cases hlk : r0 - c2 - c3 < (k : Int)
      ·have dk0 : decide (r0 - c2 - c3 < (k : Int)) = true := by simp; omega
       have HV := Lib.hid (show rv = r0 - c2 - c3 from by rw [← HRV.out, if_pos hy]; omega)
       clear hy
       go_wp2_with fail
       go_ret
       exact ⟨by rw [HV.out]; rfl, M3.out⟩
      ·have dk0 : decide (r0 - c2 - c3 < (k : Int)) = false := by simp; omega
       have HV := Lib.hid (show rv = (k : Int) from by rw [← HRV.out, if_pos hy]; omega)
       clear hy
       go_wp2_with fail
       go_ret
       exact ⟨by rw [HV.out]; rfl, M3.out⟩
    ·have dy : decide (now - c1 < r1) = false := by simp; omega
     rw [dy]
     have HV := Lib.hid (show rv = (k : Int) from by rw [← HRV.out, if_neg hy])
     clear hy
     go_wp2_with fail
     go_ret
     exact ⟨by rw [HV.out]; rfl, M3.out⟩
  ·have dk : decide ((k : Int) < r2) = false := by simp; omega
   have hkf : (k : Int) = fr := FIS.out k hk hok (.inl (by omega))
   subst hkf
   clear hD hR hC hM
   have rz0 := RR.out.cell (i := 0) rfl
   have rz1 := RR.out.cell (i := 1) rfl
   have rz2 := RR.out.cell (i := 2) rfl
   have rz3 := RR.out.cell (i := 3) rfl
   have rz4 := RR.out.cell (i := 4) rfl
   have rz5 := RR.out.cell (i := 5) rfl
   have rz6 := RR.out.cell (i := 6) rfl
   have rz7 := RR.out.cell (i := 7) rfl
   have rz8 := RR.out.cell (i := 8) rfl
   have cz0 := CR.out.cell (i := 0) rfl
   have cz1 := CR.out.cell (i := 1) rfl
   have cz2 := CR.out.cell (i := 2) rfl
   have cz3 := CR.out.cell (i := 3) rfl
   go_wp2_with fail
   refine (YO.out _).mono ?_
   rintro e3 w3 ⟨rfl, hM3⟩
   have RR3 := Lib.hid (hM3.blk RR.out (by simp))
   have CR3 := Lib.hid (hM3.blk CR.out (by simp))
   have M3 := Lib.hid (MR.out.trans hM3)
   clear hM3 rz0 rz1 rz2 rz3 rz4 rz5 rz6 rz7 rz8 cz0 cz1 cz2 cz3
   have rz0 := RR3.out.cell (i := 0) rfl
   have cz2 := CR3.out.cell (i := 2) rfl
   have cz3 := CR3.out.cell (i := 3) rfl
   by_cases hy : now - c1 < r1
   ·have dy : decide (now - c1 < r1) = true := by simp [hy]
    rw [dy]
    by_cases hl0 : r0 - c2 - c3 < 0
    ·have dl : decide (r0 - c2 - c3 < 0) = true := by simp [hl0]
     by_cases hk0 : 0 < (k : Int)
     ·have dk0 : decide (0 < (k : Int)) = true := by simp; omega
      have HV := Lib.hid (show rv = 0 from by rw [← HRV.out, if_pos hy]; omega)
      clear hy
      go_wp2_with fail
      go_ret
      exact ⟨by rw [HV.out]; rfl, M3.out⟩
     ·exfalso; omega
    ·have dl : decide (r0 - c2 - c3 < 0) = false := by simp; omega
     by_cases hlk : r0 - c2 - c3 < (k : Int)
     ·have dk0 : decide (r0 - c2 - c3 < (k : Int)) = true := by simp; omega
      have HV := Lib.hid (show rv = r0 - c2 - c3 from by rw [← HRV.out, if_pos hy]; omega)
      clear hy
      go_wp2_with fail
      go_ret
      exact ⟨by rw [HV.out]; rfl, M3.out⟩
     ·have dk0 : decide (r0 - c2 - c3 < (k : Int)) = false := by simp; omega
      have HV := Lib.hid (show rv = (k : Int) from by rw [← HRV.out, if_pos hy]; omega)
      clear hy
      go_wp2_with fail
      go_ret
      exact ⟨by rw [HV.out]; rfl, M3.out⟩
   ·have dy : decide (now - c1 < r1) = false := by simp; omega
    rw [dy]
    have HV := Lib.hid (show rv = (k : Int) from by rw [← HRV.out, if_neg hy])
    clear hy
    go_wp2_with fail
    go_ret
    exact ⟨by rw [HV.out]; rfl, M3.out⟩
end Go.Proofs.Ytndekdafiaogmaa.Lim
end
