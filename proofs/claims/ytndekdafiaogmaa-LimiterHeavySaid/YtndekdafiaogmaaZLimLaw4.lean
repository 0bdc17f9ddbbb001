/- limiter's laws: LimiterHeavy. No condition. (written by wip/tools) -/
import Derived.Test.YtndekdafiaogmaaZLimC
import Derived.Test.YtndekdafiaogmaaZLimPlain9
section
namespace Go.Proofs.Ytndekdafiaogmaa.Lim
open Go Go.RowKit Go.YtndekdafiaogmaaMem Go.YtndekdafiaogmaaLex Go.Proofs.Ytndekdafiaogmaa.Hash Go.Proofs.Ytndekdafiaogmaa.Arith Go.Proofs.Ytndekdafiaogmaa.Index Go.Proofs.Ytndekdafiaogmaa.Cell Go.Proofs.Ytndekdafiaogmaa.Slot
open Go.Proofs.Ytndekdafiaogmaa.Pool (PS putP remP pairs PB PoolAt firstIdle)
open Go.Proofs.Ytndekdafiaogmaa.Ring (Rs RiB RingAt estS addR waitS massS Small small_get leastV leastV_small ring0)
open Go.Proofs.Ytndekdafiaogmaa.Sum (Ent OkE SB SumAt countE leastOf)
set_option linter.unusedVariables false
set_option linter.unusedSimpArgs false

def heavyP (z : Int) : Plan := ⟨31, z, 0, 0, 0, 0, 15, 7, false⟩
theorem heavy_rule (z : Int) : (heavyP z).rule.burst = 1 ∧ (heavyP z).rule.cells = 1 ∧ (heavyP z).rule.track = 8 := ⟨by kernel_rfl, by kernel_rfl, by kernel_rfl⟩
def Stage (k : Nat) (s : Lm) : Prop := (k = 0 ∧ Lit s E1 1) ∨ (k = 1 ∧ Lit s E2 2)
set_option maxRecDepth 8000 in
set_option maxHeartbeats 12800000 in
theorem heavy_law (w : World) (z0 : Int) (hz0 : (Lit.int .i64 z0).wf = true) (z1 : Int) (hz1 : (Lit.int .i64 z1).wf = true) :
    Calls Try.prog 6 #[.int .i64 z0, .int .i64 z1] w fun e w' => e = .returned (.bool true) ∧ Mod [] w w' := by
  obtain ⟨hro, hlim⟩ := rule_ok (heavyP z0)
  obtain ⟨hb1, hc1, ht1⟩ := heavy_rule z0
  have RU := Lib.hid (fun W : World => rule_any (heavyP z0) W)
  obtain ⟨r, hr⟩ : ∃ r, (heavyP z0).rule = r := ⟨_, rfl⟩
  rw [hr] at RU hro hlim hb1 hc1 ht1
  have hwin := hro.window
  have hwb : r.window ≤ 1000000 := by
    have h1 := ba31 (heavyP z0).window
    have h3 := ba7 (heavyP z0).slots
    have hm1 : (ba (heavyP z0).window 31 + 1) * (ba (heavyP z0).slots 7 + 1) ≤ 32 * 8 := Int.mul_le_mul (by omega) (by omega) (by omega) (by omega)
    have : r.window = (ba (heavyP z0).window 31 + 1) * (ba (heavyP z0).slots 7 + 1) := by rw [← hr]; rfl
    omega
  have NW := Lib.hid (fun (W : World) v (hv : Sl W v (v64 [3, 1, 4])) => new_any hv (by simp) r hro)
  obtain ⟨c, hc⟩ : ∃ c, cfOf r [3, 1, 4] = c := ⟨_, rfl⟩
  have hcr : c.r = r := by rw [← hc]; rfl
  have hct : c.tr = 8 := by rw [← hc]; show r.track.toNat = 8; rw [ht1]; rfl
  have HC := Lib.hid (show c.Ok by rw [← hc]; exact hro.cf [3, 1, 4])
  rw [hc] at NW
  have hl32 : c.r.limit ≤ 32 := by rw [hcr]; exact hlim
  have H1 := Lib.hid (heavy1 (c := c) (by rw [hcr]; exact hb1) hct (by rw [hcr]; exact hc1))
  have H2 := Lib.hid (fun s (h : Lit s E1 1) => heavy2 (c := c) (s := s) (by rw [hcr]; exact hb1) hct (by rw [hcr]; omega) h)
  have H3 := Lib.hid (fun s (h : Lit s E2 2) => heavy3 (c := c) (s := s) (by rw [hcr]; exact hb1) hct (by rw [hcr]; omega) h)
  have K0 := Lib.hid (kept0 c HC.out)
  have hst : c.step = 2 * c.r.limit.toNat + 1 := rfl
  have hlen0 : (new0 c).ring.st.length ≤ 65 := by
    have hs := hro.slots
    show (List.replicate (c.r.slots.toNat + 1) (0 : Int)).length ≤ 65
    rw [List.length_replicate, hcr]; omega
  have K1 := Lib.hid (K0.out.check (g := 1) HC.out hl32 (by omega) hlen0 (by omega) 0 (key := lightK) (by decide) (n := 1) (by omega))
  have C1 := Lib.hid (fun W B (hL : LimAt W B c (new0 c)) => check_any hL K0.out.inv HC.out (by omega) (now := 1) (by have := K0.out.time; omega) 0 lightK (by decide) 1)
  have HST := Lib.hid (show c.step ≤ 65 by omega)
  have HL32 := Lib.hid hl32
  obtain ⟨a0, ha0, hb0, hb0'⟩ : ∃ a, bits .and .i64 z1 31 = a ∧ 0 ≤ a ∧ a < 32 := ⟨_, rfl, ba31 z1⟩
  obtain ⟨n0, hn0⟩ : ∃ n0 : Nat, a0 = (n0 : Int) := ⟨a0.toNat, by omega⟩
  subst hn0
  have hn32 : n0 < 32 := by omega
  clear hb0 hb0'
  obtain ⟨r0, r1, r2, r3, r4, r5, r6, r7, r8⟩ := r
  simp only [heavyP, Plan.val, Rule.val] at RU NW
  clear hro hlim hb1 hc1 ht1 hr hwin hwb hc hcr hct hl32 hst hlen0 hz0 hz1
  go_enter Try.func6, Try.ntmps6
  go_wp2_with fail
  refine (fit_any _).mono ?_
  rintro e1 w1 ⟨rfl, hM1⟩
  have M1 := Lib.hid hM1
  clear hM1
  go_wp2_with fail
  refine (RU.out _).mono ?_
  rintro e3 w3 ⟨rfl, hM3⟩
  have M3 := Lib.hid (M1.out.trans hM3)
  have RB3 := Lib.hid ((Blk.new w3 [.int .i64 r0, .int .i64 r1, .int .i64 r2, .int .i64 r3, .int .i64 r4, .int .i64 r5, .int .i64 r6, .int .i64 r7, .bool r8] 29).alloc (.cells #[.int .u64 3, .int .u64 1, .int .u64 4] 47))
  have DR := Lib.hid (Blk.new (w3.alloc (.cells #[.int .i64 r0, .int .i64 r1, .int .i64 r2, .int .i64 r3, .int .i64 r4, .int .i64 r5, .int .i64 r6, .int .i64 r7, .bool r8] 29)) [.int .u64 3, .int .u64 1, .int .u64 4] 47)
  have A3 := Lib.hid (((Mod.refl [] w3).alloc (.cells #[.int .i64 r0, .int .i64 r1, .int .i64 r2, .int .i64 r3, .int .i64 r4, .int .i64 r5, .int .i64 r6, .int .i64 r7, .bool r8] 29)).alloc (.cells #[.int .u64 3, .int .u64 1, .int .u64 4] 47))
  rw [show (w3.alloc (.cells #[.int .i64 r0, .int .i64 r1, .int .i64 r2, .int .i64 r3, .int .i64 r4, .int .i64 r5, .int .i64 r6, .int .i64 r7, .bool r8] 29)).heap.size = w3.heap.size + 1 by simp] at DR
  have hsl : Sl ((w3.alloc (.cells #[.int .i64 r0, .int .i64 r1, .int .i64 r2, .int .i64 r3, .int .i64 r4, .int .i64 r5, .int .i64 r6, .int .i64 r7, .bool r8] 29)).alloc (.cells #[.int .u64 3, .int .u64 1, .int .u64 4] 47)) (.slice (some ⟨w3.heap.size + 1, 0, none⟩) 3 3) (v64 [3, 1, 4]) :=
    .inr ⟨w3.heap.size + 1, 0, 3, rfl, Nat.le_refl _, by unfold maxLen; omega, DR.out.lt, fun i u hu => by rw [Nat.zero_add]; exact DR.out.cell hu⟩
  have SL := Lib.hid hsl
  clear hsl hM3
  simp only [Rule.val]
  go_wp2_with fail
  refine (NW.out _ _ SL.out).mono ?_
  rintro e4 w4 ⟨B, rfl, hL4, hB4, hrb4, hM4⟩
  have BL := Lib.hid (show ∀ b, b ∈ B.all → w.heap.size ≤ b from fun b hb => by
    have h1 := hB4 b hb
    have h2 := (M3.out.trans A3.out).size
    omega)
  have L4 := Lib.hid hL4
  have M4 := Lib.hid ((M3.out.trans A3.out).trans hM4)
  rcases hck1 : check c (new0 c) 1 0 lightK 1 with ⟨⟨av, ar, at_⟩, ev, s1⟩
  have hck1' : check c (new0 c) ((1 : Nat) : Int) 0 lightK 1 = (⟨av, ar, at_⟩, ev, s1) := hck1
  have C2 := C1.out w4 B L4.out
  have H1' := H1.out
  have K1' := K1.out
  rw [hck1'] at C2
  rw [hck1] at H1'
  have hck1'' : check c (new0 c) ((0 + 1 : Nat) : Int) 0 lightK ((1 : Nat) : Int) = (⟨av, ar, at_⟩, ev, s1) := hck1
  rw [hck1''] at K1'
  simp only at H1' K1'
  obtain ⟨hev, hlit⟩ := H1'
  subst hev
  have LT1 := Lib.hid hlit
  have KK1 := Lib.hid K1'
  have CK1 := Lib.hid C2
  clear hL4 hB4 hrb4 hM4 hck1 hck1' hck1'' C2 hlit K1'
  go_wp2_with fail
  refine CK1.out.mono ?_
  rintro e5 w5 ⟨v5, rfl, hO5, hL5, hM5⟩
  obtain ⟨g5, c5, rfl, hg5, hg5l, hcl5⟩ := hO5.at (by simp)
  have L5 := Lib.hid hL5
  have M5 := Lib.hid (M4.out.trans' hM5 (fun b hb => .inr (BL.out b hb)))
  have y2 := hcl5 0 _ rfl 2 _ rfl
  simp only [Nat.zero_mul, Nat.zero_add] at y2
  have hgn : ¬ g5 = w5.heap.size := by omega
  clear hO5 hL5 hM5 hcl5
  simp only [Ans.val, List.length_cons, List.length_nil, Nat.zero_add]
  go_wp2_with fail
  go_loopw [42] (fun i W => ∃ (k : Nat) (s : Lm), k ≤ 1 ∧ i = .int .i64 (k : Int) ∧ Stage k s ∧ LimAt W B c s ∧ Kept c s (k + 1) 1 ∧ Mod [] w W) (fun i _ => 2 - (intOf i).toNat)
  case atStart => exact ⟨0, s1, by omega, rfl, .inl ⟨rfl, LT1.out⟩, L5.out.mod0 ((Mod.refl [] w5).alloc _), KK1.out, M5.out.alloc _⟩
  case round =>
    obtain ⟨k, s, hk, rfl, hS, hL6, hK6, hM6⟩ := hrel
    have L6 := Lib.hid hL6
    have K6 := Lib.hid hK6
    have M6 := Lib.hid hM6
    have HF := Lib.hid (hL6.ring.few.2)
    have dk : decide ((k : Int) < (n0 : Int) + 2) = true := by simp; omega
    have dk' : decide (k < n0 + 2) = true := by simp; omega
    have CK := Lib.hid (check_any L6.out K6.out.inv HC.out (by have := HST.out; omega) (now := 1) (by have := K6.out.time; omega) 0 heavyK (by decide) 1)
    have K7 := Lib.hid (K6.out.check (g := 0) HC.out HL32.out (by omega) HF.out (by omega) 0 (key := heavyK) (by decide) (n := 1) (by omega))
    rcases hck : check c s 1 0 heavyK 1 with ⟨⟨bv, br, bt⟩, ev, s2⟩
    have hck' : check c s ((1 : Nat) : Int) 0 heavyK 1 = (⟨bv, br, bt⟩, ev, s2) := hck
    have hck'' : check c s ((1 + 0 : Nat) : Int) 0 heavyK ((1 : Nat) : Int) = (⟨bv, br, bt⟩, ev, s2) := hck
    rw [hck'] at CK
    rw [hck''] at K7
    clear hL6 hK6 hM6 hck' hck''
    rcases hS with ⟨rfl, hl⟩ | ⟨rfl, hl⟩
    · have h2 := H2.out s hl
      rw [hck] at h2
      simp only at h2
      obtain ⟨hev, hl2⟩ := h2
      subst hev
      have LT2 := Lib.hid hl2
      clear hl hck hl2
      go_wp2_with fail
      refine CK.out.mono ?_
      rintro e7 w7 ⟨v7, rfl, hO7, hL7, hM7⟩
      obtain ⟨a7, c7, rfl⟩ := hO7.slice
      have L7 := Lib.hid hL7
      have M7 := Lib.hid (M6.out.trans' hM7 (fun b hb => .inr (BL.out b hb)))
      clear hO7 hL7 hM7
      simp only [Ans.val, List.length_nil]
      go_wp2_with fail
      go_roundw
      case rel => exact ⟨1, s2, by omega, by go_num, .inr ⟨rfl, LT2.out⟩, L7.out.mod0 ((Mod.refl [] w7).alloc _), K7.out, M7.out.alloc _⟩
      case measure => simp [intOf]
    · have h3 := H3.out s hl
      rw [hck] at h3
      simp only at h3
      obtain ⟨hev, hp1, hp2⟩ := h3
      subst hev
      have R1 := Lib.hid (fun W (hL : LimAt W B c s2) => resident_any hL lightK (by decide))
      have R2 := Lib.hid (fun W (hL : LimAt W B c s2) => resident_any hL heavyK (by decide))
      have hv1 : resV s2 lightK = .tuple #[Cell.zero.val, .bool false] := by unfold resV; rw [hp1]
      have hv2 : resV s2 heavyK = .tuple #[(s2.pool.C.getD 0 .zero).val, .bool true] := by unfold resV; rw [hp2]
      rw [hv1] at R1
      rw [hv2] at R2
      generalize s2.pool.C.getD 0 .zero = xc at *
      obtain ⟨xc0, xc1, xc2, xc3⟩ := xc
      clear hl hck hp1 hp2 hv1 hv2
      go_wp2_with fail
      refine CK.out.mono ?_
      rintro e7 w7 ⟨v7, rfl, hO7, hL7, hM7⟩
      obtain ⟨g7, c7, rfl, hg7, hg7l, hcl7⟩ := hO7.at (by simp)
      have L7 := Lib.hid hL7
      have M7 := Lib.hid (M6.out.trans' hM7 (fun b hb => .inr (BL.out b hb)))
      have u1 := hcl7 0 _ rfl 1 _ rfl
      have u2 := hcl7 0 _ rfl 2 _ rfl
      have u5 := hcl7 1 _ rfl 1 _ rfl
      have u6 := hcl7 1 _ rfl 2 _ rfl
      simp only [Nat.zero_mul, Nat.zero_add, Nat.one_mul] at u1 u2 u5 u6
      have hgn7 : ¬ g7 = w7.heap.size := by omega
      clear hO7 hL7 hM7 hcl7
      simp only [Ans.val, List.length_cons, List.length_nil, Nat.zero_add]
      go_wp2_with fail
      refine (R1.out _ (L7.out.mod0 ((Mod.refl [] w7).alloc _))).mono ?_
      rintro e8 w8 ⟨rfl, hM8⟩
      have L8 := Lib.hid ((L7.out.mod0 ((Mod.refl [] w7).alloc _)).mod0 hM8)
      have M8 := Lib.hid ((M7.out.alloc _).trans hM8)
      clear hM8
      simp only [Cell.val, Cell.zero]
      go_wp2_with fail
      refine (R2.out _ (L8.out.mod0 ((Mod.refl [] w8).alloc _))).mono ?_
      rintro e9 w9 ⟨rfl, hM9⟩
      have M9 := Lib.hid ((M8.out.alloc _).trans hM9)
      clear hM9
      simp only [Cell.val]
      go_wp2_with fail
      go_ret
      exact ⟨rfl, M9.out.alloc _⟩
end Go.Proofs.Ytndekdafiaogmaa.Lim
end
