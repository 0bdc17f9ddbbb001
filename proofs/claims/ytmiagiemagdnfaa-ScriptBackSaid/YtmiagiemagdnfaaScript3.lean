/- script.Decode, walked. -/
import Derived.Test.YtmiagiemagdnfaaScript2
namespace Go.Proofs.Ytmiagiemagdnfaa.Script
open Go Go.RowKit Go.YtmiagiemagdnfaaMem Go.YtmiagiemagdnfaaLex Go.Proofs.Ytmiagiemagdnfaa.Frame
set_option linter.unusedVariables false
set_option linter.unusedSimpArgs false

theorem setCell_size (w : World) (a : Addr) (v : Value) : (w.setCell a v).heap.size = w.heap.size := by simp [World.setCell]
theorem keep_own {w : World} {g base : Nat} {e : TypeId} {x v : Value} {n : Nat} {xs : List Value} (h : w.ownsRow base e 1 v n xs) (hx : ∀ b, x.ownBlock = some b → b < base) (hg : g < base) : Keep w g x v xs :=
  ⟨Sl.own h, .inr fun b hb => ⟨by have := (h.lt b hb).1; omega, (h.lt b hb).2, fun e => by have := hx b e; have := (h.lt b hb).1; omega⟩⟩
theorem keep_nil (w : World) (g : Nat) (x : Value) : Keep w g x (.slice none 0 0) [] := ⟨Sl.nil _ _ _, .inl rfl⟩
theorem and_3 (y : Nat) (h : y < 256) : bits .and .u64 (y : Int) 3 = ((y % 4 : Nat) : Int) := by
  have h1 : (2 : Int) ^ IntKind.u64.bits = 18446744073709551616 := by decide
  have h2 : IntKind.u64.signed = false := rfl
  rw [show (3 : Int) = ((3 : Nat) : Int) from rfl]
  simp only [bits, BitVec.ofInt_natCast, BitVec.toNat_and, BitVec.toNat_ofNat]
  simp only [show IntKind.u64.bits = 64 from rfl]
  rw [Nat.mod_eq_of_lt (show y < 2 ^ 64 by omega), Nat.mod_eq_of_lt (show 3 < 2 ^ 64 by omega), show 3 = 2 ^ 2 - 1 from rfl, Nat.and_two_pow_sub_one_eq_mod]
  unfold IntKind.wrap
  simp only [h1, h2, Bool.false_and, Bool.false_eq_true, if_false]
  omega
theorem and_4095 (y : Nat) (h : y < 65536) : bits .and .u64 (y : Int) 4095 = ((y % 4096 : Nat) : Int) := by
  have h1 : (2 : Int) ^ IntKind.u64.bits = 18446744073709551616 := by decide
  have h2 : IntKind.u64.signed = false := rfl
  rw [show (4095 : Int) = ((4095 : Nat) : Int) from rfl]
  simp only [bits, BitVec.ofInt_natCast, BitVec.toNat_and, BitVec.toNat_ofNat]
  simp only [show IntKind.u64.bits = 64 from rfl]
  rw [Nat.mod_eq_of_lt (show y < 2 ^ 64 by omega), Nat.mod_eq_of_lt (show 4095 < 2 ^ 64 by omega), show 4095 = 2 ^ 12 - 1 from rfl, Nat.and_two_pow_sub_one_eq_mod]
  unfold IntKind.wrap
  simp only [h1, h2, Bool.false_and, Bool.false_eq_true, if_false]
  omega
theorem later_lt (y : Nat) (h : y < 65536) : (y % 4096) * 2 ^ (2 * (y / 4096)) < 4398046511104 := by
  have h1 : 2 ^ (2 * (y / 4096)) ≤ 2 ^ 30 := Nat.pow_le_pow_right (by decide) (by omega)
  have h2 : y % 4096 < 4096 := Nat.mod_lt _ (by decide)
  have h3 : (y % 4096) * 2 ^ (2 * (y / 4096)) ≤ 4095 * 2 ^ 30 := Nat.mul_le_mul (by omega) h1
  omega
set_option maxRecDepth 8000 in
theorem later_wrap (y : Nat) (h : y < 65536) : IntKind.u64.wrap ((y : Int) % 4096 * 2 ^ (2 * (y / 4096))) = ((later y : Nat) : Int) := by
  have h1 : (2 : Int) ^ IntKind.u64.bits = 18446744073709551616 := by decide
  have h2 : IntKind.u64.signed = false := rfl
  have h3 := later_lt y h
  have e : (y : Int) % 4096 * 2 ^ (2 * (y / 4096)) = ((later y : Nat) : Int) := by show _ = (((y % 4096) * 2 ^ (2 * (y / 4096)) : Nat) : Int); rw [Int.natCast_mul, Int.natCast_pow, Int.natCast_emod]; rfl
  rw [e]
  unfold later at *
  unfold IntKind.wrap
  simp only [h1, h2, Bool.false_and, Bool.false_eq_true, if_false]
  omega
def DecPost (bs : List UInt8) (w : World) (e : Ending) (w' : World) : Prop :=
  ∃ v' c l av g, e = .returned v' ∧ w.heap.size ≤ g ∧ OwnA w' g v' av ∧ av.map ActV.act = l ∧ Steps bs bs.length c l ∧ l.length ≤ bs.length ∧ Mod [] w w'

set_option maxRecDepth 4000 in
set_option maxHeartbeats 3200000 in
theorem decode_main {w : World} {b off cp : Nat} {bs : List UInt8} (h1 : bs.length ≤ cp) (h2 : cp ≤ maxLen) (hb : b < w.heap.size) (hc : ∀ i u, (vb bs)[i]? = some u → w.cell? ⟨b, off + i, none⟩ = some u) (hl : bs.length ≤ 100000) :
    Calls Try.prog 8 #[.slice (some ⟨b, off, none⟩) bs.length cp] w (DecPost bs w) := by
  have hR0 : Rd (w.alloc (.cells [Value.slice (some ⟨b, off, none⟩) bs.length cp, Value.int .i64 (0 : Nat)].toArray 41)) w.heap.size b off cp bs 0 :=
    ⟨Blk.new w _ _, fun i u hu => (((Mod.refl [] w).alloc _).cell hb (by simp)).trans (hc i u hu), by omega, ((Mod.refl [] w).alloc _).lt hb, Nat.zero_le _, ⟨h1, h2⟩, hl⟩
  have HR0 := Lib.hid hR0
  clear hR0 hc
  go_enter Try.func8, Try.ntmps8
  go_wp2_with fail
  go_loopw [4, 5] (fun x c wr => ∃ (k cN : Nat) (l : List Act) (av : List ActV), c = .int .i64 cN ∧ cN ≤ k * 4398046511104 ∧ Rd wr w.heap.size b off cp bs k ∧ OwnA wr w.heap.size x av ∧ av.map ActV.act = l ∧ Steps bs k cN l ∧ l.length ≤ k ∧ Mod [] w wr) (fun _ _ wr => bs.length - (intOf ((wr.cell? ⟨w.heap.size, 1, none⟩).getD undef)).toNat)
  case atStart => exact ⟨0, 0, [], [], rfl, Nat.zero_le _, HR0.out, OwnA.nil _ _, rfl, Steps.nil, Nat.le_refl _, (Mod.refl [] w).alloc _⟩
  case round =>
    obtain ⟨k, cN, l, av, rfl, hcN, hR, hO, hav, hS, hll, hM⟩ := hrel
    have c0 := hR.blk.cell (i := 0) rfl
    have c1 := hR.blk.cell (i := 1) rfl
    have hkl := hR.le
    have hgr := hR.blk.lt
    have HR := Lib.hid hR
    have HO := Lib.hid hO
    have HAV := Lib.hid hav
    have HS := Lib.hid hS
    have MR := Lib.hid hM
    clear hR hO hav hS hM
    have hbg : b < w.heap.size := hb
    by_cases hlt : k < bs.length
    · have dk : decide ((k : Int) < bs.length) = true := by simp; omega
      have hx := rdN_lt 1 (bs.drop k)
      have hy := rdN_lt 2 (bs.drop (min (k + 1) bs.length))
      have N1 := fun (w : World) (h : Rd w w.heap.size b off cp bs k) => num_any h 1 (by omega)
      obtain ⟨kd, hkd⟩ : ∃ kd : Nat, kd = rdN 1 (bs.drop k) % 5 := ⟨_, rfl⟩
      obtain ⟨cn, hcn⟩ : ∃ cn : Nat, cn = rdN 1 (bs.drop k) / 5 % 16 := ⟨_, rfl⟩
      go_wp2_with fail
      refine (num_any HR.out 1 (by omega)).mono ?_
      rintro e1 w1 ⟨rfl, hM1, hR1⟩
      generalize hxe : rdN 1 (bs.drop k) = x at *
      have hx5 : (x : Int) % 5 = (kd : Int) := by omega
      have hx16 : (x : Int) / 5 % 16 = (cn : Int) := by omega
      have HXE := Lib.hid hxe
      have HKD := Lib.hid hkd
      have HCN := Lib.hid hcn
      have R1 := Lib.hid hR1
      have M1 := Lib.hid hM1
      have hg1 : w.heap.size < w1.heap.size := hR1.blk.lt
      have hs1 := hM1.size
      have hkd5 : kd < 5 := by omega
      clear hM1 hR1 hxe N1 hkd hcn
      go_wp2_with fail
      refine (num_any (R1.out.mod ((Mod.refl [] w1).alloc _) (by simp) (by simp)) 2 (by omega)).mono ?_
      rintro e2 w2 ⟨rfl, hM2, hR2⟩
      obtain ⟨k3, hk3⟩ : ∃ k3, k3 = min (min (k + 1) bs.length + 2) bs.length := ⟨_, rfl⟩
      rw [← hk3] at hR2
      generalize hye : rdN 2 (bs.drop (min (k + 1) bs.length)) = y at *
      have hyy : y < 65536 := hy
      have HYE := Lib.hid hye
      have HK3 := Lib.hid hk3
      have hk3l : k3 ≤ bs.length := by omega
      have hk3k : k < k3 := by omega
      have hA2 : Blk w2 w1.heap.size 28 [.int .i64 (kd : Int), .int .i64 0, .int .i64 (cn : Int), .slice none 0 0, .int .i64 0, .slice none 0 0] := hM2.blk (Blk.new w1 _ _) (by simp; omega)
      have hA2l := hA2.lt
      have had : bits .and .u64 (y : Int) 4095 = ((y % 4096 : Nat) : Int) := and_4095 y (by omega)
      obtain ⟨z, hz⟩ : ∃ z, z = later y := ⟨_, rfl⟩
      have hzw : IntKind.u64.wrap ((y : Int) % 4096 * 2 ^ (2 * (y / 4096))) = (z : Int) := by rw [hz]; exact later_wrap y (by omega)
      have hzl : z < 4398046511104 := by rw [hz]; exact later_lt y (by omega)
      have hcN2 : cN ≤ 439804651110400000 := by omega
      have HZ := Lib.hid hz
      have A2 := Lib.hid hA2
      have R2 := Lib.hid hR2
      have M2 := Lib.hid ((M1.out.alloc (.cells #[.int .i64 (kd : Int), .int .i64 0, .int .i64 (cn : Int), .slice none 0 0, .int .i64 0, .slice none 0 0] 28)).trans hM2)
      have hs2 : w1.heap.size < w2.heap.size := hA2l
      have hg2 : w.heap.size < w2.heap.size := by omega
      have hne : w1.heap.size ≠ w.heap.size := by omega
      have hAc : Blk (w2.setCell ⟨w1.heap.size, 1, none⟩ (.int .i64 ((cN : Int) + z))) w1.heap.size 28 [.int .i64 (kd : Int), .int .i64 ((cN : Int) + z), .int .i64 (cn : Int), .slice none 0 0, .int .i64 0, .slice none 0 0] := hA2.set 1 _
      have AC := Lib.hid hAc
      have RC := Lib.hid (hR2.mod ((Mod.refl [w1.heap.size] w2).setCell (p := ⟨w1.heap.size, 1, none⟩) (.inl (by simp)) (.int .i64 ((cN : Int) + z))) (by simpa using hne.symm) (by have := ((HR0.out).hb); simp; have := MR.out.size; omega))
      have MC := Lib.hid (M2.out.setCell (p := ⟨w1.heap.size, 1, none⟩) (.inr hs1) (.int .i64 ((cN : Int) + z)))
      have a0 := hA2.cell (i := 0) rfl
      have a1 := hA2.cell (i := 1) rfl
      have a2 := hA2.cell (i := 2) rfl
      have a3 := hA2.cell (i := 3) rfl
      have a4 := hA2.cell (i := 4) rfl
      have a5 := hA2.cell (i := 5) rfl
      have f1 := hA2.free 1
      have hstep : step bs k cN = (if x % 5 = 2 then (⟨2, cN + z, cn, (bs.drop (min (k3 + 1) bs.length)).take (rdN 1 (bs.drop k3)), 0, []⟩, min (min (k3 + 1) bs.length + rdN 1 (bs.drop k3)) bs.length, cN + z)
          else if x % 5 = 3 then (⟨3, cN + z, cn, [], rdN 1 (bs.drop k3), []⟩, min (k3 + 1) bs.length, cN + z)
          else if x % 5 = 4 then (⟨4, cN + z, cn, [], 0, (List.range (rdN 1 (bs.drop k3) % 4)).map fun i => rdN 8 (bs.drop (min (min (k3 + 1) bs.length + 8 * i) bs.length))⟩, min (min (k3 + 1) bs.length + 8 * (rdN 1 (bs.drop k3) % 4)) bs.length, cN + z)
          else (⟨x % 5, cN + z, cn, [], 0, []⟩, k3, cN + z)) := by
        unfold step; simp only [HXE.out, HYE.out, ← HK3.out, ← HZ.out, ← HCN.out]
      have HST := Lib.hid hstep
      have hxb : ∀ b, u4.ownBlock = some b → b < wr.heap.size := fun b hb => ((HO.out).1.lt b hb).2
      have HXB := Lib.hid hxb
      clear hM2 hR2 hA2 hye hk3 hz hAc hy hx hstep hxb
      by_cases k2 : kd = 2
      · skip
        subst k2
        go_wp2_with fail
        refine (num_any RC.out 1 (by omega)).mono ?_
        rintro e4 w4 ⟨rfl, hM4, hR4⟩
        have hm256 : rdN 1 (bs.drop k3) < 256 := rdN_lt 1 (bs.drop k3)
        obtain ⟨k4, hk4⟩ : ∃ k4, k4 = min (k3 + 1) bs.length := ⟨_, rfl⟩
        have hk4k : k < k4 := by omega
        have hk4l : k4 ≤ bs.length := by omega
        rw [← hk4] at hR4
        have HK4 := Lib.hid hk4
        generalize hme : rdN 1 (bs.drop k3) = m at *
        have HME := Lib.hid hme
        have A4 := Lib.hid (hM4.blk AC.out (by simp; omega))
        have R4 := Lib.hid hR4
        have M4 := Lib.hid (MC.out.trans hM4)
        have hs4 := hM4.size
        have hs4' : w1.heap.size < w4.heap.size := A4.out.lt
        have hg4 : w.heap.size < w4.heap.size := by omega
        have h4s : wr.heap.size ≤ w4.heap.size := M4.out.size
        clear a0 a1 a2 a3 a4 a5 f1 hM4 hR4 hk4 hme
        have a0 := A4.out.cell (i := 0) rfl
        have a1 := A4.out.cell (i := 1) rfl
        have a2 := A4.out.cell (i := 2) rfl
        have a3 := A4.out.cell (i := 3) rfl
        have a4 := A4.out.cell (i := 4) rfl
        have a5 := A4.out.cell (i := 5) rfl
        have f3 := Blk.free A4.out 3
        have f4 := Blk.free A4.out 4
        go_wp2_with fail
        refine (take_any R4.out m (by omega)).mono ?_
        rintro e5 w5 ⟨v5, rfl, ho5, hM5, hR5⟩
        obtain ⟨k5, hk5⟩ : ∃ k5, k5 = min (k4 + m) bs.length := ⟨_, rfl⟩
        rw [← hk5] at hR5
        have hk5l : k5 ≤ bs.length := by omega
        have hk5k : k < k5 := by omega
        have HK5 := Lib.hid hk5
        generalize hdt : (bs.drop k4).take m = dt at *
        have HDT := Lib.hid hdt
        obtain ⟨a5v, c5v, rfl⟩ := ho5.slice
        have O5 := Lib.hid ho5
        have A5 := Lib.hid (hM5.blk A4.out (by simp; omega))
        have R5 := Lib.hid hR5
        have M5 := Lib.hid (M4.out.trans hM5)
        have hs5 := hM5.size
        have hs5' : w1.heap.size < w5.heap.size := A5.out.lt
        have hg5 : w.heap.size < w5.heap.size := by omega
        clear a0 a1 a2 a3 a4 a5 f3 f4 hM5 hR5 hk5 hdt ho5
        have a0 := A5.out.cell (i := 0) rfl
        have a1 := A5.out.cell (i := 1) rfl
        have a2 := A5.out.cell (i := 2) rfl
        have a3 := A5.out.cell (i := 3) rfl
        have a4 := A5.out.cell (i := 4) rfl
        have a5 := A5.out.cell (i := 5) rfl
        have f3 := Blk.free A5.out 3
        have MF2 := Lib.hid (M5.out.setCell (p := ⟨w1.heap.size, 3, none⟩) (.inr hs1) (.slice a5v dt.length c5v))
        have MS2 : Mod [w1.heap.size] w5 (w5.setCell ⟨w1.heap.size, 3, none⟩ (.slice a5v dt.length c5v)) := (Mod.refl [w1.heap.size] w5).setCell (p := ⟨w1.heap.size, 3, none⟩) (.inl (by simp)) _
        have RF2 := Lib.hid (R5.out.mod MS2 (by simpa using hne.symm) (by have := MR.out.size; simp; omega))
        have KP := Lib.hid (fun o => keep_own (g := w.heap.size) (x := u4) (World.ownsRow.alloc (MS2.own O5.out (fun b hb => by have := own_block O5.out b hb; simp; omega)) o) (fun b hb => by have := HXB.out b hb; omega) (by omega))
        clear MS2
        obtain ⟨q, hq⟩ : ∃ q : ActV, q = ⟨⟨2, cN + z, cn, dt, 0, []⟩, .slice a5v dt.length c5v, .slice none 0 0⟩ := ⟨_, rfl⟩
        have hcells : q.cells = [.int .i64 2, .int .i64 ((cN : Int) + z), .int .i64 (cn : Int), .slice a5v dt.length c5v, .int .i64 0, .slice none 0 0] := by subst hq; simp [ActV.cells]
        have hB : Blk ((w5.setCell ⟨w1.heap.size, 3, none⟩ (.slice a5v dt.length c5v)).alloc (.cells #[.int .i64 2, .int .i64 ((cN : Int) + z), .int .i64 (cn : Int), .slice a5v dt.length c5v, .int .i64 0, .slice none 0 0] 28)) (w5.setCell ⟨w1.heap.size, 3, none⟩ (.slice a5v dt.length c5v)).heap.size 28 q.cells := by
          rw [hcells]; exact Blk.new (w5.setCell ⟨w1.heap.size, 3, none⟩ (.slice a5v dt.length c5v)) [.int .i64 2, .int .i64 ((cN : Int) + z), .int .i64 (cn : Int), .slice a5v dt.length c5v, .int .i64 0, .slice none 0 0] 28
        have hone : ∀ u ∈ q.cells, u.oneCell' = true := by rw [hcells]; intro u hu; simp at hu; rcases hu with rfl | rfl | rfl | rfl | rfl | rfl <;> rfl
        have hkeep : Keep ((w5.setCell ⟨w1.heap.size, 3, none⟩ (.slice a5v dt.length c5v)).alloc (.cells #[.int .i64 2, .int .i64 ((cN : Int) + z), .int .i64 (cn : Int), .slice a5v dt.length c5v, .int .i64 0, .slice none 0 0] 28)) w.heap.size u4 q.d (vb q.act.data) ∧ Keep ((w5.setCell ⟨w1.heap.size, 3, none⟩ (.slice a5v dt.length c5v)).alloc (.cells #[.int .i64 2, .int .i64 ((cN : Int) + z), .int .i64 (cn : Int), .slice a5v dt.length c5v, .int .i64 0, .slice none 0 0] 28)) w.heap.size u4 q.s (vs q.act.seeds) := by subst hq; exact ⟨KP.out _, keep_nil _ _ _⟩
        have hact : (step bs k cN).1 = q.act ∧ (step bs k cN).2.1 = k5 ∧ (step bs k cN).2.2 = cN + z := by
          rw [HST.out, if_pos (by have := HKD.out; omega), ← HK4.out, HDT.out, ← HK5.out]; subst hq; exact ⟨rfl, rfl, rfl⟩
        have OF := Lib.hid ((HO.out.mod MF2.out).mod ((Mod.refl [w.heap.size] _).alloc (.cells #[.int .i64 2, .int .i64 ((cN : Int) + z), .int .i64 (cn : Int), .slice a5v dt.length c5v, .int .i64 0, .slice none 0 0] 28)))
        try simp only [setCell_size] at hB
        have HB := Lib.hid hB
        have HONE := Lib.hid hone
        have HKEEP := Lib.hid hkeep
        have HACT := Lib.hid hact
        have hlen : av.length ≤ 900000 := by have := congrArg List.length HAV.out; rw [List.length_map] at this; omega
        clear hB hone hkeep hact hcells hq
        go_wp2_with (at_builtin; go_must (refine app_act q _ OF.out rfl _ _ rfl rfl rfl HB.out (by simp; omega) hlen HONE.out HKEEP.out ?_; intro v9 w9 ho9 hM9))
        have hb9 := own_block OF.out.1
        have M9 := Lib.hid ((((MR.out.trans' MF2.out (fun x hx => by simp at hx; omega)).alloc (.cells #[.int .i64 2, .int .i64 ((cN : Int) + z), .int .i64 (cn : Int), .slice a5v dt.length c5v, .int .i64 0, .slice none 0 0] 28))).trans' hM9 (fun x hx => by have := hb9 x (by simpa using hx); omega))
        have R9 := Lib.hid ((RF2.out.mod ((Mod.refl [] _).alloc (.cells #[.int .i64 2, .int .i64 ((cN : Int) + z), .int .i64 (cn : Int), .slice a5v dt.length c5v, .int .i64 0, .slice none 0 0] 28)) (by simp) (by simp)).mod hM9 (fun hx => by have := hb9 _ (by simpa using hx); omega) (fun hx => by have := hb9 _ (by simpa using hx); omega))
        have O9 := Lib.hid ho9
        clear hM9 ho9 hb9
        go_wp2_with fail
        refine ⟨⟨k5, cN + z, _, av ++ [q], by simp, by omega, R9.out, O9.out, rfl, ?_, ?_, M9.out⟩, ?_⟩
        · have := HS.out.snoc hlt
          rw [HACT.out.2.1, HACT.out.2.2, HACT.out.1] at this
          rw [List.map_append, HAV.out]; exact this
        · rw [List.length_map, List.length_append, List.length_singleton]; have := congrArg List.length HAV.out; rw [List.length_map] at this; omega
        · rw [R9.out.blk.cell (i := 1) rfl, c1]; simp [intOf]; omega
      by_cases k3e : kd = 3
      · skip
        subst k3e
        go_wp2_with fail
        refine (num_any RC.out 1 (by omega)).mono ?_
        rintro e4 w4 ⟨rfl, hM4, hR4⟩
        have hm256 : rdN 1 (bs.drop k3) < 256 := rdN_lt 1 (bs.drop k3)
        obtain ⟨k4, hk4⟩ : ∃ k4, k4 = min (k3 + 1) bs.length := ⟨_, rfl⟩
        have hk4k : k < k4 := by omega
        have hk4l : k4 ≤ bs.length := by omega
        rw [← hk4] at hR4
        have HK4 := Lib.hid hk4
        generalize hme : rdN 1 (bs.drop k3) = m at *
        have HME := Lib.hid hme
        have A4 := Lib.hid (hM4.blk AC.out (by simp; omega))
        have R4 := Lib.hid hR4
        have M4 := Lib.hid (MC.out.trans hM4)
        have hs4 := hM4.size
        have hs4' : w1.heap.size < w4.heap.size := A4.out.lt
        have hg4 : w.heap.size < w4.heap.size := by omega
        have h4s : wr.heap.size ≤ w4.heap.size := M4.out.size
        clear a0 a1 a2 a3 a4 a5 f1 hM4 hR4 hk4 hme
        have a0 := A4.out.cell (i := 0) rfl
        have a1 := A4.out.cell (i := 1) rfl
        have a2 := A4.out.cell (i := 2) rfl
        have a3 := A4.out.cell (i := 3) rfl
        have a4 := A4.out.cell (i := 4) rfl
        have a5 := A4.out.cell (i := 5) rfl
        have f3 := Blk.free A4.out 3
        have f4 := Blk.free A4.out 4
        have MS3 : Mod [w1.heap.size] w4 (w4.setCell ⟨w1.heap.size, 4, none⟩ (.int .i64 (m : Int))) := (Mod.refl [w1.heap.size] w4).setCell (p := ⟨w1.heap.size, 4, none⟩) (.inl (by simp)) _
        have MF3 := Lib.hid (M4.out.setCell (p := ⟨w1.heap.size, 4, none⟩) (.inr hs1) (.int .i64 (m : Int)))
        have RF3 := Lib.hid (R4.out.mod MS3 (by simpa using hne.symm) (by have := MR.out.size; simp; omega))
        clear MS3
        obtain ⟨q, hq⟩ : ∃ q : ActV, q = ⟨⟨3, cN + z, cn, [], m, []⟩, .slice none 0 0, .slice none 0 0⟩ := ⟨_, rfl⟩
        have hcells : q.cells = [.int .i64 3, .int .i64 ((cN : Int) + z), .int .i64 (cn : Int), .slice none 0 0, .int .i64 (m : Int), .slice none 0 0] := by subst hq; simp [ActV.cells]
        have hB : Blk ((w4.setCell ⟨w1.heap.size, 4, none⟩ (.int .i64 (m : Int))).alloc (.cells #[.int .i64 3, .int .i64 ((cN : Int) + z), .int .i64 (cn : Int), .slice none 0 0, .int .i64 (m : Int), .slice none 0 0] 28)) (w4.setCell ⟨w1.heap.size, 4, none⟩ (.int .i64 (m : Int))).heap.size 28 q.cells := by
          rw [hcells]; exact Blk.new (w4.setCell ⟨w1.heap.size, 4, none⟩ (.int .i64 (m : Int))) [.int .i64 3, .int .i64 ((cN : Int) + z), .int .i64 (cn : Int), .slice none 0 0, .int .i64 (m : Int), .slice none 0 0] 28
        have hone : ∀ u ∈ q.cells, u.oneCell' = true := by rw [hcells]; intro u hu; simp at hu; rcases hu with rfl | rfl | rfl | rfl | rfl | rfl <;> rfl
        have hkeep : Keep ((w4.setCell ⟨w1.heap.size, 4, none⟩ (.int .i64 (m : Int))).alloc (.cells #[.int .i64 3, .int .i64 ((cN : Int) + z), .int .i64 (cn : Int), .slice none 0 0, .int .i64 (m : Int), .slice none 0 0] 28)) w.heap.size u4 q.d (vb q.act.data) ∧ Keep ((w4.setCell ⟨w1.heap.size, 4, none⟩ (.int .i64 (m : Int))).alloc (.cells #[.int .i64 3, .int .i64 ((cN : Int) + z), .int .i64 (cn : Int), .slice none 0 0, .int .i64 (m : Int), .slice none 0 0] 28)) w.heap.size u4 q.s (vs q.act.seeds) := by subst hq; exact ⟨keep_nil _ _ _, keep_nil _ _ _⟩
        have hact : (step bs k cN).1 = q.act ∧ (step bs k cN).2.1 = k4 ∧ (step bs k cN).2.2 = cN + z := by
          rw [HST.out, if_neg (by have := HKD.out; omega), if_pos (by have := HKD.out; omega), ← HK4.out]; subst hq; exact ⟨rfl, rfl, rfl⟩
        have OF := Lib.hid ((HO.out.mod MF3.out).mod ((Mod.refl [w.heap.size] _).alloc (.cells #[.int .i64 3, .int .i64 ((cN : Int) + z), .int .i64 (cn : Int), .slice none 0 0, .int .i64 (m : Int), .slice none 0 0] 28)))
        try simp only [setCell_size] at hB
        have HB := Lib.hid hB
        have HONE := Lib.hid hone
        have HKEEP := Lib.hid hkeep
        have HACT := Lib.hid hact
        have hlen : av.length ≤ 900000 := by have := congrArg List.length HAV.out; rw [List.length_map] at this; omega
        clear hB hone hkeep hact hcells hq
        go_wp2_with (at_builtin; go_must (refine app_act q _ OF.out rfl _ _ rfl rfl rfl HB.out (by simp; omega) hlen HONE.out HKEEP.out ?_; intro v9 w9 ho9 hM9))
        have hb9 := own_block OF.out.1
        have M9 := Lib.hid ((((MR.out.trans' MF3.out (fun x hx => by simp at hx; omega)).alloc (.cells #[.int .i64 3, .int .i64 ((cN : Int) + z), .int .i64 (cn : Int), .slice none 0 0, .int .i64 (m : Int), .slice none 0 0] 28))).trans' hM9 (fun x hx => by have := hb9 x (by simpa using hx); omega))
        have R9 := Lib.hid ((RF3.out.mod ((Mod.refl [] _).alloc (.cells #[.int .i64 3, .int .i64 ((cN : Int) + z), .int .i64 (cn : Int), .slice none 0 0, .int .i64 (m : Int), .slice none 0 0] 28)) (by simp) (by simp)).mod hM9 (fun hx => by have := hb9 _ (by simpa using hx); omega) (fun hx => by have := hb9 _ (by simpa using hx); omega))
        have O9 := Lib.hid ho9
        clear hM9 ho9 hb9
        go_wp2_with fail
        refine ⟨⟨k4, cN + z, _, av ++ [q], by simp, by omega, R9.out, O9.out, rfl, ?_, ?_, M9.out⟩, ?_⟩
        · have := HS.out.snoc hlt
          rw [HACT.out.2.1, HACT.out.2.2, HACT.out.1] at this
          rw [List.map_append, HAV.out]; exact this
        · rw [List.length_map, List.length_append, List.length_singleton]; have := congrArg List.length HAV.out; rw [List.length_map] at this; omega
        · rw [R9.out.blk.cell (i := 1) rfl, c1]; simp [intOf]; omega
      by_cases k4e : kd = 4
      · skip
        subst k4e
        go_wp2_with fail
        refine (num_any RC.out 1 (by omega)).mono ?_
        rintro e4 w4 ⟨rfl, hM4, hR4⟩
        have hm256 : rdN 1 (bs.drop k3) < 256 := rdN_lt 1 (bs.drop k3)
        obtain ⟨k4, hk4⟩ : ∃ k4, k4 = min (k3 + 1) bs.length := ⟨_, rfl⟩
        have hk4k : k < k4 := by omega
        have hk4l : k4 ≤ bs.length := by omega
        rw [← hk4] at hR4
        have HK4 := Lib.hid hk4
        generalize hme : rdN 1 (bs.drop k3) = m at *
        have HME := Lib.hid hme
        have A4 := Lib.hid (hM4.blk AC.out (by simp; omega))
        have R4 := Lib.hid hR4
        have M4 := Lib.hid (MC.out.trans hM4)
        have hs4 := hM4.size
        have hs4' : w1.heap.size < w4.heap.size := A4.out.lt
        have hg4 : w.heap.size < w4.heap.size := by omega
        have h4s : wr.heap.size ≤ w4.heap.size := M4.out.size
        clear a0 a1 a2 a3 a4 a5 f1 hM4 hR4 hk4 hme
        have a0 := A4.out.cell (i := 0) rfl
        have a1 := A4.out.cell (i := 1) rfl
        have a2 := A4.out.cell (i := 2) rfl
        have a3 := A4.out.cell (i := 3) rfl
        have a4 := A4.out.cell (i := 4) rfl
        have a5 := A4.out.cell (i := 5) rfl
        have f3 := Blk.free A4.out 3
        have f4 := Blk.free A4.out 4
        obtain ⟨m3, hm3⟩ : ∃ m3, m3 = m % 4 := ⟨_, rfl⟩
        have had3 : bits .and .u64 (m : Int) 3 = (m3 : Int) := by rw [hm3]; exact and_3 m hm256
        have hm3l : m3 ≤ 3 := by omega
        have HM3 := Lib.hid hm3
        clear hm3
        have O4 : Hid (w4.ownsRow w4.heap.size 42 1 (.slice none 0 0) 0 (vs [])) := World.ownsRow_nil _ _ _ _
        clear a0 a1 a2 a3 a4 a5 f3 f4
        go_wp2_with fail
        go_loopw [62] (fun i wq => ∃ (j kj : Nat) (ss : List Nat) (sv : Value), j ≤ m3 ∧ i = .int .u64 j ∧ kj = min (k4 + 8 * j) bs.length ∧ ss = (List.range j).map (fun i => rdN 8 (bs.drop (min (k4 + 8 * i) bs.length))) ∧ Rd wq w.heap.size b off cp bs kj ∧ Blk wq w1.heap.size 28 [.int .i64 4, .int .i64 ((cN : Int) + z), .int .i64 (cn : Int), .slice none 0 0, .int .i64 0, sv] ∧ wq.ownsRow w4.heap.size 42 1 sv ss.length (vs ss) ∧ Mod [w.heap.size] wr wq ∧ w4.heap.size ≤ wq.heap.size) (fun i _ => m3 - (intOf i).toNat)
        case atStart => exact ⟨0, k4, [], .slice none 0 0, Nat.zero_le _, rfl, by omega, rfl, R4.out, A4.out, O4.out, M4.out, Nat.le_refl _⟩
        case round =>
          obtain ⟨j, kj, ss, sv, hj, rfl, hkj, hss, hRq, hAq, hOq, hMq, hsq⟩ := hrel
          obtain ⟨sa, sc, rfl⟩ := own_slice hOq
          have hsl3 : ss.length = j := by rw [hss]; simp
          rw [hsl3] at hAq hOq
          have HKJ := Lib.hid hkj
          have HSS := Lib.hid hss
          have RQ := Lib.hid hRq
          have AQ := Lib.hid hAq
          have OQ := Lib.hid hOq
          have MQ := Lib.hid hMq
          have hkjl := hRq.le
          have hkjk : k < kj := by omega
          have HSL := Lib.hid hsl3
          clear hsl3
          have hAl := hAq.lt
          have hgq : w.heap.size < wr.heap.size := by omega
          clear hkj hss hRq hAq hOq hMq
          by_cases hjm : j < m3
          · have a5 := AQ.out.cell (i := 5) rfl
            have isc : IsC wr.drew w1.heap.size := isC_of_cell (w := wr.drew) a5
            go_wp2_with fail
            refine wp_region_held [4] [1] [w.heap.size] (by kernel_rfl) (by kernel_rfl) ?_
            simp only [wpCut, List.take_succ_cons, List.take_zero, List.drop_succ_cons, List.drop_zero]
            go_wp2_with fail
            refine (num_any (RQ.out.mod ((Mod.refl [] _).drew) (by simp) (by simp)) 8 (by omega)).mono ?_
            rintro e6 w6 ⟨rfl, hM6, hR6⟩
            obtain ⟨sd, hsd⟩ : ∃ sd, sd = rdN 8 (bs.drop kj) := ⟨_, rfl⟩
            rw [← hsd]
            have HSD := Lib.hid hsd
            have A6 := Lib.hid (hM6.blk AQ.out.drew (by simp; omega))
            have O6 := Lib.hid (hM6.own (World.ownsRow.drew OQ.out) (fun b hb => by have := own_block OQ.out b hb; simp; omega))
            have R6 := Lib.hid hR6
            have M6 := Lib.hid hM6
            have hs6 : wr.heap.size ≤ w6.heap.size := hM6.size
            clear hM6 hR6 hsd
            go_wp2_with fail
            refine ⟨M6.out, ?_⟩
            have hb7 := own_block O6.out
            go_wp2_with (at_builtin; go_must (refine app_u64 sd _ (World.ownsRow.alloc O6.out (.cells #[.int .u64 (sd : Int)] 42)) rfl _ _ rfl rfl rfl (World.cell?_alloc_at _ _ _ _ (by simp)) (by simp; omega) (by omega) ?_; intro v7 w7 ho7 hM7; have A7 := Lib.hid (hM7.blk (A6.out.alloc (.cells #[.int .u64 (sd : Int)] 42)) (fun hx => by have := hb7 _ (by simpa using hx); omega)); have R7 := Lib.hid ((R6.out.mod ((Mod.refl [] _).alloc (.cells #[.int .u64 (sd : Int)] 42)) (by simp) (by simp)).mod hM7 (fun hx => by have := hb7 _ (by simpa using hx); omega) (fun hx => by have := hb7 _ (by simpa using hx); omega)); have N7 := Lib.hid ((((MQ.out.drew.trans M6.out).alloc (.cells #[.int .u64 (sd : Int)] 42))).trans' hM7 (fun x hx => by have := hb7 x (by simpa using hx); right; omega)); have hs7 := hM7.size; obtain ⟨sa7, sc7, rfl⟩ := own_slice ho7; have O7 := Lib.hid ho7; have f5 := Blk.free A7.out 5; have a5' := A7.out.cell (i := 5) rfl; clear hM7 ho7))
            refine ⟨by kernel_rfl, ⟨⟨by simp; omega, isc⟩, trivial⟩, ?_⟩
            have MS8 : Mod [w1.heap.size] w7 (w7.setCell ⟨w1.heap.size, 5, none⟩ (.slice sa7 (j + 1) sc7)) := (Mod.refl [w1.heap.size] w7).setCell (p := ⟨w1.heap.size, 5, none⟩) (.inl (by simp)) _
            have R8 := Lib.hid (R7.out.mod MS8 (by simpa using hne.symm) (by simp; omega))
            have A8 := Lib.hid (A7.out.set 5 (.slice sa7 (j + 1) sc7))
            have O8 := Lib.hid (MS8.own O7.out (fun b hb => by have := own_block O7.out b hb; simp; omega))
            have N8 := Lib.hid (N7.out.setCell (p := ⟨w1.heap.size, 5, none⟩) (.inr hs1) (.slice sa7 (j + 1) sc7))
            clear MS8
            go_wp2_with fail
            refine ⟨⟨j + 1, min (kj + 8) bs.length, ss ++ [sd], .slice sa7 (j + 1) sc7, by omega, by go_num, ?_, ?_, R8.out, A8.out, ?_, N8.out, ?_⟩, by simp [intOf]; omega⟩
            · have := HKJ.out; omega
            · have h1 := HSS.out; have h2 := HSD.out; have h3 := HKJ.out
              rw [List.range_succ, List.map_append, ← h1, h2, h3]; rfl
            · rw [List.length_append, HSL.out]; exact O8.out
            · have h := hs7; simp at h ⊢; omega
          · obtain rfl : j = m3 := by omega
            have a0 := AQ.out.cell (i := 0) rfl
            have a1 := AQ.out.cell (i := 1) rfl
            have a2 := AQ.out.cell (i := 2) rfl
            have a3 := AQ.out.cell (i := 3) rfl
            have a4 := AQ.out.cell (i := 4) rfl
            have a5 := AQ.out.cell (i := 5) rfl
            have KQ := Lib.hid (fun o => keep_own (g := w.heap.size) (x := u4) (World.ownsRow.alloc OQ.out o) (fun b hb => by have := HXB.out b hb; omega) (by omega))
            obtain ⟨q, hq⟩ : ∃ q : ActV, q = ⟨⟨4, cN + z, cn, [], 0, ss⟩, .slice none 0 0, .slice sa j sc⟩ := ⟨_, rfl⟩
            have hcells : q.cells = [.int .i64 4, .int .i64 ((cN : Int) + z), .int .i64 (cn : Int), .slice none 0 0, .int .i64 0, .slice sa j sc] := by subst hq; simp [ActV.cells]
            have hB : Blk (wr.alloc (.cells #[.int .i64 4, .int .i64 ((cN : Int) + z), .int .i64 (cn : Int), .slice none 0 0, .int .i64 0, .slice sa j sc] 28)) wr.heap.size 28 q.cells := by
              rw [hcells]; exact Blk.new wr [.int .i64 4, .int .i64 ((cN : Int) + z), .int .i64 (cn : Int), .slice none 0 0, .int .i64 0, .slice sa j sc] 28
            have hone : ∀ u ∈ q.cells, u.oneCell' = true := by rw [hcells]; intro u hu; simp at hu; rcases hu with rfl | rfl | rfl | rfl | rfl | rfl <;> rfl
            have hkeep : Keep (wr.alloc (.cells #[.int .i64 4, .int .i64 ((cN : Int) + z), .int .i64 (cn : Int), .slice none 0 0, .int .i64 0, .slice sa j sc] 28)) w.heap.size u4 q.d (vb q.act.data) ∧ Keep (wr.alloc (.cells #[.int .i64 4, .int .i64 ((cN : Int) + z), .int .i64 (cn : Int), .slice none 0 0, .int .i64 0, .slice sa j sc] 28)) w.heap.size u4 q.s (vs q.act.seeds) := by subst hq; exact ⟨keep_nil _ _ _, KQ.out _⟩
            have hact : (step bs k cN).1 = q.act ∧ (step bs k cN).2.1 = kj ∧ (step bs k cN).2.2 = cN + z := by
              rw [HST.out, if_neg (by have := HKD.out; omega), if_neg (by have := HKD.out; omega), if_pos (by have := HKD.out; omega), ← HM3.out, ← HK4.out, ← HKJ.out, ← HSS.out]; subst hq; exact ⟨rfl, rfl, rfl⟩
            have OF := Lib.hid ((HO.out.mod MQ.out).mod ((Mod.refl [w.heap.size] _).alloc (.cells #[.int .i64 4, .int .i64 ((cN : Int) + z), .int .i64 (cn : Int), .slice none 0 0, .int .i64 0, .slice sa j sc] 28)))
            try simp only [setCell_size] at hB
            have HB := Lib.hid hB
            have HONE := Lib.hid hone
            have HKEEP := Lib.hid hkeep
            have HACT := Lib.hid hact
            have hlen : av.length ≤ 900000 := by have := congrArg List.length HAV.out; rw [List.length_map] at this; omega
            clear hB hone hkeep hact hcells hq
            go_wp2_with (at_builtin; go_must (refine app_act q _ OF.out rfl _ _ rfl rfl rfl HB.out (by simp; omega) hlen HONE.out HKEEP.out ?_; intro v9 w9 ho9 hM9))
            have hb9 := own_block OF.out.1
            have M9 := Lib.hid ((((MR.out.trans' MQ.out (fun x hx => by simp at hx; omega)).alloc (.cells #[.int .i64 4, .int .i64 ((cN : Int) + z), .int .i64 (cn : Int), .slice none 0 0, .int .i64 0, .slice sa j sc] 28))).trans' hM9 (fun x hx => by have := hb9 x (by simpa using hx); omega))
            have R9 := Lib.hid ((RQ.out.mod ((Mod.refl [] _).alloc (.cells #[.int .i64 4, .int .i64 ((cN : Int) + z), .int .i64 (cn : Int), .slice none 0 0, .int .i64 0, .slice sa j sc] 28)) (by simp) (by simp)).mod hM9 (fun hx => by have := hb9 _ (by simpa using hx); omega) (fun hx => by have := hb9 _ (by simpa using hx); omega))
            have O9 := Lib.hid ho9
            clear hM9 ho9 hb9
            go_wp2_with fail
            refine ⟨⟨kj, cN + z, _, av ++ [q], by simp, by omega, R9.out, O9.out, rfl, ?_, ?_, M9.out⟩, ?_⟩
            · have := HS.out.snoc hlt
              rw [HACT.out.2.1, HACT.out.2.2, HACT.out.1] at this
              rw [List.map_append, HAV.out]; exact this
            · rw [List.length_map, List.length_append, List.length_singleton]; have := congrArg List.length HAV.out; rw [List.length_map] at this; omega
            · rw [R9.out.blk.cell (i := 1) rfl, c1]; simp [intOf]; omega
      have d2 : ((kd : Int) == 2) = false := by simp; omega
      have d3 : ((kd : Int) == 3) = false := by simp; omega
      have d4 : ((kd : Int) == 4) = false := by simp; omega
      obtain ⟨q, hq⟩ : ∃ q : ActV, q = ⟨⟨kd, cN + z, cn, [], 0, []⟩, .slice none 0 0, .slice none 0 0⟩ := ⟨_, rfl⟩
      have hcells : q.cells = [.int .i64 (kd : Int), .int .i64 ((cN : Int) + z), .int .i64 (cn : Int), .slice none 0 0, .int .i64 0, .slice none 0 0] := by subst hq; simp [ActV.cells]
      have hB : Blk ((w2.setCell ⟨w1.heap.size, 1, none⟩ (.int .i64 ((cN : Int) + z))).alloc (.cells #[.int .i64 (kd : Int), .int .i64 ((cN : Int) + z), .int .i64 (cn : Int), .slice none 0 0, .int .i64 0, .slice none 0 0] 28)) (w2.setCell ⟨w1.heap.size, 1, none⟩ (.int .i64 ((cN : Int) + z))).heap.size 28 q.cells := by
        rw [hcells]; exact Blk.new (w2.setCell ⟨w1.heap.size, 1, none⟩ (.int .i64 ((cN : Int) + z))) [.int .i64 (kd : Int), .int .i64 ((cN : Int) + z), .int .i64 (cn : Int), .slice none 0 0, .int .i64 0, .slice none 0 0] 28
      have hone : ∀ u ∈ q.cells, u.oneCell' = true := by rw [hcells]; intro u hu; simp at hu; rcases hu with rfl | rfl | rfl | rfl | rfl | rfl <;> rfl
      have hkeep : Keep ((w2.setCell ⟨w1.heap.size, 1, none⟩ (.int .i64 ((cN : Int) + z))).alloc (.cells #[.int .i64 (kd : Int), .int .i64 ((cN : Int) + z), .int .i64 (cn : Int), .slice none 0 0, .int .i64 0, .slice none 0 0] 28)) w.heap.size u4 q.d (vb q.act.data) ∧ Keep ((w2.setCell ⟨w1.heap.size, 1, none⟩ (.int .i64 ((cN : Int) + z))).alloc (.cells #[.int .i64 (kd : Int), .int .i64 ((cN : Int) + z), .int .i64 (cn : Int), .slice none 0 0, .int .i64 0, .slice none 0 0] 28)) w.heap.size u4 q.s (vs q.act.seeds) := by subst hq; exact ⟨keep_nil _ _ _, keep_nil _ _ _⟩
      have hact : (step bs k cN).1 = q.act ∧ (step bs k cN).2.1 = k3 ∧ (step bs k cN).2.2 = cN + z := by
        rw [HST.out, if_neg (by have := HKD.out; omega), if_neg (by have := HKD.out; omega), if_neg (by have := HKD.out; omega), ← HKD.out]; subst hq; exact ⟨rfl, rfl, rfl⟩
      have OF := Lib.hid ((HO.out.mod MC.out).mod ((Mod.refl [w.heap.size] _).alloc (.cells #[.int .i64 (kd : Int), .int .i64 ((cN : Int) + z), .int .i64 (cn : Int), .slice none 0 0, .int .i64 0, .slice none 0 0] 28)))
      try simp only [setCell_size] at hB
      have HB := Lib.hid hB
      have HONE := Lib.hid hone
      have HKEEP := Lib.hid hkeep
      have HACT := Lib.hid hact
      have hlen : av.length ≤ 900000 := by have := congrArg List.length HAV.out; rw [List.length_map] at this; omega
      clear hB hone hkeep hact hcells hq
      go_wp2_with (at_builtin; go_must (refine app_act q _ OF.out rfl _ _ rfl rfl rfl HB.out (by simp; omega) hlen HONE.out HKEEP.out ?_; intro v9 w9 ho9 hM9))
      have hb9 := own_block OF.out.1
      have M9 := Lib.hid ((((MR.out.trans' MC.out (fun x hx => by simp at hx; omega)).alloc (.cells #[.int .i64 (kd : Int), .int .i64 ((cN : Int) + z), .int .i64 (cn : Int), .slice none 0 0, .int .i64 0, .slice none 0 0] 28))).trans' hM9 (fun x hx => by have := hb9 x (by simpa using hx); omega))
      have R9 := Lib.hid ((RC.out.mod ((Mod.refl [] _).alloc (.cells #[.int .i64 (kd : Int), .int .i64 ((cN : Int) + z), .int .i64 (cn : Int), .slice none 0 0, .int .i64 0, .slice none 0 0] 28)) (by simp) (by simp)).mod hM9 (fun hx => by have := hb9 _ (by simpa using hx); omega) (fun hx => by have := hb9 _ (by simpa using hx); omega))
      have O9 := Lib.hid ho9
      clear hM9 ho9 hb9
      go_wp2_with fail
      refine ⟨⟨k3, cN + z, _, av ++ [q], by simp, by omega, R9.out, O9.out, rfl, ?_, ?_, M9.out⟩, ?_⟩
      · have := HS.out.snoc hlt
        rw [HACT.out.2.1, HACT.out.2.2, HACT.out.1] at this
        rw [List.map_append, HAV.out]; exact this
      · rw [List.length_map, List.length_append, List.length_singleton]; have := congrArg List.length HAV.out; rw [List.length_map] at this; omega
      · rw [R9.out.blk.cell (i := 1) rfl, c1]; simp [intOf]; omega
    · obtain rfl : k = bs.length := by omega
      go_wp2_with fail
      go_ret
      exact ⟨_, cN, l, av, w.heap.size, rfl, Nat.le_refl _, HO.out, HAV.out, HS.out, hll, MR.out⟩
end Go.Proofs.Ytmiagiemagdnfaa.Script
