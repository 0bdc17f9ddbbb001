/- script: the reader: num, take. -/
import Derived.Test.YtmiagiemagdnfaaFrameA
namespace Go.Proofs.Ytmiagiemagdnfaa.Script
open Go Go.RowKit Go.YtmiagiemagdnfaaMem Go.YtmiagiemagdnfaaLex Go.Proofs.Ytmiagiemagdnfaa.Frame
set_option linter.unusedVariables false
set_option linter.unusedSimpArgs false

/-- A number of so many bytes, zeros behind the last. -/
def rdN : Nat → List UInt8 → Nat
  | 0, _ => 0
  | j + 1, s => rdN j s * 256 + (s.getD j 0).toNat
theorem rdN_lt : ∀ (j : Nat) (s : List UInt8), rdN j s < 256 ^ j
  | 0, _ => by simp [rdN]
  | j + 1, s => by
    have h1 := rdN_lt j s
    have h2 := (s.getD j 0).toNat_lt
    rw [rdN, Nat.pow_succ]
    have : (rdN j s + 1) * 256 ≤ 256 ^ j * 256 := Nat.mul_le_mul_right _ h1
    omega

/-- A reader that stands at the k-th byte. -/
structure Rd (w : World) (g b off cp : Nat) (bs : List UInt8) (k : Nat) : Prop where
  blk : Blk w g 41 [.slice (some ⟨b, off, none⟩) bs.length cp, .int .i64 k]
  cells : ∀ i u, (vb bs)[i]? = some u → w.cell? ⟨b, off + i, none⟩ = some u
  ne : b ≠ g
  hb : b < w.heap.size
  le : k ≤ bs.length
  cap : bs.length ≤ cp ∧ cp ≤ maxLen
  few : bs.length ≤ 100000
theorem Rd.mod {S : List Nat} {w w' : World} {g b off cp : Nat} {bs : List UInt8} {k : Nat} (h : Rd w g b off cp bs k) (hm : Mod S w w') (hg : g ∉ S) (hb : b ∉ S) : Rd w' g b off cp bs k :=
  ⟨hm.blk h.blk hg, fun i u hu => (hm.cell h.hb hb).trans (h.cells i u hu), h.ne, hm.lt h.hb, h.le, h.cap, h.few⟩
theorem Rd.set {w : World} {g b off cp : Nat} {bs : List UInt8} {k : Nat} (h : Rd w g b off cp bs k) (m : Nat) (hm : m ≤ bs.length) : Rd (w.setCell ⟨g, 1, none⟩ (.int .i64 m)) g b off cp bs m :=
  ⟨h.blk.set 1 (.int .i64 m), fun i u hu => (((Mod.refl [g] w).setCell (p := ⟨g, 1, none⟩) (.inl (by simp)) (.int .i64 m)).cell h.hb (by simpa using h.ne)).trans (h.cells i u hu), h.ne, by simpa using h.hb, hm, h.cap, h.few⟩

theorem own_nil (w : World) (B : Nat) : OwnB w B (.slice none 0 0) [] := World.ownsRow_nil w B _ _
theorem part_cell {w : World} {b off : Nat} {bs : List UInt8} (hcell : ∀ i u, (vb bs)[i]? = some u → w.cell? ⟨b, off + i, none⟩ = some u) {i m j : Nat} {u : Value} (hu : (vb ((bs.drop i).take m))[j]? = some u) : w.cell? ⟨b, off + i + j, none⟩ = some u := by
  have hj : j < m := by have := (List.getElem?_eq_some_iff.1 hu).1; rw [vb_length, List.length_take] at this; omega
  rw [Nat.add_assoc]
  refine hcell (i + j) u ?_
  unfold vb at hu ⊢
  rw [List.getElem?_map, List.getElem?_take_of_lt hj, List.getElem?_drop] at hu
  rw [List.getElem?_map]; exact hu

theorem or_byte {x c : Nat} (hc : c < 256) (hx : x < 72057594037927936) : bits .or .u64 (((x : Nat) : Int) * 256) ((c : Nat) : Int) = ((x * 256 + c : Nat) : Int) := by
  have h1 : (2 : Int) ^ IntKind.u64.bits = 18446744073709551616 := by decide
  have h2 : IntKind.u64.signed = false := rfl
  have hw : ∀ n : Nat, n < 18446744073709551616 → IntKind.u64.wrap (n : Int) = n := fun n h => by
    unfold IntKind.wrap
    simp only [h1, h2, Bool.false_and, Bool.false_eq_true, if_false]
    omega
  rw [show ((x : Nat) : Int) * 256 = ((x * 256 : Nat) : Int) by simp]
  simp only [bits, BitVec.ofInt_natCast, BitVec.toNat_or, BitVec.toNat_ofNat]
  simp only [show IntKind.u64.bits = 64 from rfl]
  rw [Nat.mod_eq_of_lt (show x * 256 < 2 ^ 64 by omega), Nat.mod_eq_of_lt (show c < 2 ^ 64 by omega)]
  have : x * 256 ||| c = x * 256 + c := by
    have := Nat.two_pow_add_eq_or_of_lt (i := 8) (b := c) hc x
    rw [show (2 : Nat) ^ 8 * x = x * 256 by omega] at this
    exact this.symm
  rw [this, hw _ (by omega)]

set_option maxRecDepth 4000 in
set_option maxHeartbeats 1600000 in
theorem num_any {w : World} {g b off cp k0 : Nat} {bs : List UInt8} (h : Rd w g b off cp bs k0) (n : Nat) (hn : n ≤ 8) :
    Calls Try.prog 13 #[.pointer (some ⟨g, 0, none⟩), .int .i64 n] w fun e w' => e = .returned (.int .u64 (rdN n (bs.drop k0))) ∧ Mod [g] w w' ∧ Rd w' g b off cp bs (min (k0 + n) bs.length) := by
  have H := Lib.hid h
  have hfew := h.few
  have hle := h.le
  clear h
  go_enter Try.func13, Try.ntmps13
  go_wp2_with fail
  go_loopw [5, 7] (fun x i wr => ∃ j k : Nat, j ≤ n ∧ k = min (k0 + j) bs.length ∧ i = .int .i64 j ∧ (∃ z : Nat, z = rdN j (bs.drop k0) ∧ x = .int .u64 z) ∧ Rd wr g b off cp bs k ∧ Mod [g] w wr) (fun _ i _ => n - (intOf i).toNat)
  case atStart => exact ⟨0, k0, Nat.zero_le _, by omega, rfl, ⟨0, rfl, rfl⟩, H.out, Mod.refl _ _⟩
  case round =>
    obtain ⟨j, k, hj, hk, rfl, ⟨z, hz, rfl⟩, hR, hM⟩ := hrel
    have HZ := Lib.hid hz
    have HK := Lib.hid hk
    have hkk : k < bs.length → k = k0 + j := fun h => by omega
    have hkb : ¬ k < bs.length → min (k0 + (j + 1)) bs.length = k := fun h => by omega
    have hkn : k < bs.length → min (k0 + (j + 1)) bs.length = k + 1 := fun h => by omega
    have HKK := Lib.hid hkk
    have HKB := Lib.hid hkb
    have HKN := Lib.hid hkn
    clear hk hkk hkb hkn
    have hlt := rdN_lt j (bs.drop k0)
    rw [← hz] at hlt
    have c0 := hR.blk.cell (i := 0) rfl
    have c1 := hR.blk.cell (i := 1) rfl
    have f1 := hR.blk.free 1
    have HR := Lib.hid hR
    have MR := Lib.hid hM
    clear hR hM hz
    by_cases hjn : j < n
    · have hz7 : z < 72057594037927936 := by
        refine Nat.lt_of_lt_of_le hlt ?_
        rw [show (72057594037927936 : Nat) = 256 ^ 7 from rfl]
        exact Nat.pow_le_pow_right (by decide) (by omega)
      clear hlt
      by_cases hkl : k < bs.length
      · have ck : wr.cell? ⟨b, off + k, none⟩ = some (.int .u8 bs[k].toNat) := HR.out.cells k _ (vb_get (List.getElem?_eq_getElem hkl))
        have hbyte := bs[k].toNat_lt
        have hor := or_byte hbyte hz7
        have dk : decide ((k : Int) < bs.length) = true := by simp; omega
        go_wp2_with fail
        refine wp_region_lex (by kernel_rfl) (by kernel_rfl) ?_
        go_wp2_with fail
        refine ⟨by kernel_rfl, ?_⟩
        go_wp2_with fail
        refine wp_region_lex (by kernel_rfl) (by kernel_rfl) ?_
        go_wp2_with fail
        refine ⟨by kernel_rfl, ?_⟩
        go_wp2_with fail
        have M2 := MR.out.setCell (p := ⟨g, 1, none⟩) (.inl (by simp)) (.int .i64 ((k : Int) + 1))
        have R2 := HR.out.set (k + 1) (by omega)
        rw [show ((k + 1 : Nat) : Int) = (k : Int) + 1 by simp] at R2
        refine ⟨⟨j + 1, k + 1, by omega, (HKN.out hkl).symm, by go_num, ⟨z * 256 + bs[k].toNat, ?_, rfl⟩, R2.mod ((Mod.refl [] _).drew.drew) (by simp) (by simp), M2.drew.drew⟩, by simp [intOf]; omega⟩
        rw [rdN, ← HZ.out, List.getD_eq_getElem?_getD, List.getElem?_drop, ← HKK.out hkl, List.getElem?_eq_getElem hkl]; rfl
      · have dk : decide ((k : Int) < bs.length) = false := by simp; omega
        go_wp2_with fail
        refine wp_region_lex (by kernel_rfl) (by kernel_rfl) ?_
        go_wp2_with fail
        refine ⟨by kernel_rfl, ?_⟩
        go_wp2_with fail
        refine ⟨⟨j + 1, k, by omega, (HKB.out hkl).symm, by go_num, ⟨z * 256, ?_, by simp⟩, HR.out.mod ((Mod.refl [] wr).drew) (by simp) (by simp), MR.out.drew⟩, by simp [intOf]; omega⟩
        have hk := HK.out
        rw [rdN, ← HZ.out, List.getD_eq_getElem?_getD, List.getElem?_drop, List.getElem?_eq_none (by omega)]; rfl
    · obtain rfl : j = n := by omega
      go_wp2_with fail
      go_ret
      refine ⟨by first | rfl | (rw [HZ.out]; rfl), MR.out, ?_⟩
      rw [← HK.out]; exact HR.out

set_option maxRecDepth 4000 in
set_option maxHeartbeats 1600000 in
theorem take_any {w : World} {g b off cp k : Nat} {bs : List UInt8} (h : Rd w g b off cp bs k) (n : Nat) (hn : n ≤ 255) :
    Calls Try.prog 14 #[.pointer (some ⟨g, 0, none⟩), .int .i64 n] w fun e w' => ∃ v', e = .returned v' ∧ OwnB w' w.heap.size v' ((bs.drop k).take n) ∧ Mod [g] w w' ∧ Rd w' g b off cp bs (min (k + n) bs.length) := by
  obtain ⟨m, hm⟩ : ∃ m : Nat, m = min n (bs.length - k) := ⟨_, rfl⟩
  have hle := h.le
  have hfew := h.few
  have hcap := h.cap
  have e1 : (bs.drop k).take n = (bs.drop k).take m := by
    rw [hm]; by_cases h : n ≤ bs.length - k
    · rw [Nat.min_eq_left h]
    · rw [Nat.min_eq_right (by omega), List.take_of_length_le (by rw [List.length_drop]; omega), List.take_of_length_le (by rw [List.length_drop]; exact Nat.le_refl _)]
  have e2 : min (k + n) bs.length = k + m := by omega
  have hmk : k + m ≤ bs.length := by omega
  have hmin : min (n : Int) ((bs.length : Int) - k) = m := by omega
  have hmn : ∀ w : World, (Builtin.min_ #[3, 3] 3 #[.int .i64 (n : Int), .int .i64 ((bs.length : Int) - k)]).run Try.prog w = .ok (.int .i64 m) w := fun w => by
    show Result.ok (Value.int .i64 (if ((bs.length : Int) - k) < (n : Int) then ((bs.length : Int) - k) else (n : Int))) w = _
    congr 2; omega
  clear hmin
  rw [e1, e2]
  have H := Lib.hid h
  have c0 := h.blk.cell (i := 0) rfl
  have c1 := h.blk.cell (i := 1) rfl
  have f1 := h.blk.free 1
  have hlm : ((bs.drop k).take m).length = m := by rw [List.length_take, List.length_drop]; omega
  have HLM := Lib.hid hlm
  clear h hm e1 e2 hlm
  go_enter Try.func14, Try.ntmps14
  go_wp2_with fail
  refine wp_region_lex (by kernel_rfl) (by kernel_rfl) ?_
  go_wp2_with fail
  refine ⟨by kernel_rfl, ?_⟩
  have M2 := Lib.hid ((Mod.refl [g] w).setCell (p := ⟨g, 1, none⟩) (.inl (by simp)) (.int .i64 ((k : Int) + m)))
  have R2 := H.out.set (k + m) hmk
  rw [show ((k + m : Nat) : Int) = (k : Int) + m by simp] at R2
  have HR2 := Lib.hid R2
  clear R2
  by_cases hck : cp = k
  · subst hck
    have hm0 : m = 0 := by omega
    subst hm0
    obtain rfl : cp = bs.length := by omega
    go_wp2_with fail
    refine wp_region_lex (by kernel_rfl) (by kernel_rfl) ?_
    go_wp2_with (at_builtin; go_must (refine app_row (B := w.heap.size) ((bs.drop bs.length).take 0) ⟨b, off, none⟩ 0 (own_nil _ _) rfl _ _ rfl rfl (by rw [HLM.out]; rfl) (fun i u hu => by simp at hu) (by simp) (by simp) ?_; intro v3 w3 ho3 hM3 hat3))
    refine ⟨by kernel_rfl, ?_⟩
    have M3 := Lib.hid (M2.out.drew.drew.trans' hM3 (by simp [Value.ownBlock]))
    have R3 := Lib.hid ((HR2.out.mod ((Mod.refl [] _).drew.drew) (by simp) (by simp)).mod hM3 (by simp [Value.ownBlock]) (by simp [Value.ownBlock]))
    have O3 := Lib.hid ho3
    clear hM3 ho3 hat3
    go_wp2_with fail
    go_ret
    exact ⟨_, rfl, O3.out, M3.out, R3.out⟩
  · go_wp2_with fail
    refine wp_region_lex (by kernel_rfl) (by kernel_rfl) ?_
    have ekm : k + m - k = m := by omega
    go_wp2_with (at_builtin; go_must (refine app_row (B := w.heap.size) ((bs.drop k).take m) ⟨b, off + k, none⟩ (cp - k) (own_nil _ _) rfl _ _ rfl rfl (by rw [HLM.out]; show Value.slice (some ⟨b, off + k, none⟩) (k + m - k) (cp - k) = _; rw [ekm]) (fun i u hu => by rw [add_eq]; exact part_cell HR2.out.cells hu) (by simp) (by have := HLM.out; simp; omega) ?_; intro v3 w3 ho3 hM3 hat3))
    refine ⟨by kernel_rfl, ?_⟩
    have M3 := Lib.hid (M2.out.drew.drew.trans' hM3 (by simp [Value.ownBlock]))
    have R3 := Lib.hid ((HR2.out.mod ((Mod.refl [] _).drew.drew) (by simp) (by simp)).mod hM3 (by simp [Value.ownBlock]) (by simp [Value.ownBlock]))
    have O3 := Lib.hid ho3
    clear hM3 ho3 hat3
    go_wp2_with fail
    go_ret
    exact ⟨_, rfl, O3.out, M3.out, R3.out⟩
end Go.Proofs.Ytmiagiemagdnfaa.Script
