/- index's laws: IndexFull. -/
import Derived.Test.YtgnemlfheiaolaaIndexLaw2
namespace Go.Proofs.Ytgnemlfheiaolaa.Index
open Go Go.RowKit Go.YtgnemlfheiaolaaMem Go.YtgnemlfheiaolaaLex Go.Proofs.Ytgnemlfheiaolaa.Hash Go.Proofs.Ytgnemlfheiaolaa.Keys Go.Proofs.Ytgnemlfheiaolaa.Probe
set_option linter.unusedVariables false
set_option linter.unusedSimpArgs false

/-- The law's i-th name. -/
def nm (i : Nat) : List UInt8 := [UInt8.ofNat (97 + i % 26), UInt8.ofNat (97 + i / 26)]
theorem nm_inj {i j : Nat} (hi : i < 32) (hj : j < 32) (h : nm i = nm j) : i = j := by
  unfold nm at h
  injection h with h1 h2
  injection h2 with h2 _
  have e1 := congrArg UInt8.toNat h1
  have e2 := congrArg UInt8.toNat h2
  simp only [UInt8.toNat_ofNat'] at e1 e2
  omega
set_option maxRecDepth 4000 in
theorem name_any (i : Nat) (hi : i < 32) (w : World) : Calls Try.prog 14 #[.int .i64 i] w fun e w' => e = .returned (.string ⟨(nm i).toArray⟩) ∧ Mod [] w w' := by
  have h1 : (i : Int).tmod 26 = ((i % 26 : Nat) : Int) := by rw [Int.tmod_eq_emod_of_nonneg (by omega)]; simp
  have h2 : (i : Int).tdiv 26 = ((i / 26 : Nat) : Int) := by rw [Int.tdiv_eq_ediv_of_nonneg (by omega)]; simp
  obtain ⟨a, ha⟩ : ∃ a, i % 26 = a := ⟨_, rfl⟩
  obtain ⟨b, hb⟩ : ∃ b, i / 26 = b := ⟨_, rfl⟩
  have ha1 : a < 26 := by omega
  have hb1 : b < 2 := by omega
  obtain ⟨p, hp⟩ : ∃ p, UInt8.ofNat (97 + a) = p := ⟨_, rfl⟩
  obtain ⟨q, hq⟩ : ∃ q, UInt8.ofNat (97 + b) = q := ⟨_, rfl⟩
  have hm : nm i = [p, q] := by unfold nm; rw [ha, hb, hp, hq]
  rw [hm]
  rw [ha] at h1
  rw [hb] at h2
  have x1 : p.toNat = 97 + a := by rw [← hp, UInt8.toNat_ofNat']; omega
  have x2 : q.toNat = 97 + b := by rw [← hq, UInt8.toNat_ofNat']; omega
  have HB := Lib.hid (Blk.new w (vb [p, q]) 5)
  have hs : Sl (w.alloc (.cells #[.int .u8 (97 + (a : Int)), .int .u8 (97 + (b : Int))] 5)) (.slice (some ⟨w.heap.size, 0, none⟩) 2 2) (vb [p, q]) := by
    have e : (vb [p, q]) = [.int .u8 (97 + (a : Int)), .int .u8 (97 + (b : Int))] := by
      unfold vb; simp only [List.map_cons, List.map_nil, x1, x2]; simp
    have h := HB.out
    rw [e] at h ⊢
    exact .inr ⟨w.heap.size, 0, 2, rfl, by simp, by unfold maxLen; omega, h.lt, fun i u hu => by rw [Nat.zero_add]; exact h.cell hu⟩
  have cv := run_str (P := Try.prog) hs Try.underlying43 Try.underlying5 Try.underlying9
  clear hm ha hb x1 x2 hs hp hq
  go_enter Try.func14, Try.ntmps14
  go_wp2_with fail
  go_ret
  exact ⟨rfl, (Mod.refl [] w).alloc _⟩
theorem find_nil (key : List UInt8) (w : World) : Calls Try.prog 13 #[.pointer none, .string ⟨key.toArray⟩] w fun e w' => e = .returned (.int .i64 (-1)) ∧ w = w' := by
  go_enter Try.func13, Try.ntmps13
  go_wp2_with fail
  go_ret
  exact ⟨rfl, rfl⟩
theorem put_nil (key : List UInt8) (w : World) : Calls Try.prog 11 #[.pointer none, .string ⟨key.toArray⟩] w fun e w' => e = .returned (.int .i64 (-1)) ∧ w = w' := by
  go_enter Try.func11, Try.ntmps11
  go_wp2_with fail
  go_ret
  exact ⟨rfl, rfl⟩
theorem remove_nil (key : List UInt8) (w : World) : Calls Try.prog 12 #[.pointer none, .string ⟨key.toArray⟩] w fun e w' => e = .returned (.int .i64 (-1)) ∧ w = w' := by
  go_enter Try.func12, Try.ntmps12
  go_wp2_with fail
  go_step3
  go_wp2_with fail
  try rw [Exit.noGoto_ret]
  go_ret
  exact ⟨rfl, rfl⟩
theorem new_nil (r : Row) (w : World) : Calls Try.prog 8 #[.pointer none, .agg #[.int .u64 (r.x : Int), .int .u64 (r.a : Int), .int .u64 (r.b : Int)]] w fun e w' => e = .returned (.pointer none) ∧ Mod [] w w' := by
  go_enter Try.func8, Try.ntmps8
  go_wp2_with fail
  go_ret
  exact ⟨rfl, (Mod.refl [] w).alloc _⟩
theorem bytes_any (n : Nat) (hn : n ≤ 100000) (w : World) : Calls Try.prog 15 #[.int .i64 n] w fun e w' => e = .returned (.int .i64 (4 * (2 * (n : Int) + 1))) ∧ w = w' := by
  have K := Lib.hid (fun W : World => size_any n (by omega) W)
  obtain ⟨m, hm⟩ : ∃ m, 2 * n + 1 = m := ⟨_, rfl⟩
  rw [hm] at K
  rw [show 4 * (2 * (n : Int) + 1) = 4 * (m : Int) by omega]
  have hm2 : m ≤ 200001 := by omega
  clear hm
  go_enter Try.func15, Try.ntmps15
  go_wp2_with fail
  refine (K.out _).mono ?_
  rintro e1 w1 ⟨rfl, rfl⟩
  go_wp2_with fail
  go_ret
  exact ⟨rfl, rfl⟩
/-- The first k names are put. -/
structure Part (n k : Nat) (S : List (Option (List UInt8))) : Prop where
  len : S.length = n
  put : ∀ i, i < k → S[i]? = some (some (nm i))
  free : ∀ i, k ≤ i → i < n → S[i]? = some none
theorem Part.place {n k : Nat} {S : List (Option (List UInt8))} (h : Part n k S) (hk : k < n) (hn : n ≤ 32) : placeOf S (nm k) = none := placeOf_none fun q hq => by
  have hql : q < n := by rw [← h.len]; exact (List.getElem?_eq_some_iff.1 hq).1
  by_cases hqk : q < k
  · rw [h.put q hqk] at hq
    simp at hq
    have := nm_inj (by omega) (by omega) hq
    omega
  · rw [h.free q (by omega) hql] at hq; simp at hq
theorem Part.next {n k : Nat} {S : List (Option (List UInt8))} (h : Part n k S) (hk : k < n) : Part n (k + 1) (S.set k (some (nm k))) := by
  have hl := h.len
  refine ⟨by rw [List.length_set]; exact h.len, fun i hi => ?_, fun i h1 h2 => ?_⟩
  · by_cases e : k = i
    · subst e; exact List.getElem?_set_self (by omega)
    · rw [List.getElem?_set_ne e]; exact h.put i (by omega)
  · rw [List.getElem?_set_ne (by omega)]; exact h.free i (by omega) h2
/-- Some names are gone. -/
structure Gone (n : Nat) (S : List (Option (List UInt8))) (gs : List Bool) : Prop where
  len : S.length = n
  glen : gs.length = n
  at_ : ∀ i, i < n → S[i]? = some (if gs[i]? = some true then none else some (nm i))
theorem Part.gone {n : Nat} {S : List (Option (List UInt8))} (h : Part n n S) : Gone n S (List.replicate n false) :=
  ⟨h.len, List.length_replicate, fun i hi => by rw [h.put i hi, if_neg]; rw [List.getElem?_replicate]; simp [hi]⟩
theorem Gone.place {n : Nat} {S : List (Option (List UInt8))} {gs : List Bool} (h : Gone n S gs) (hu : Uniq S) (hn : n ≤ 32) {i : Nat} (hi : i < n) : placeOf S (nm i) = if gs[i]? = some true then none else some i := by
  have hi' := h.at_ i hi
  split
  · rename_i hg
    refine placeOf_none fun q hq => ?_
    have hql : q < n := by rw [← h.len]; exact (List.getElem?_eq_some_iff.1 hq).1
    rw [h.at_ q hql] at hq
    split at hq
    · simp at hq
    · rename_i hq2
      simp at hq
      have := nm_inj (by omega) (by omega) hq
      subst this
      exact hq2 hg
  · rename_i hg
    rw [if_neg hg] at hi'
    exact placeOf_there hu hi'
theorem Gone.del {n : Nat} {S : List (Option (List UInt8))} {gs : List Bool} (h : Gone n S gs) {i : Nat} (hi : i < n) : Gone n (S.set i none) (gs.set i true) := by
  have h1 := h.len
  have h2 := h.glen
  refine ⟨by rw [List.length_set]; exact h1, by rw [List.length_set]; exact h2, fun q hq => ?_⟩
  by_cases e : i = q
  · subst e; rw [List.getElem?_set_self (by omega), List.getElem?_set_self (by omega), if_pos rfl]
  · rw [List.getElem?_set_ne e, List.getElem?_set_ne e]; exact h.at_ q hq
theorem Gone.same {n : Nat} {S : List (Option (List UInt8))} {gs : List Bool} (h : Gone n S gs) {i : Nat} (hi : i < n) (hg : gs[i]? = some true) : Gone n S (gs.set i true) := by
  have h2 := h.glen
  refine ⟨h.len, by rw [List.length_set]; exact h2, fun q hq => ?_⟩
  rw [h.at_ q hq]
  by_cases e : i = q
  · subst e; rw [List.getElem?_set_self (by omega), if_pos hg, if_pos rfl]
  · rw [List.getElem?_set_ne e]
def vbool (gs : List Bool) : List Value := gs.map Value.bool
theorem vbool_get {gs : List Bool} {i : Nat} {b : Bool} (h : gs[i]? = some b) : (vbool gs)[i]? = some (.bool b) := by simp [vbool, h]
theorem vbool_set (gs : List Bool) (i : Nat) (b : Bool) : vbool (gs.set i b) = (vbool gs).set i (.bool b) := by unfold vbool; rw [List.map_set]
theorem bool_info : (Try.prog.info? 4).map (fun i => (i.zero, i.size, i.bytes)) = some (some (.bool false), 1, 1) := by kernel_rfl
set_option maxRecDepth 8000 in
set_option maxHeartbeats 12800000 in
theorem full_main (w : World) (nz : Int) (a0 a1 a2 : Nat) (ha : ∀ x ∈ [a0, a1, a2], x < 18446744073709551616) (a : Option Addr) (cp : Nat) (zs : List Int) (hA : ∀ k, k < zs.length → At w a (zs.map (Value.int .i64)) k) (hl : zs.length ≤ 100) :
    Calls Try.prog 5 #[.int .i64 nz, .agg #[.int .u64 (a0 : Int), .int .u64 (a1 : Int), .int .u64 (a2 : Int)], .slice a zs.length cp] w (RunsPost w) := by
  obtain ⟨n, n1, hn1, hn2, hnn⟩ : ∃ n n1 : Nat, bits .and .i64 nz 31 = (n1 : Int) ∧ n1 < 32 ∧ n = n1 + 1 := ⟨_, (nz % 32).toNat, by rw [show (31 : Int) = 2 ^ 5 - 1 from rfl, and_mask _ _ (by omega)]; omega, by omega, rfl⟩
  have hnc : (n1 : Int) + 1 = (n : Int) := by omega
  have hn : n ≤ 32 := by omega
  have hn0 : 0 < n := by omega
  have R1 := Lib.hid (fun W : World => row_any a0 a1 a2 (ha a0 (by simp)) (ha a1 (by simp)) (ha a2 (by simp)) W)
  have hr1 := rowOf_ok [a0, a1, a2]
  unfold RowPost v3 at R1
  generalize rowOf [a0, a1, a2] = r1 at *
  have HR1 := Lib.hid hr1
  have HP := Lib.hid hA
  have B0 := Lib.hid (Blk.new w [.int .u64 (a0 : Int), .int .u64 (a1 : Int), .int .u64 (a2 : Int)] 23)
  have d1 : decide ((100 : Int) < zs.length) = false := by simp; omega
  clear ha hr1 hA hnn
  go_enter Try.func5, Try.ntmps5
  go_wp2_with fail
  refine (fit_any _).mono ?_
  rintro e1 w1 ⟨rfl, hM1⟩
  have M1 := Lib.hid (((Mod.refl [] w).alloc (.cells #[.int .u64 (a0 : Int), .int .u64 (a1 : Int), .int .u64 (a2 : Int)] 23)).trans hM1)
  have B1 := Lib.hid (hM1.blk B0.out (by simp))
  clear hM1
  go_wp2_with fail
  refine (Keys.new_any n (by omega) _).mono ?_
  rintro e2 w2 ⟨g, b1, b2, b3, bs, nx, rfl, hS, hg, h1, h2, h3, hM2⟩
  have S2 := Lib.hid hS
  have M2 := Lib.hid (M1.out.trans hM2)
  have B2 := Lib.hid (hM2.blk B1.out (by simp))
  have hb1 := B1.out.lt
  clear hS hM2
  have k0 := B2.out.cell (i := 0) rfl
  have k1 := B2.out.cell (i := 1) rfl
  have k2 := B2.out.cell (i := 2) rfl
  go_wp2_with fail
  refine (R1.out _).mono ?_
  rintro e3 w3 ⟨rfl, hM3⟩
  have M3 := Lib.hid (M2.out.trans hM3)
  have S3 := Lib.hid (S2.out.mod hM3 (by simp))
  have B3 := Lib.hid (hM3.blk B2.out (by simp))
  clear k0 k1 k2 hM3
  go_wp2_with fail
  refine (new_at S3.out r1 HR1.out).mono ?_
  rintro e4 w4 ⟨x, L, rfl, hI, hL, hx, hM4⟩
  have M4 := Lib.hid (M3.out.trans hM4)
  have I4 := Lib.hid hI
  have B4 := Lib.hid (hM4.blk B3.out (by simp))
  have hs3 := B3.out.lt
  have L4 : Hid (∀ b, b ∈ L → w.heap.size < b) := Lib.hid fun b hb => by
    rcases hL b hb with h | h
    · simp at h; omega
    · omega
  have NX : Hid (w.heap.size ∉ L) := Lib.hid fun h => by have := L4.out _ h; omega
  clear hI hL hM4 hg h1 h2 h3 hx hs3 hb1 B3 B2 B1 S3 S2 M3 M2
  go_wp2_with fail
  go_loopw [33] (fun i wr => ∃ (k : Nat) (S : List (Option (List UInt8))), k ≤ n ∧ i = .int .i64 (k : Int) ∧ Part n k S ∧ IdxAt wr x g L r1 S ((List.range n).drop k) ∧ Mod L w4 wr) (fun i _ => n - (intOf i).toNat)
  case atStart => exact ⟨0, emp n, Nat.zero_le _, rfl, ⟨by simp [emp], fun i hi => by omega, fun i h1 h2 => by unfold emp; rw [List.getElem?_replicate]; simp [h2]⟩, I4.out, Mod.refl _ _⟩
  case round =>
    obtain ⟨k, S, hk, rfl, hPt, hI, hM⟩ := hrel
    have IR := Lib.hid hI
    have MR := Lib.hid hM
    have PR := Lib.hid hPt
    clear hPt hI hM I4
    by_cases hlt : k < n
    · have hp1 : putS S ((List.range n).drop k) (nm k) = ((k : Int), S.set k (some (nm k)), (List.range n).drop (k + 1)) := by
        rw [range_drop hlt, putS_yes (PR.out.place hlt hn) (by simp [nm])]
      have N1 := Lib.hid (fun W : World => name_any k (by omega) W)
      have hnl : (nm k).length ≤ 1000000 := by simp [nm]
      have PU := Lib.hid (fun (W : World) (hW : Mod [] wr W) => put_any (IR.out.mod hW (by simp)) (nm k) hnl)
      rw [hp1] at PU
      have PN := Lib.hid (PR.out.next hlt)
      clear hp1
      go_wp2_with fail
      refine (N1.out _).mono ?_
      rintro e5 w5 ⟨rfl, hM5⟩
      have M5 := Lib.hid hM5
      clear hM5
      go_wp2_with fail
      refine (PU.out _ M5.out).mono ?_
      rintro e6 w6 ⟨rfl, hI6, hM6⟩
      have I6 := Lib.hid hI6
      have M6 := Lib.hid ((MR.out.trans (M5.out.mono (by simp))).trans hM6)
      have hp2 : putS (S.set k (some (nm k))) ((List.range n).drop (k + 1)) (nm k) = (-1, S.set k (some (nm k)), (List.range n).drop (k + 1)) := putS_there (placeOf_there I6.out.uniq (PN.out.put k (by omega)))
      have PU2 := Lib.hid (fun (W : World) (hW : Mod [] w6 W) => put_any (I6.out.mod hW (by simp)) (nm k) hnl)
      rw [hp2] at PU2
      clear hI6 hM6 hp2
      go_wp2_with fail
      refine (N1.out _).mono ?_
      rintro e7 w7 ⟨rfl, hM7⟩
      have M7 := Lib.hid hM7
      clear hM7
      go_wp2_with fail
      refine (PU2.out _ M7.out).mono ?_
      rintro e8 w8 ⟨rfl, hI8, hM8⟩
      have I8 := Lib.hid hI8
      have M8 := Lib.hid ((M6.out.trans (M7.out.mono (by simp))).trans hM8)
      clear hI8 hM8
      go_wp2_with fail
      go_roundw
      case rel => exact ⟨k + 1, _, by omega, by go_num, PN.out, I8.out, M8.out⟩
      case measure => simp [intOf]; omega
    · obtain rfl : k = n := by omega
      have hdn : (List.range k).drop k = [] := List.drop_eq_nil_of_le (by simp)
      have I5 : Hid (IdxAt wr x g L r1 S []) := Lib.hid (by have := IR.out; rw [hdn] at this; exact this)
      have PZ : Hid (Calls Try.prog 11 #[.pointer (some ⟨x, 0, none⟩), .string ⟨#[122, 122]⟩] wr fun e w' => e = .returned (.int .i64 (-1)) ∧ IdxAt w' x g L r1 S [] ∧ Mod L wr w') := Lib.hid (by
        have h := put_any I5.out [122, 122] (by decide)
        have e : putS S [] [122, 122] = (-1, S, []) := by
          cases hp : placeOf S [122, 122] with
          | some p => exact putS_there hp
          | none => exact putS_no hp (.inl rfl)
        rw [e] at h
        exact h)
      clear hdn IR
      go_wp2_with fail
      refine PZ.out.mono ?_
      rintro e6 w6 ⟨rfl, hI6, hM6⟩
      have I6 := Lib.hid hI6
      have M6 := Lib.hid (MR.out.trans hM6)
      have B6 := Lib.hid (M6.out.blk B4.out NX.out)
      have NG : Hid (w6.heap.size ∉ L) := Lib.hid fun h => by have := I6.out.lt _ h; omega
      have hgw : w.heap.size < w6.heap.size := B6.out.lt
      have m1 := run_make_row' (P := Try.prog) 45 4 (.bool false) 1 Try.underlying45 bool_info rfl .i64 .i64 k (by omega) (by omega)
      obtain ⟨L1, hL1⟩ : ∃ L1, vbool (List.replicate k false) = L1 := ⟨_, rfl⟩
      have q1 : madeCells #[.bool false] k = L1.toArray := by
        rw [← Array.toArray_toList (xs := madeCells _ _), toList_madeCells_one, ← hL1]; unfold vbool; rw [List.map_replicate]
      rw [q1] at m1
      have H1 := Lib.hid hL1
      have G0 := Lib.hid (Blk.new w6 L1 4)
      have I7 := Lib.hid (I6.out.mod ((Mod.refl [] w6).alloc (.cells L1.toArray 4)) (by simp))
      have M7 := Lib.hid ((M4.out.trans' M6.out (fun b hb => .inr (by have := L4.out b hb; omega))).alloc (.cells L1.toArray 4))
      have B7 := Lib.hid (B6.out.alloc (.cells L1.toArray 4))
      have GN := Lib.hid PR.out.gone
      clear hI6 hM6 hL1 q1
      go_wp2_with fail
      obtain ⟨gb, hgb⟩ : ∃ gb, w6.heap.size = gb := ⟨_, rfl⟩
      obtain ⟨w7, hw7⟩ : ∃ w7, w6.alloc (.cells L1.toArray 4) = w7 := ⟨_, rfl⟩
      rw [hgb] at NG hgw G0
      rw [hw7] at I7 M7 B7 G0
      have G1 : Hid (Blk w7 gb 4 (vbool (List.replicate k false))) := Lib.hid (by rw [H1.out]; exact G0.out)
      rw [hgb, hw7]
      clear hgb hw7 m1 G0
      go_loopw [59] (fun i wr => ∃ (j : Nat) (S : List (Option (List UInt8))) (fl : List Nat) (gs : List Bool), j ≤ zs.length ∧ i = .int .i64 (j : Int) ∧ Gone k S gs ∧ IdxAt wr x g L r1 S fl ∧ Blk wr gb 4 (vbool gs) ∧ Mod (gb :: L) w7 wr) (fun i _ => zs.length - (intOf i).toNat)
      case atStart => exact ⟨0, S, [], _, Nat.zero_le _, rfl, GN.out, I7.out, G1.out, Mod.refl _ _⟩
      case round =>
        obtain ⟨j, S2, fl, gs, hj, rfl, hG, hI, hB, hM⟩ := hrel
        have JR := Lib.hid hI
        have KR := Lib.hid hM
        have BR := Lib.hid hB
        have GR := Lib.hid hG
        have hm0 := hM
        clear hG hI hB hM I7 G1 GN I6 I5 PZ PR MR
        by_cases hjl : j < zs.length
        · obtain ⟨z, hz⟩ : ∃ z, zs[j]? = some z := ⟨_, List.getElem?_eq_getElem hjl⟩
          obtain ⟨i0, hi1, hi2⟩ : ∃ i0 : Nat, bits .and .i64 z 31 = (i0 : Int) ∧ i0 < 32 := ⟨(z % 32).toNat, by rw [show (31 : Int) = 2 ^ 5 - 1 from rfl, and_mask _ _ (by omega)]; omega, by omega⟩
          obtain ⟨b, off, rfl, hb, hcell⟩ := HP.out j hjl
          have c0 := (hm0.cell (a := ⟨b, off + j, none⟩) (Nat.lt_of_lt_of_le hb M7.out.size) (by simp; exact ⟨by omega, fun h => by have := L4.out _ h; omega⟩)).trans ((M7.out.cell (a := ⟨b, off + j, none⟩) hb (by simp)).trans (hcell j (.int .i64 z) (by rw [List.getElem?_map, hz]; rfl)))
          clear hm0 hcell hb hz
          by_cases hik : i0 < k
          · obtain ⟨b0, hb0⟩ : ∃ b0, gs[i0]? = some b0 := ⟨_, List.getElem?_eq_getElem (by rw [GR.out.glen]; exact hik)⟩
            have N1 := Lib.hid (fun W : World => name_any i0 (by omega) W)
            have hnl : (nm i0).length ≤ 1000000 := by simp [nm]
            have gl := BR.out.cell (vbool_get hb0)
            have hpl := GR.out.place JR.out.uniq hn hik
            have HB0 := Lib.hid hb0
            have RM := Lib.hid (fun (W : World) (hW : Mod [] wr W) => remove_any (JR.out.mod hW (by simp)) (nm i0) hnl)
            cases b0 with
            | true =>
              rw [if_pos hb0] at hpl
              have hrm : remS S2 fl (nm i0) = (-1, S2, fl) := by unfold remS; rw [hpl]
              rw [hrm] at RM
              have GS := Lib.hid (GR.out.same hik hb0)
              clear hb0 hpl hrm
              go_wp2_with fail
              refine (N1.out _).mono ?_
              rintro e8 w8 ⟨rfl, hM8⟩
              have M8 := Lib.hid hM8
              clear hM8
              go_wp2_with fail
              refine (RM.out _ M8.out).mono ?_
              rintro e9 w9 ⟨rfl, hI9, hM9⟩
              have I9 := Lib.hid hI9
              have M9 := Lib.hid ((KR.out.trans (M8.out.mono (by simp))).trans (hM9.mono (fun b hb => .inl (List.mem_cons_of_mem _ hb))))
              have B9 := Lib.hid (hM9.blk (M8.out.blk BR.out (by simp)) NG.out)
              have gc := B9.out.cell (vbool_get HB0.out)
              have gf := B9.out.free i0
              have MS := Lib.hid ((Mod.refl [gb] w9).setCell (p := ⟨gb, i0, none⟩) (.inl (by simp)) (.bool true))
              have I10 := Lib.hid (I9.out.mod MS.out (by simp; exact fun b hb hm => NG.out (hm ▸ hb)))
              have M10 := Lib.hid (M9.out.trans (MS.out.mono (by simp)))
              have B10 : Hid (Blk (w9.setCell ⟨gb, i0, none⟩ (.bool true)) gb 4 (vbool (gs.set i0 true))) := Lib.hid (by rw [vbool_set]; exact B9.out.set i0 _)
              clear hI9 hM9
              go_wp2_with fail
              obtain ⟨w10, hw10⟩ : ∃ w10, w9.setCell ⟨gb, i0, none⟩ (.bool true) = w10 := ⟨_, rfl⟩
              rw [hw10] at I10 M10 B10 ⊢
              clear hw10 gc gf gl c0
              go_loopw [84] (fun i wr => ∃ (q : Nat), q ≤ k ∧ i = .int .i64 (q : Int) ∧ Mod [] w10 wr) (fun i _ => k - (intOf i).toNat)
              case atStart => exact ⟨0, Nat.zero_le _, rfl, Mod.refl _ _⟩
              case round =>
                obtain ⟨q, hq, rfl, hM⟩ := hrel
                have MQ := Lib.hid hM
                clear hM
                by_cases hqk : q < k
                · obtain ⟨bq, hbq⟩ : ∃ bq, (gs.set i0 true)[q]? = some bq := ⟨_, List.getElem?_eq_getElem (by rw [GS.out.glen]; exact hqk)⟩
                  have N2 := Lib.hid (fun W : World => name_any q (by omega) W)
                  have IQ := Lib.hid (I10.out.mod MQ.out (by simp))
                  have BQ := Lib.hid (MQ.out.blk B10.out (by simp))
                  have FQ := Lib.hid (fun (W : World) (hW : Mod [] wr W) => find_any (IQ.out.mod hW (by simp)) (nm q) (by simp [nm]))
                  have hpq := GS.out.place IQ.out.uniq hn hqk
                  have HBQ := Lib.hid hbq
                  have isc : IsC wr.drew gb := isC_of_cell (w := wr) (BQ.out.cell (vbool_get hbq))
                  have IS := Lib.hid isc
                  clear isc
                  cases bq with
                  | true =>
                    rw [if_pos hbq] at hpq
                    have ho : optInt (placeOf S2 (nm q)) = -1 := by rw [hpq]; rfl
                    rw [ho] at FQ
                    clear hbq hpq ho
                    go_wp2_with fail
                    refine wp_region_held [4, 1] [10] [] (by kernel_rfl) (by kernel_rfl) ?_
                    simp only [wpCut, List.take_succ_cons, List.take_zero, List.drop_succ_cons, List.drop_zero, List.cons_append, List.nil_append]
                    go_wp2_with fail
                    refine (N2.out _).mono ?_
                    rintro e11 w11 ⟨rfl, hM11⟩
                    have M11 := Lib.hid ((Mod.refl [] wr).drew.trans hM11)
                    have N11 := Lib.hid hM11
                    clear hM11
                    go_wp2_with fail
                    refine ⟨N11.out, ?_⟩
                    go_wp2_with fail
                    refine (FQ.out _ M11.out).mono ?_
                    rintro e12 w12 ⟨rfl, hM12⟩
                    have N12 := Lib.hid (N11.out.trans hM12)
                    have M12 := Lib.hid (M11.out.trans hM12)
                    have gq := (M12.out.blk BQ.out (by simp)).cell (vbool_get HBQ.out)
                    clear hM12
                    go_wp2_with fail
                    refine ⟨N12.out, ?_⟩
                    go_wp2_with fail
                    refine ⟨by kernel_rfl, ⟨⟨by simp, IS.out⟩, trivial⟩, ?_⟩
                    go_wp2_with fail
                    go_roundw
                    case rel => exact ⟨q + 1, by omega, by go_num, MQ.out.trans M12.out⟩
                    case measure => simp [intOf]; omega
                  | false =>
                    rw [if_neg (by rw [hbq]; simp)] at hpq
                    have ho : optInt (placeOf S2 (nm q)) = (q : Int) := by rw [hpq]; rfl
                    rw [ho] at FQ
                    clear hbq hpq ho
                    go_wp2_with fail
                    refine wp_region_held [4, 1] [10] [] (by kernel_rfl) (by kernel_rfl) ?_
                    simp only [wpCut, List.take_succ_cons, List.take_zero, List.drop_succ_cons, List.drop_zero, List.cons_append, List.nil_append]
                    go_wp2_with fail
                    refine (N2.out _).mono ?_
                    rintro e11 w11 ⟨rfl, hM11⟩
                    have M11 := Lib.hid ((Mod.refl [] wr).drew.trans hM11)
                    have N11 := Lib.hid hM11
                    clear hM11
                    go_wp2_with fail
                    refine ⟨N11.out, ?_⟩
                    go_wp2_with fail
                    refine (FQ.out _ M11.out).mono ?_
                    rintro e12 w12 ⟨rfl, hM12⟩
                    have N12 := Lib.hid (N11.out.trans hM12)
                    have M12 := Lib.hid (M11.out.trans hM12)
                    have gq := (M12.out.blk BQ.out (by simp)).cell (vbool_get HBQ.out)
                    clear hM12
                    go_wp2_with fail
                    refine ⟨N12.out, ?_⟩
                    go_wp2_with fail
                    refine ⟨by kernel_rfl, ⟨⟨by simp, IS.out⟩, trivial⟩, ?_⟩
                    go_wp2_with fail
                    go_roundw
                    case rel => exact ⟨q + 1, by omega, by go_num, MQ.out.trans M12.out⟩
                    case measure => simp [intOf]; omega
                · obtain rfl : q = k := by omega
                  go_wp2_with fail
                  go_roundw
                  case rel => exact ⟨j + 1, _, _, _, by omega, by go_num, GS.out, I10.out.mod MQ.out (by simp), MQ.out.blk B10.out (by simp), M10.out.trans (MQ.out.mono (by simp))⟩
                  case measure => simp [intOf]; omega
            | false =>
              rw [if_neg (by rw [hb0]; simp)] at hpl
              have hrm : remS S2 fl (nm i0) = ((i0 : Int), S2.set i0 none, i0 :: fl) := by unfold remS; rw [hpl]
              rw [hrm] at RM
              have GS := Lib.hid (GR.out.del hik)
              clear hb0 hpl hrm
              go_wp2_with fail
              refine (N1.out _).mono ?_
              rintro e8 w8 ⟨rfl, hM8⟩
              have M8 := Lib.hid hM8
              clear hM8
              go_wp2_with fail
              refine (RM.out _ M8.out).mono ?_
              rintro e9 w9 ⟨rfl, hI9, hM9⟩
              have I9 := Lib.hid hI9
              have M9 := Lib.hid ((KR.out.trans (M8.out.mono (by simp))).trans (hM9.mono (fun b hb => .inl (List.mem_cons_of_mem _ hb))))
              have B9 := Lib.hid (hM9.blk (M8.out.blk BR.out (by simp)) NG.out)
              have gc := B9.out.cell (vbool_get HB0.out)
              have gf := B9.out.free i0
              have MS := Lib.hid ((Mod.refl [gb] w9).setCell (p := ⟨gb, i0, none⟩) (.inl (by simp)) (.bool true))
              have I10 := Lib.hid (I9.out.mod MS.out (by simp; exact fun b hb hm => NG.out (hm ▸ hb)))
              have M10 := Lib.hid (M9.out.trans (MS.out.mono (by simp)))
              have B10 : Hid (Blk (w9.setCell ⟨gb, i0, none⟩ (.bool true)) gb 4 (vbool (gs.set i0 true))) := Lib.hid (by rw [vbool_set]; exact B9.out.set i0 _)
              clear hI9 hM9
              go_wp2_with fail
              obtain ⟨w10, hw10⟩ : ∃ w10, w9.setCell ⟨gb, i0, none⟩ (.bool true) = w10 := ⟨_, rfl⟩
              rw [hw10] at I10 M10 B10 ⊢
              clear hw10 gc gf gl c0
              go_loopw [84] (fun i wr => ∃ (q : Nat), q ≤ k ∧ i = .int .i64 (q : Int) ∧ Mod [] w10 wr) (fun i _ => k - (intOf i).toNat)
              case atStart => exact ⟨0, Nat.zero_le _, rfl, Mod.refl _ _⟩
              case round =>
                obtain ⟨q, hq, rfl, hM⟩ := hrel
                have MQ := Lib.hid hM
                clear hM
                by_cases hqk : q < k
                · obtain ⟨bq, hbq⟩ : ∃ bq, (gs.set i0 true)[q]? = some bq := ⟨_, List.getElem?_eq_getElem (by rw [GS.out.glen]; exact hqk)⟩
                  have N2 := Lib.hid (fun W : World => name_any q (by omega) W)
                  have IQ := Lib.hid (I10.out.mod MQ.out (by simp))
                  have BQ := Lib.hid (MQ.out.blk B10.out (by simp))
                  have FQ := Lib.hid (fun (W : World) (hW : Mod [] wr W) => find_any (IQ.out.mod hW (by simp)) (nm q) (by simp [nm]))
                  have hpq := GS.out.place IQ.out.uniq hn hqk
                  have HBQ := Lib.hid hbq
                  have isc : IsC wr.drew gb := isC_of_cell (w := wr) (BQ.out.cell (vbool_get hbq))
                  have IS := Lib.hid isc
                  clear isc
                  cases bq with
                  | true =>
                    rw [if_pos hbq] at hpq
                    have ho : optInt (placeOf (S2.set i0 none) (nm q)) = -1 := by rw [hpq]; rfl
                    rw [ho] at FQ
                    clear hbq hpq ho
                    go_wp2_with fail
                    refine wp_region_held [4, 1] [10] [] (by kernel_rfl) (by kernel_rfl) ?_
                    simp only [wpCut, List.take_succ_cons, List.take_zero, List.drop_succ_cons, List.drop_zero, List.cons_append, List.nil_append]
                    go_wp2_with fail
                    refine (N2.out _).mono ?_
                    rintro e11 w11 ⟨rfl, hM11⟩
                    have M11 := Lib.hid ((Mod.refl [] wr).drew.trans hM11)
                    have N11 := Lib.hid hM11
                    clear hM11
                    go_wp2_with fail
                    refine ⟨N11.out, ?_⟩
                    go_wp2_with fail
                    refine (FQ.out _ M11.out).mono ?_
                    rintro e12 w12 ⟨rfl, hM12⟩
                    have N12 := Lib.hid (N11.out.trans hM12)
                    have M12 := Lib.hid (M11.out.trans hM12)
                    have gq := (M12.out.blk BQ.out (by simp)).cell (vbool_get HBQ.out)
                    clear hM12
                    go_wp2_with fail
                    refine ⟨N12.out, ?_⟩
                    go_wp2_with fail
                    refine ⟨by kernel_rfl, ⟨⟨by simp, IS.out⟩, trivial⟩, ?_⟩
                    go_wp2_with fail
                    go_roundw
                    case rel => exact ⟨q + 1, by omega, by go_num, MQ.out.trans M12.out⟩
                    case measure => simp [intOf]; omega
                  | false =>
                    rw [if_neg (by rw [hbq]; simp)] at hpq
                    have ho : optInt (placeOf (S2.set i0 none) (nm q)) = (q : Int) := by rw [hpq]; rfl
                    rw [ho] at FQ
                    clear hbq hpq ho
                    go_wp2_with fail
                    refine wp_region_held [4, 1] [10] [] (by kernel_rfl) (by kernel_rfl) ?_
                    simp only [wpCut, List.take_succ_cons, List.take_zero, List.drop_succ_cons, List.drop_zero, List.cons_append, List.nil_append]
                    go_wp2_with fail
                    refine (N2.out _).mono ?_
                    rintro e11 w11 ⟨rfl, hM11⟩
                    have M11 := Lib.hid ((Mod.refl [] wr).drew.trans hM11)
                    have N11 := Lib.hid hM11
                    clear hM11
                    go_wp2_with fail
                    refine ⟨N11.out, ?_⟩
                    go_wp2_with fail
                    refine (FQ.out _ M11.out).mono ?_
                    rintro e12 w12 ⟨rfl, hM12⟩
                    have N12 := Lib.hid (N11.out.trans hM12)
                    have M12 := Lib.hid (M11.out.trans hM12)
                    have gq := (M12.out.blk BQ.out (by simp)).cell (vbool_get HBQ.out)
                    clear hM12
                    go_wp2_with fail
                    refine ⟨N12.out, ?_⟩
                    go_wp2_with fail
                    refine ⟨by kernel_rfl, ⟨⟨by simp, IS.out⟩, trivial⟩, ?_⟩
                    go_wp2_with fail
                    go_roundw
                    case rel => exact ⟨q + 1, by omega, by go_num, MQ.out.trans M12.out⟩
                    case measure => simp [intOf]; omega
                · obtain rfl : q = k := by omega
                  go_wp2_with fail
                  go_roundw
                  case rel => exact ⟨j + 1, _, _, _, by omega, by go_num, GS.out, I10.out.mod MQ.out (by simp), MQ.out.blk B10.out (by simp), M10.out.trans (MQ.out.mono (by simp))⟩
                  case measure => simp [intOf]; omega
          · go_wp2_with fail
            go_roundw
            case rel => exact ⟨j + 1, S2, fl, gs, by omega, by go_num, GR.out, JR.out, BR.out, KR.out⟩
            case measure => simp [intOf]; omega
        · obtain rfl : j = zs.length := by omega
          have BX := hm0.blk B7.out (by simp; exact ⟨by omega, NX.out⟩)
          have MX := Lib.hid (M7.out.trans' hm0 (fun b hb => .inr (by
            rcases List.mem_cons.1 hb with rfl | hb
            · omega
            · have := L4.out b hb; omega)))
          have FN := Lib.hid (fun W : World => find_nil [97] W)
          have UN := Lib.hid (fun W : World => put_nil [97] W)
          have RN := Lib.hid (fun W : World => remove_nil [97] W)
          have NN := Lib.hid (fun W : World => new_nil r1 W)
          have BY := Lib.hid (fun W : World => bytes_any k (by omega) W)
          have k0 := BX.cell (i := 0) rfl
          have k1 := BX.cell (i := 1) rfl
          have k2 := BX.cell (i := 2) rfl
          clear BX hm0
          go_wp2_with fail
          refine (FN.out _).mono ?_
          rintro e8 w8 ⟨rfl, rfl⟩
          go_wp2_with fail
          refine (UN.out _).mono ?_
          rintro e8 w8 ⟨rfl, rfl⟩
          go_wp2_with fail
          refine (RN.out _).mono ?_
          rintro e8 w8 ⟨rfl, rfl⟩
          go_wp2_with fail
          refine (R1.out _).mono ?_
          rintro e8 w8 ⟨rfl, hM8⟩
          have M8 := Lib.hid (MX.out.trans hM8)
          clear hM8 k0 k1 k2
          go_wp2_with fail
          refine (NN.out _).mono ?_
          rintro e9 w9 ⟨rfl, hM9⟩
          have M9 := Lib.hid (M8.out.trans hM9)
          clear hM9
          go_wp2_with fail
          refine (BY.out _).mono ?_
          rintro e10 w10 ⟨rfl, rfl⟩
          go_wp2_with fail
          go_ret
          exact ⟨rfl, M9.out⟩
set_option maxRecDepth 8000 in
theorem full_walk (w : World) (nz : Int) (hw : (Lit.int .i64 nz).wf = true) (v : Value) (ds : List Nat) (hv : v = .agg (ds.map fun x : Nat => Value.int .u64 (x : Int)).toArray) (hd : ds.length = 3) (ha : ∀ x ∈ ds, x < 18446744073709551616) (u : Value) (zs : List Int) (hs : Sl w u (zs.map (Value.int .i64))) (hz : ∀ n ∈ zs, (Lit.int .i64 n).wf = true) :
    Calls Try.prog 5 #[.int .i64 nz, v, u] w fun e w' => e = .returned (.bool true) ∧ Mod [] w w' := by
  subst hv
  obtain ⟨a, cp, rfl, hm, hA⟩ := hs.open
  rw [List.length_map] at *
  match ds, hd with
  | [a0, a1, a2], _ =>
    by_cases hl : zs.length ≤ 100
    · exact full_main w nz a0 a1 a2 ha a cp zs hA hl
    · have d1 : decide ((100 : Int) < zs.length) = true := by simp; omega
      obtain ⟨n, hn1, hn2⟩ : ∃ n : Nat, bits .and .i64 nz 31 = (n : Int) ∧ n < 32 := ⟨(nz % 32).toNat, by rw [show (31 : Int) = 2 ^ 5 - 1 from rfl, and_mask _ _ (by omega)]; omega, by omega⟩
      unfold maxLen at hm
      clear hA hs hw hz
      simp only [List.map_cons, List.map_nil]
      go_enter Try.func5, Try.ntmps5
      go_wp2_with fail
      refine (fit_any _).mono ?_
      rintro e1 w1 ⟨rfl, hM1⟩
      have M1 := Lib.hid (((Mod.refl [] w).alloc _).trans hM1)
      clear hM1
      go_wp2_with fail
      go_ret
      exact ⟨rfl, M1.out⟩
end Go.Proofs.Ytgnemlfheiaolaa.Index
