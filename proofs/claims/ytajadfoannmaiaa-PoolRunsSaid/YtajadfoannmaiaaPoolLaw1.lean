/- pool's laws: PoolIdle. -/
import Derived.Test.YtajadfoannmaiaaPoolFit
import Derived.Test.YtajadfoannmaiaaArg
namespace Go.Proofs.Ytajadfoannmaiaa.Pool
open Go Go.RowKit Go.YtajadfoannmaiaaMem Go.YtajadfoannmaiaaLex Go.YtajadfoannmaiaaRange Go.Proofs.Ytajadfoannmaiaa.Hash Go.Proofs.Ytajadfoannmaiaa.Keys Go.Proofs.Ytajadfoannmaiaa.Index Go.Proofs.Ytajadfoannmaiaa.Cell Go.Proofs.Ytajadfoannmaiaa.Arith
set_option linter.unusedVariables false
set_option linter.unusedSimpArgs false

/-- The i-th name of one byte. -/
def nk (i : Nat) : List UInt8 := [UInt8.ofNat (97 + i)]
theorem nk_inj {i j : Nat} (hi : i < 100) (hj : j < 100) (h : nk i = nk j) : i = j := by
  unfold nk at h
  injection h with h1 _
  have e1 := congrArg UInt8.toNat h1
  simp only [UInt8.toNat_ofNat'] at e1
  omega
/-- The first k names have cells, in order; the others are free. -/
structure Row1 (n k : Nat) (s : PS) (f : Nat → Cell) : Prop where
  len : s.S.length = n ∧ s.C.length = n
  put : ∀ i, i < k → s.S[i]? = some (some (nk i)) ∧ s.C[i]? = some (f i)
  free : ∀ i, k ≤ i → i < n → s.S[i]? = some none
  fl : s.fl = (List.range n).drop k
theorem row1_zero (n : Nat) (f : Nat → Cell) : Row1 n 0 (s0 n) f :=
  ⟨by simp [s0, emp], fun i hi => by omega, fun i h1 h2 => by simp [s0, emp, List.getElem?_replicate, h2], by simp [s0]⟩
theorem Row1.place {n k : Nat} {s : PS} {f : Nat → Cell} (h : Row1 n k s f) (hk : k < n) (hn : n ≤ 100) : placeOf s.S (nk k) = none := placeOf_none fun q hq => by
  have hql : q < n := by rw [← h.len.1]; exact (List.getElem?_eq_some_iff.1 hq).1
  by_cases hqk : q < k
  · rw [(h.put q hqk).1] at hq
    simp at hq
    have := nk_inj (by omega) (by omega) hq
    omega
  · rw [h.free q (by omega) hql] at hq; simp at hq
theorem Row1.putP {n k : Nat} {s : PS} {f : Nat → Cell} (h : Row1 n k s f) (hk : k < n) (hn : n ≤ 100) (c : Cell) : putP s (nk k) c = (some k, ⟨s.S.set k (some (nk k)), (List.range n).drop (k + 1), s.C.set k c⟩) := by
  unfold Pool.putP
  rw [h.place hk hn, h.fl, range_drop hk]
  simp only
  rw [if_pos (by simp [nk])]
theorem Row1.next {n k : Nat} {s : PS} {f : Nat → Cell} (h : Row1 n k s f) (hk : k < n) (hn : n ≤ 100) : Row1 n (k + 1) (Pool.putP s (nk k) (f k)).2 f := by
  rw [h.putP hk hn]
  obtain ⟨l1, l2⟩ := h.len
  refine ⟨by simp [l1, l2], fun i hi => ?_, fun i h1 h2 => ?_, rfl⟩
  · by_cases e : k = i
    · subst e; exact ⟨List.getElem?_set_self (by omega), List.getElem?_set_self (by omega)⟩
    · simp only; rw [List.getElem?_set_ne e, List.getElem?_set_ne e]; exact h.put i (by omega)
  · simp only; rw [List.getElem?_set_ne (by omega)]; exact h.free i (by omega) h2
/-- Its keys and cells, in order. -/
def rowL (k : Nat) (f : Nat → Cell) : List (List UInt8 × Cell) := (List.range k).map fun i => (nk i, f i)
theorem rowL_succ (k : Nat) (f : Nat → Cell) : rowL (k + 1) f = rowL k f ++ [(nk k, f k)] := by simp [rowL, List.range_succ]
theorem Row1.pairsTo {n k : Nat} {s : PS} {f : Nat → Cell} (h : Row1 n k s f) : ∀ j, j ≤ n → pairsTo s.S s.C j = rowL (min j k) f
  | 0, _ => by simp [Pool.pairsTo, rowL]
  | j + 1, hj => by
    have ih := h.pairsTo j (by omega)
    obtain ⟨c, hc⟩ : ∃ c, s.C[j]? = some c := ⟨_, List.getElem?_eq_getElem (by have := h.len.2; omega)⟩
    by_cases hjk : j < k
    · obtain ⟨p1, p2⟩ := h.put j hjk
      rw [pairsTo_next p1 p2, ih, Nat.min_eq_left (by omega), Nat.min_eq_left (by omega), rowL_succ]; rfl
    · rw [pairsTo_next (h.free j (by omega) (by omega)) hc, ih, Nat.min_eq_right (by omega), Nat.min_eq_right (by omega)]; simp
theorem Row1.pairs {n k : Nat} {s : PS} {f : Nat → Cell} (h : Row1 n k s f) (hk : k ≤ n) : pairs s.S s.C = rowL k f := by
  rw [← pairsTo_all (by rw [h.len.1, h.len.2]), h.len.1, h.pairsTo n (Nat.le_refl _), Nat.min_eq_right hk]
theorem first_snoc {p : Pace} {now : Int} {l : List (List UInt8 × Cell)} {x : List UInt8 × Cell} :
    firstIdle p now (l ++ [x]) = if (firstIdle p now l).2 = true then firstIdle p now l else if x.2.idle p now = true then (.string ⟨x.1.toArray⟩, true) else firstIdle p now l := by
  unfold firstIdle
  rw [List.find?_append]
  cases h : l.find? (fun x => x.2.idle p now) with
  | some y => simp
  | none =>
    cases hx : x.2.idle p now <;> simp [hx]

theorem first_form (p : Pace) (now : Int) (l : List (List UInt8 × Cell)) : ∃ (t : List UInt8) (b : Bool), firstIdle p now l = (.string ⟨t.toArray⟩, b) := by
  unfold firstIdle
  split
  · exact ⟨_, _, rfl⟩
  · exact ⟨[], false, rfl⟩
/-- The law's pace and cells. -/
def lawPace : Pace := ⟨3, 10, 2, 5⟩
theorem lawPace_ok : lawPace.ok := ⟨i64_small (by decide) (by decide), i64_small (by decide) (by decide), i64_small (by decide) (by decide), i64_small (by decide) (by decide)⟩
def lowN (z : Int) : Nat := (z % 64).toNat
theorem and63 (z : Int) : bits .and .i64 z 63 = (lowN z : Int) ∧ lowN z < 64 := by
  refine ⟨?_, by unfold lowN; omega⟩
  rw [show (63 : Int) = 2 ^ 6 - 1 from rfl, and_mask _ _ (by omega)]
  unfold lowN; omega
def lawCell (zs : List Int) (i : Nat) : Cell := fresh (lowN (zs.getD i 0) : Int) 0
theorem lawCell_ok (zs : List Int) (i : Nat) : (lawCell zs i).ok := fresh_ok (i64_small (by omega) (by have := (and63 (zs.getD i 0)).2; omega)) (i64_small (by decide) (by decide))
theorem lawIdle (zs : List Int) (i : Nat) (m : Nat) (hm : m < 64) : (lawCell zs i).idle lawPace (m : Int) = decide (((lowN (zs.getD i 0) : Nat) : Int) + 10 ≤ (m : Int)) := by
  have h := (and63 (zs.getD i 0)).2
  unfold Cell.idle Cell.young lawCell fresh lawPace
  simp only
  rw [sum_in (i64_small (by omega) (by omega))]
  rw [Bool.eq_iff_iff]
  simp only [Bool.and_eq_true, Bool.not_eq_true', decide_eq_true_eq, decide_eq_false_iff_not]
  omega

set_option maxRecDepth 8000 in
set_option maxHeartbeats 6400000 in
theorem idle_main (w : World) (a : Option Addr) (cp : Nat) (zs : List Int) (hA : ∀ k, k < zs.length → Go.YtajadfoannmaiaaMem.At w a (zs.map (Value.int .i64)) k) (hl : zs.length ≤ 20) (nz : Int) :
    Calls Try.prog 6 #[.slice a zs.length cp, .int .i64 nz] w fun e w' => e = .returned (.bool true) ∧ Mod [] w w' := by
  have HP := Lib.hid hA
  have d1 : decide ((20 : Int) < zs.length) = false := by simp; omega
  have N0 := Lib.hid (fun W : World => new_any 20 (by omega) (by omega) ⟨3, 5, 0⟩ ⟨by decide, by decide, by decide⟩ W)
  have OF := Lib.hid (fun W : World => of_any ⟨5, 10, 2, 0, 0, 0, 0, 0, false⟩ (i64_small (by decide) (by decide)) (i64_small (by decide) (by decide)) (i64_small (by decide) (by decide)) (by decide) (by decide) (by decide) (by decide) W)
  have hpc : Rule.pace ⟨5, 10, 2, 0, 0, 0, 0, 0, false⟩ = lawPace := by simp [Rule.pace, ceil, lawPace]
  rw [hpc] at OF
  simp only [Rule.val, lawPace, Pace.val] at OF
  obtain ⟨m, hm, hm64⟩ : ∃ m : Nat, bits .and .i64 nz 63 = (m : Int) ∧ m < 64 := ⟨_, and63 nz⟩
  clear hA hpc
  go_enter Try.func6, Try.ntmps6
  go_wp2_with fail
  refine (fit_any _).mono ?_
  rintro e1 w1 ⟨rfl, hM1⟩
  have M1 := Lib.hid hM1
  clear hM1
  go_wp2_with fail
  refine (OF.out _).mono ?_
  rintro e2 w2 ⟨rfl, hM2⟩
  have M2 := Lib.hid (M1.out.trans hM2)
  have BP := Lib.hid (Blk.new w2 [.int .i64 3, .int .i64 10, .int .i64 2, .int .i64 5] 58)
  have A2 := Lib.hid ((Mod.refl [] w2).alloc (.cells #[.int .i64 3, .int .i64 10, .int .i64 2, .int .i64 5] 58))
  clear hM2
  go_wp2_with fail
  refine (N0.out _).mono ?_
  rintro e3 w3 ⟨B, rfl, hP, hB, hr, hM3⟩
  have P3 := Lib.hid (show At w3 B (s0 20) from hP)
  have M3 := Lib.hid ((M2.out.trans A2.out).trans hM3)
  have B3 := Lib.hid (hM3.blk BP.out (by simp))
  have hsz : (w2.alloc (.cells #[.int .i64 3, .int .i64 10, .int .i64 2, .int .i64 5] 58)).heap.size = w2.heap.size + 1 := by simp
  rw [hsz] at hB
  have hw2 := M2.out.size
  have BL : Hid (∀ b, b ∈ B.all → w.heap.size ≤ b) := Lib.hid fun b hb => by have := hB b hb; omega
  have NP : Hid (w2.heap.size ∉ B.all) := Lib.hid fun hm => by have := hB _ hm; omega
  clear hP hB hr hM3 hsz
  go_wp2_with fail
  go_loopw [7, 8, 33] (fun wv kv i wr => ∃ (k : Nat) (s : PS), k ≤ zs.length ∧ i = .int .i64 (k : Int) ∧ Row1 20 k s (lawCell zs) ∧ At wr B s ∧ wv = (firstIdle lawPace m (rowL k (lawCell zs))).1 ∧ kv = .bool (firstIdle lawPace m (rowL k (lawCell zs))).2 ∧ Mod B.all w3 wr) (fun _ _ i _ => zs.length - (intOf i).toNat)
  case atStart => exact ⟨0, s0 20, Nat.zero_le _, rfl, row1_zero 20 _, P3.out, rfl, rfl, Mod.refl _ _⟩
  case round =>
    obtain ⟨k, s, hk, rfl, hR, hP, rfl, rfl, hM⟩ := hrel
    have RR := Lib.hid hR
    have PR := Lib.hid hP
    have MR := Lib.hid hM
    have MW := Lib.hid (M3.out.trans' hM (fun b hb => .inr (BL.out b hb)))
    clear hR hP hM P3
    by_cases hlt : k < zs.length
    · obtain ⟨z, hz⟩ : ∃ z, zs[k]? = some z := ⟨_, List.getElem?_eq_getElem hlt⟩
      obtain ⟨b, off, rfl, hb, hcell⟩ := HP.out k hlt
      have c0 := (MW.out.cell (a := ⟨b, off + k, none⟩) hb (by simp)).trans (hcell k (.int .i64 z) (by rw [List.getElem?_map, hz]; rfl))
      have hzd : zs.getD k 0 = z := by rw [List.getD_eq_getElem?_getD, hz]; rfl
      obtain ⟨q, hq⟩ : ∃ q, UInt8.ofNat (97 + k) = q := ⟨_, rfl⟩
      have hnk : nk k = [q] := by unfold nk; rw [hq]
      have hqn : q.toNat = 97 + k := by rw [← hq, UInt8.toNat_ofNat']; omega
      obtain ⟨hs1, hs2⟩ := and63 z
      obtain ⟨sv, hsv⟩ : ∃ sv, lowN z = sv := ⟨_, rfl⟩
      rw [hsv] at hs1 hs2
      have hcl : lawCell zs k = fresh (sv : Int) 0 := by unfold lawCell; rw [hzd, hsv]
      have hid := lawIdle zs k m hm64
      rw [hzd, hsv] at hid
      have CN := Lib.hid (fun W : World => Cell.new_any (sv : Int) 0 W)
      simp only [fresh, Cell.val] at CN
      have hpp := RR.out.putP (show k < 20 by omega) (by omega) (lawCell zs k)
      have RN := Lib.hid (RR.out.next (show k < 20 by omega) (by omega))
      have PU := Lib.hid (fun (W : World) (hW : Mod [] wr W) => put_at (s := s) (PR.out.mod hW (by simp)) (nk k) (by rw [hnk]; simp) (lawCell zs k) (lawCell_ok zs k))
      have h1 : (Pool.putP s (nk k) (lawCell zs k)).1 = some k := by rw [hpp]
      obtain ⟨rs, hrs⟩ : ∃ rs, Pool.putP s (nk k) (lawCell zs k) = rs := ⟨_, rfl⟩
      rw [hrs] at PU RN h1
      have hca : cellAt B rs.1 = .pointer (some ⟨B.cb, k * 4, none⟩) := by rw [h1]; rfl
      unfold PutPost at PU
      rw [hca, hcl, hnk] at PU
      simp only [fresh, Cell.val] at PU
      have hsn := first_snoc (p := lawPace) (now := m) (l := rowL k (lawCell zs)) (x := (nk k, lawCell zs k))
      rw [← rowL_succ] at hsn
      simp only at hsn
      rw [hid, hnk] at hsn
      obtain ⟨⟨wv, kv⟩, hfi⟩ : ∃ r, firstIdle lawPace m (rowL k (lawCell zs)) = r := ⟨_, rfl⟩
      rw [hfi] at hsn ⊢
      simp only at hsn ⊢
      have HSN := Lib.hid hsn
      have SB := Lib.hid (Blk.new wr (vb [q]) 5)
      have hs : Sl (wr.alloc (.cells #[.int .u8 (97 + (k : Int))] 5)) (.slice (some ⟨wr.heap.size, 0, none⟩) 1 1) (vb [q]) := by
        have e : (vb [q]) = [.int .u8 (97 + (k : Int))] := by unfold vb; simp only [List.map_cons, List.map_nil, hqn]; simp
        have h := SB.out
        rw [e] at h ⊢
        exact .inr ⟨wr.heap.size, 0, 1, rfl, by simp, by unfold maxLen; omega, h.lt, fun i u hu => by rw [Nat.zero_add]; exact h.cell hu⟩
      have cv := run_str (P := Try.prog) hs Try.underlying30 Try.underlying5 Try.underlying9
      have A1 := Lib.hid ((Mod.refl [] wr).alloc (.cells #[.int .u8 (97 + (k : Int))] 5))
      clear hcell hb hz hzd hq hnk hqn hsv hcl hid hpp h1 hrs hca hsn hfi hs
      go_wp2_with fail
      refine (CN.out _).mono ?_
      rintro e5 w5 ⟨rfl, hM5⟩
      have M5 := Lib.hid (A1.out.trans hM5)
      clear hM5
      have A5 := Lib.hid ((Mod.refl [] w5).alloc (.cells #[.int .i64 (sv : Int), .int .i64 (sv : Int), .int .i64 0, .int .i64 0] 32))
      go_wp2_with fail
      refine (PU.out _ (M5.out.trans A5.out)).mono ?_
      rintro e6 w6 ⟨rfl, hP6, hM6⟩
      have P6 := Lib.hid hP6
      have M6 := Lib.hid ((MR.out.trans ((M5.out.trans A5.out).mono (by simp))).trans hM6)
      clear hP6 hM6 c0
      cases kv with
      | true =>
        go_wp2_with fail
        go_roundw
        case rel => exact ⟨k + 1, rs.2, by omega, by go_num, RN.out, P6.out, by rw [HSN.out]; rfl, by rw [HSN.out]; rfl, M6.out⟩
        case measure => simp [intOf]; omega
      | false =>
        by_cases hge : (sv : Int) + 10 ≤ m
        · have d3 : decide ((sv : Int) + 10 ≤ m) = true := by simp [hge]
          have hf : firstIdle lawPace m (rowL (k + 1) (lawCell zs)) = (.string ⟨#[q]⟩, true) := by rw [HSN.out, d3]; rfl
          have HF := Lib.hid hf
          clear hf
          go_wp2_with fail
          go_roundw
          case rel => exact ⟨k + 1, rs.2, by omega, by go_num, RN.out, P6.out, by rw [HF.out], by rw [HF.out], M6.out⟩
          case measure => simp [intOf]; omega
        · have d3 : decide ((sv : Int) + 10 ≤ m) = false := by simp [hge]
          have hf : firstIdle lawPace m (rowL (k + 1) (lawCell zs)) = (wv, false) := by rw [HSN.out, d3]; rfl
          have HF := Lib.hid hf
          clear hf
          go_wp2_with fail
          go_roundw
          case rel => exact ⟨k + 1, rs.2, by omega, by go_num, RN.out, P6.out, by rw [HF.out], by rw [HF.out], M6.out⟩
          case measure => simp [intOf]; omega
    · obtain rfl : k = zs.length := by omega
      have hpr := RR.out.pairs (show zs.length ≤ 20 from hl)
      have ID := Lib.hid (idle_any PR.out lawPace m lawPace_ok (i64_small (by unfold lawPace; simp only; omega) (by unfold lawPace; simp only; omega)))
      have IN := Lib.hid (fun W : World => idle_nil W lawPace m lawPace_ok (i64_small (by unfold lawPace; simp only; omega) (by unfold lawPace; simp only; omega)))
      unfold IdlePost at ID IN
      rw [hpr] at ID
      obtain ⟨t, b, hfi⟩ := first_form lawPace m (rowL zs.length (lawCell zs))
      rw [hfi] at ID ⊢
      have hf0 : firstIdle lawPace m [] = (.string ⟨#[]⟩, false) := rfl
      rw [hf0] at IN
      simp only [Pace.val, lawPace] at ID IN ⊢
      have BX := Lib.hid (MR.out.blk B3.out NP.out)
      have b0 := BX.out.cell (i := 0) rfl
      have b1 := BX.out.cell (i := 1) rfl
      have b2 := BX.out.cell (i := 2) rfl
      have b3 := BX.out.cell (i := 3) rfl
      have RNI := Lib.hid (fun W : World => rem_nil [97] W)
      have FNI := Lib.hid (fun W : World => full_nil W)
      have LNI := Lib.hid (fun W : World => len_nil W)
      have GNI := Lib.hid (fun W : World => find_nil [97] W)
      have PNI := Lib.hid (fun W : World => put_nil [97] Cell.zero W)
      have NN0 := Lib.hid (fun W : World => new_none 0 (by omega) ⟨0, 0, 0⟩ W)
      have NN1 := Lib.hid (fun W : World => new_none 1025 (by omega) ⟨0, 0, 0⟩ W)
      simp only [Cell.zero, Cell.val] at RNI PNI
      clear hpr hfi hf0 RR
      go_wp2_with fail
      refine ID.out.mono ?_
      rintro e5 w5 ⟨rfl, hM5⟩
      have M5 := Lib.hid (MW.out.trans hM5)
      have BY := Lib.hid (hM5.blk BX.out (by simp))
      clear b0 b1 b2 b3 hM5
      have b0 := BY.out.cell (i := 0) rfl
      have b1 := BY.out.cell (i := 1) rfl
      have b2 := BY.out.cell (i := 2) rfl
      have b3 := BY.out.cell (i := 3) rfl
      go_wp2_with fail
      refine (IN.out _).mono ?_
      rintro e6 w6 ⟨rfl, hM6⟩
      have M6 := Lib.hid (M5.out.trans hM6)
      clear b0 b1 b2 b3 hM6
      go_wp2_with fail
      refine (RNI.out _).mono ?_
      rintro e7 w7 ⟨rfl, hM7⟩
      have M7 := Lib.hid ((M6.out.trans hM7).alloc (.cells #[.int .i64 0, .int .i64 0, .int .i64 0, .int .i64 0] 32))
      clear hM7
      cases b
      all_goals go_wp2_with fail
      all_goals refine (FNI.out _).mono ?_
      all_goals rintro e8 w8 ⟨rfl, hM8⟩
      all_goals have M8 := Lib.hid (M7.out.trans hM8)
      all_goals clear hM8
      all_goals go_wp2_with fail
      all_goals refine (LNI.out _).mono ?_
      all_goals rintro e9 w9 ⟨rfl, rfl⟩
      all_goals go_wp2_with fail
      all_goals refine (GNI.out _).mono ?_
      all_goals rintro e9 w9 ⟨rfl, rfl⟩
      all_goals go_wp2_with fail
      all_goals refine (PNI.out _).mono ?_
      all_goals rintro e9 w9 ⟨rfl, hM9⟩
      all_goals have M9 := Lib.hid (M8.out.trans hM9)
      all_goals clear hM9
      all_goals go_wp2_with fail
      all_goals refine (NN0.out _).mono ?_
      all_goals rintro e10 w10 ⟨rfl, hM10⟩
      all_goals have M10 := Lib.hid (M9.out.trans hM10)
      all_goals clear hM10
      all_goals go_wp2_with fail
      all_goals refine (NN1.out _).mono ?_
      all_goals rintro e11 w11 ⟨rfl, hM11⟩
      all_goals have M11 := Lib.hid (M10.out.trans hM11)
      all_goals clear hM11
      all_goals go_wp2_with fail
      all_goals go_ret
      all_goals exact ⟨rfl, M11.out⟩
theorem idle_walk (w : World) (u : Value) (zs : List Int) (hs : Sl w u (zs.map (Value.int .i64))) (hz : ∀ n ∈ zs, (Lit.int .i64 n).wf = true) (nz : Int) (hw : (Lit.int .i64 nz).wf = true) :
    Calls Try.prog 6 #[u, .int .i64 nz] w fun e w' => e = .returned (.bool true) ∧ Mod [] w w' := by
  obtain ⟨a, cp, rfl, hm, hA⟩ := hs.open
  rw [List.length_map] at *
  by_cases hl : zs.length ≤ 20
  · exact idle_main w a cp zs hA hl nz
  · have d1 : decide ((20 : Int) < zs.length) = true := by simp; omega
    unfold maxLen at hm
    clear hA hs hw hz
    go_enter Try.func6, Try.ntmps6
    go_wp2_with fail
    refine (fit_any _).mono ?_
    rintro e1 w1 ⟨rfl, hM1⟩
    have M1 := Lib.hid hM1
    clear hM1
    go_wp2_with fail
    go_ret
    exact ⟨rfl, M1.out⟩
end Go.Proofs.Ytajadfoannmaiaa.Pool
