/- The document's stream: 'all' of the laws of decode. -/
import Derived.Test.YtfmojpkggkjceaaDecLaw4
namespace Go.Proofs.Ytfmojpkggkjceaa.Frame
open Go Go.RowKit Go.YtfmojpkggkjceaaMem Go.YtfmojpkggkjceaaLex
set_option linter.unusedVariables false
set_option linter.unusedSimpArgs false

set_option maxRecDepth 4000 in
set_option maxHeartbeats 3200000 in
theorem ref_all {w : World} {b off cp : Nat} {bs : List UInt8} (h1 : bs.length ≤ cp) (h2 : cp ≤ maxLen) (hb : b < w.heap.size) (hc : ∀ i u, (vb bs)[i]? = some u → w.cell? ⟨b, off + i, none⟩ = some u) (hl : bs.length ≤ 100000) (rules : Int) :
    Calls Try.prog 19 #[.slice (some ⟨b, off, none⟩) bs.length cp, .int .i64 rules] w (AllPost bs rules w) := by
  have HC := Lib.hid hc
  clear hc
  go_enter Try.func19, Try.ntmps19
  go_wp2_with fail
  go_loopw [7, 8] (fun x a wr => ∃ (k : Nat) (l : List Req), k ≤ bs.length ∧ l.length ≤ k ∧ a = .int .i64 k ∧ OwnQ wr w.heap.size x l ∧ runA rules bs [] 0 = ahead l (runA rules (bs.drop k) [] k) ∧ Mod [] w wr) (fun _ a _ => bs.length - (intOf a).toNat)
  case atStart => exact ⟨0, [], Nat.zero_le _, Nat.le_refl _, rfl, OwnQ.nil _ _, rfl, Mod.refl _ _⟩
  case round =>
    obtain ⟨k, l, hk, hlk, rfl, hO, hR, hM⟩ := hrel
    have HO := Lib.hid hO
    have HR := Lib.hid hR
    have MR := Lib.hid hM
    have hs0 := hM.size
    have hdl : (bs.drop k).length = bs.length - k := List.length_drop
    clear hO hR hM
    by_cases hkc : cp = k
    · -- nothing is left
      subst hkc
      obtain rfl : cp = bs.length := by omega
      have hr := HR.out
      rw [List.drop_length] at hr
      have HR1 := Lib.hid hr
      have hp0 : parse [] rules = (⟨0, 0, 0, [], 0⟩, 0, 0) := rfl
      clear hr
      go_wp2_with fail
      refine (refParse_at (bs := []) (Sl.nil _ _ _) (by simp) _ hp0).mono ?_
      rintro e2 w2 ⟨rfl, hM2⟩
      have O2 := Lib.hid ((HO.out.mod hM2 (by simp)).mod ((Mod.refl [] w2).alloc (.cells (Req.cells Req.none).toArray 32)) (by simp))
      have M2 := Lib.hid ((MR.out.trans hM2).alloc (.cells (Req.cells Req.none).toArray 32))
      clear hM2
      go_wp2_with fail
      refine bodyPost_ret (v := .tuple #[u7, .int .i64 bs.length, .int .i64 0]) (by simp [results, Try.results19, go_sem]) rfl ⟨u7, ?_, ?_, M2.out⟩
      · rw [HR1.out]; simp [ahead, runA]
      · rw [HR1.out]; simp only [ahead, runA, List.append_nil]; exact O2.out
    · have hkc' : (k : Int) ≤ cp := by omega
      have hkl : (k : Int) ≤ bs.length := by omega
      have hsl : ∀ w', Mod [] w w' → Sl w' (.slice (some ⟨b, off + k, none⟩) (bs.length - k) (cp - k)) (vb (bs.drop k)) := fun w' hM => by
        have := Sl.part (w := w') (b := b) (off := off) (c := cp - k) (i := k) (m := bs.length - k) (bs := bs) (hM.lt hb) (fun i u h => (hM.cell hb (by simp)).trans (HC.out i u h)) (by omega) (by omega) (by omega)
        rwa [List.take_of_length_le (by rw [hdl]; exact Nat.le_refl _)] at this
      have hsj : ∀ j, j ≤ bs.length - k → ∀ w', Mod [] w w' → Sl w' (.slice (some ⟨b, off + k, none⟩) j (cp - k)) (vb ((bs.drop k).take j)) := fun j hj w' hM =>
        Sl.part (w := w') (b := b) (off := off) (c := cp - k) (i := k) (m := j) (bs := bs) (hM.lt hb) (fun i u h => (hM.cell hb (by simp)).trans (HC.out i u h)) (by omega) (by omega) (by omega)
      have HSL := Lib.hid hsl
      have HSJ := Lib.hid hsj
      clear hsl hsj
      rcases parse_three (bs.drop k) rules with ⟨hp, hP⟩ | ⟨ho, hP⟩ | ⟨hp, h4, h5, hP⟩
      · obtain ⟨kk, hkk, hA, hopen, hpf⟩ := runA_bad hp k
        have hr := HR.out
        rw [hA] at hr
        have HR1 := Lib.hid hr
        have hPj : ∀ j, j ≤ kk → parse ((bs.drop k).take j) rules = (⟨0, 0, 0, [], 0⟩, 0, 0) := fun j hj => parse_open (hopen j hj)
        have hPk : parse ((bs.drop k).take (kk + 1)) rules = (⟨0, 0, 0, [], 0⟩, 0, pfx (bs.drop k) rules) := by rw [parse_fault (by rw [hpf]; exact hp), hpf]; rfl
        have hP' : parse (bs.drop k) rules = (⟨0, 0, 0, [], 0⟩, 0, pfx (bs.drop k) rules) := hP
        have HPJ := Lib.hid hPj
        have HPK := Lib.hid hPk
        have HP := Lib.hid hP'
        rw [hdl] at hkk
        clear hr hA hopen hpf hPj hPk hP hP'
        generalize hpe : pfx (bs.drop k) rules = e at *
        have de : ((e : Int) != 0) = true := by simp; omega
        clear hpe
        go_wp2_with fail
        refine (refParse_at (HSL.out _ MR.out) (by rw [hdl]; omega) _ HP.out).mono ?_
        rintro e2 w2 ⟨rfl, hM2⟩
        have O2 := Lib.hid ((HO.out.mod hM2 (by simp)).mod ((Mod.refl [] w2).alloc (.cells (Req.cells Req.none).toArray 32)) (by simp))
        have M2 := Lib.hid ((MR.out.trans hM2).alloc (.cells (Req.cells Req.none).toArray 32))
        clear hM2
        go_wp2_with fail
        go_loopw [12] (fun y wr => ∃ (j : Nat), 1 ≤ j ∧ j ≤ kk + 1 ∧ y = .int .i64 ((k + j : Nat) : Int) ∧ OwnQ wr w.heap.size u7 l ∧ Mod [] w wr) (fun y _ => bs.length + 1 - (intOf y).toNat)
        case atStart => exact ⟨1, Nat.le_refl _, by omega, by go_num, O2.out, M2.out⟩
        case round =>
          obtain ⟨j, hj1, hj2, rfl, hO', hM'⟩ := hrel
          have HO' := Lib.hid hO'
          have MR' := Lib.hid hM'
          have hs1 := hM'.size
          clear hO' hM'
          have ej : k + j - k = j := by omega
          have hjc : ((k : Int) + j) ≤ cp := by omega
          by_cases hlast : j ≤ kk
          · have dl : (((k : Int) + j) == (bs.length : Int)) = false := by simp; omega
            go_wp2_with fail
            refine (refParse_at (HSJ.out j (by omega) _ MR'.out) (by rw [List.length_take]; omega) _ (HPJ.out j hlast)).mono ?_
            rintro e4 w4 ⟨rfl, hM4⟩
            have O4 := Lib.hid ((HO'.out.mod hM4 (by simp)).mod ((Mod.refl [] w4).alloc (.cells (Req.cells Req.none).toArray 32)) (by simp))
            have M4 := Lib.hid ((MR'.out.trans hM4).alloc (.cells (Req.cells Req.none).toArray 32))
            clear hM4
            go_wp2_with fail
            go_roundw
            case rel => exact ⟨j + 1, by omega, by omega, by first | go_num | (congr 1; omega), O4.out, M4.out⟩
            case measure => simp [intOf]; omega
          · obtain rfl : j = kk + 1 := by omega
            go_wp2_with fail
            refine (refParse_at (HSJ.out (kk + 1) (by omega) _ MR'.out) (by rw [List.length_take]; omega) _ HPK.out).mono ?_
            rintro e4 w4 ⟨rfl, hM4⟩
            have O4 := Lib.hid ((HO'.out.mod hM4 (by simp)).mod ((Mod.refl [] w4).alloc (.cells (Req.cells Req.none).toArray 32)) (by simp))
            have M4 := Lib.hid ((MR'.out.trans hM4).alloc (.cells (Req.cells Req.none).toArray 32))
            clear hM4
            go_wp2_with fail
            refine bodyPost_ret (v := .tuple #[u7, .int .i64 (k + (kk + 1) : Nat), .int .i64 e]) (by simp [results, Try.results19, go_sem]) rfl ⟨u7, ?_, ?_, M4.out⟩
            · rw [HR1.out]; rfl
            · rw [HR1.out]; simp only [ahead, List.append_nil]; exact O4.out
      · have hr := HR.out
        rw [runA_part ho, hdl] at hr
        have HR1 := Lib.hid hr
        have hP' : parse (bs.drop k) rules = (⟨0, 0, 0, [], 0⟩, 0, 0) := hP
        have HP := Lib.hid hP'
        clear hr hP hP' ho
        go_wp2_with fail
        refine (refParse_at (HSL.out _ MR.out) (by rw [hdl]; omega) _ HP.out).mono ?_
        rintro e2 w2 ⟨rfl, hM2⟩
        have O2 := Lib.hid ((HO.out.mod hM2 (by simp)).mod ((Mod.refl [] w2).alloc (.cells (Req.cells Req.none).toArray 32)) (by simp))
        have M2 := Lib.hid ((MR.out.trans hM2).alloc (.cells (Req.cells Req.none).toArray 32))
        clear hM2
        go_wp2_with fail
        refine bodyPost_ret (v := .tuple #[u7, .int .i64 bs.length, .int .i64 0]) (by simp [results, Try.results19, go_sem]) rfl ⟨u7, ?_, ?_, M2.out⟩
        · rw [HR1.out]; simp only [ahead, List.append_nil]; rw [show k + (bs.length - k) = bs.length by omega]; rfl
        · rw [HR1.out]; simp only [ahead, List.append_nil]; exact O2.out
      · have hr := HR.out
        rw [runA_whole hp h4] at hr
        have HR1 := Lib.hid hr
        clear hr
        generalize hq : reqOf (bs.drop k) = q at *
        generalize hn : 4 + nb (bs.drop k) 3 = n at *
        have HP := Lib.hid hP
        have hn0 : 0 < n := by omega
        have hnk : k + n ≤ bs.length := by rw [hdl] at h4; omega
        have dn : ((n : Int) == 0) = false := by simp; omega
        clear hP hp h4 h5 hq hn
        obtain ⟨op, rule, cost, key, k0⟩ := q
        go_wp2_with fail
        refine (refParse_at (HSL.out _ MR.out) (by rw [hdl]; omega) _ HP.out).mono ?_
        rintro e2 w2 ⟨rfl, hM2⟩
        have O2 := Lib.hid ((HO.out.mod hM2 (by simp)).mod (((Mod.refl [] w2).alloc (.cells (Req.cells ⟨op, rule, cost, key, k0⟩).toArray 32)).alloc (.cells (Req.cells ⟨op, rule, cost, key, k0⟩).toArray 32)) (by simp))
        have M2 := Lib.hid (((MR.out.trans hM2).alloc (.cells (Req.cells ⟨op, rule, cost, key, k0⟩).toArray 32)).alloc (.cells (Req.cells ⟨op, rule, cost, key, k0⟩).toArray 32))
        have hs2 := (MR.out.trans hM2).size
        have B2 := Lib.hid (Box.new (w2.alloc (.cells (Req.cells ⟨op, rule, cost, key, k0⟩).toArray 32)) ⟨op, rule, cost, key, k0⟩ (n := w2.heap.size + 1) (by simp))
        clear hM2
        go_wp2_with (at_builtin; go_must (refine app_req ⟨op, rule, cost, key, k0⟩ _ O2.out rfl _ _ rfl rfl rfl B2.out (by simp; omega) (by omega) ?_; intro v5 w5 ho5 hM5))
        have hb5 := own_block O2.out
        have M5 := Lib.hid (M2.out.trans' hM5 (fun x hx => by have := hb5 x (by simpa using hx); omega))
        have O5 := Lib.hid ho5
        clear hM5 ho5 hb5
        go_wp2_with fail
        go_roundw
        case rel => exact ⟨k + n, _, hnk, by rw [List.length_append, List.length_singleton]; omega, by go_num, O5.out, by rw [HR1.out, List.drop_drop]; simp [ahead], M5.out⟩
        case measure => simp [intOf]; omega
end Go.Proofs.Ytfmojpkggkjceaa.Frame
