/- decode's laws: DecodeCuts: two parts of a stream, one behind the other, tell what the whole tells. No condition. -/
import Derived.Test.YtfmojpkggkjceaaStream
namespace Go.Proofs.Ytfmojpkggkjceaa.Frame
open Go Go.RowKit Go.YtfmojpkggkjceaaMem Go.YtfmojpkggkjceaaLex
set_option linter.unusedVariables false
set_option linter.unusedSimpArgs false

theorem runA_split {rules : Int} (y : List UInt8) : ∀ (x pend : List UInt8) (i : Nat),
    ((runA rules x pend i).2.2 ≠ 0 ∧ runA rules (x ++ y) pend i = runA rules x pend i) ∨
    ((runA rules x pend i).2 = (i + x.length, 0) ∧ ∃ p', runA rules (x ++ y) pend i = ahead (runA rules x pend i).1 (runA rules y p' (i + x.length)))
  | [], pend, i => .inr ⟨rfl, pend, rfl⟩
  | c :: x, pend, i => by
    rw [List.cons_append, runA_cons, runA_cons]
    by_cases he : (tried pend rules 0 c).2.2 ≠ 0
    · rw [if_pos he, if_pos he]; exact .inl ⟨he, rfl⟩
    · rw [if_neg he, if_neg he]
      by_cases ho : (tried pend rules 0 c).2.1 = true
      · rw [if_pos ho, if_pos ho]
        rcases runA_split y x [] (i + 1) with ⟨h1, h2⟩ | ⟨h1, p', h2⟩
        · exact .inl ⟨h1, by rw [h2]⟩
        · refine .inr ⟨by show (runA rules x [] (i + 1)).2 = _; rw [h1, List.length_cons, show i + 1 + x.length = i + (x.length + 1) by omega], p', ?_⟩
          rw [h2, List.length_cons, show i + 1 + x.length = i + (x.length + 1) by omega]; rfl
      · rw [if_neg ho, if_neg ho]
        rcases runA_split y x (pend ++ [c]) (i + 1) with ⟨h1, h2⟩ | ⟨h1, p', h2⟩
        · exact .inl ⟨h1, h2⟩
        · refine .inr ⟨by rw [h1, List.length_cons, show i + 1 + x.length = i + (x.length + 1) by omega], p', ?_⟩
          rw [h2, List.length_cons, show i + 1 + x.length = i + (x.length + 1) by omega]
/-- What a beginning of a stream tells. -/
theorem runA_cut {rules : Int} (bs : List UInt8) (m : Nat) (hm : m ≤ bs.length) :
    ∃ l l' n e k f, runA rules bs [] 0 = (l ++ l', n, e) ∧ runA rules (bs.take m) [] 0 = (l, k, f) ∧ (f ≠ 0 → e = f ∧ k = n) ∧ (f = 0 → k = m) := by
  have hlen : (bs.take m).length = m := by rw [List.length_take]; omega
  rcases runA_split (rules := rules) (bs.drop m) (bs.take m) [] 0 with ⟨h1, h2⟩ | ⟨h1, p', h2⟩
  · rw [List.take_append_drop] at h2
    exact ⟨_, [], _, _, _, _, by rw [h2, List.append_nil], rfl, fun _ => ⟨rfl, rfl⟩, fun h => absurd h h1⟩
  · rw [List.take_append_drop] at h2
    refine ⟨(runA rules (bs.take m) [] 0).1, (runA rules (bs.drop m) p' (0 + (bs.take m).length)).1, (runA rules (bs.drop m) p' (0 + (bs.take m).length)).2.1, (runA rules (bs.drop m) p' (0 + (bs.take m).length)).2.2, m, 0, h2, ?_, fun h => absurd rfl h, fun _ => rfl⟩
    rw [hlen, Nat.zero_add] at h1
    exact Prod.ext rfl h1
theorem all_at {w : World} {v : Value} {bs : List UInt8} (hv : Sl w v (vb bs)) (hl : bs.length ≤ 100000) (rules : Int) {l : List Req} {n e : Nat} (h : runA rules bs [] 0 = (l, n, e)) :
    Calls Try.prog 18 #[v, .int .i64 rules] w fun x w' => ∃ v', x = .returned (.tuple #[v', .int .i64 n, .int .i64 e]) ∧ OwnQ w' w.heap.size v' l ∧ Mod [] w w' := by
  have := all_any hv hl rules
  unfold AllPost at this
  rw [h] at this
  exact this

set_option maxRecDepth 4000 in
set_option maxHeartbeats 1600000 in
theorem cuts_main (w : World) (b off cp : Nat) (bs : List UInt8) (h1 : bs.length ≤ cp) (h2 : cp ≤ maxLen) (hb : b < w.heap.size) (hc : ∀ i u, (vb bs)[i]? = some u → w.cell? ⟨b, off + i, none⟩ = some u) (hne : 0 < bs.length) (hl : bs.length ≤ 600) (cut : Int) :
    Calls Try.prog 8 #[.slice (some ⟨b, off, none⟩) bs.length cp, .int .i64 cut] w fun e w' => e = .returned (.bool true) ∧ Mod [] w w' := by
  obtain ⟨y, hy, hy1, hy2⟩ : ∃ y : Int, cut.tmod ((bs.length : Int) + 1) = y ∧ -((bs.length : Int) + 1) < y ∧ y < (bs.length : Int) + 1 :=
    ⟨_, rfl, Int.lt_tmod_of_pos cut (by omega), Int.tmod_lt_of_pos cut (by omega)⟩
  obtain ⟨m, hm, hml⟩ : ∃ m : Nat, (y + bs.length + 1) % ((bs.length : Int) + 1) = (m : Int) ∧ m ≤ bs.length := by
    have h1 := Int.emod_lt_of_pos (y + bs.length + 1) (show (0 : Int) < (bs.length : Int) + 1 by omega)
    have h2 := Int.emod_nonneg (y + bs.length + 1) (show ((bs.length : Int) + 1) ≠ 0 by omega)
    exact ⟨((y + bs.length + 1) % ((bs.length : Int) + 1)).toNat, by omega, by omega⟩
  have hm' : (y + bs.length + 1).tmod ((bs.length : Int) + 1) = (m : Int) := by rw [Int.tmod_eq_emod_of_nonneg (by omega)]; exact hm
  obtain ⟨l, l', n, e, k, f, hR, hP, hf1, hf2⟩ := runA_cut (rules := 4) bs m hml
  have d600 : decide ((600 : Int) < bs.length) = false := by simp; omega
  have hv : Sl w (.slice (some ⟨b, off, none⟩) bs.length cp) (vb bs) := .inr ⟨b, off, cp, by rw [vb_length], by rw [vb_length]; exact h1, h2, hb, hc⟩
  have hpt : ∀ w', Mod [] w w' → Sl w' (.slice (some ⟨b, off, none⟩) m cp) (vb (bs.take m)) := fun w' hM => by
    have := Sl.part (w := w') (b := b) (off := off) (c := cp) (i := 0) (m := m) (bs := bs) (hM.lt hb) (fun i u h => (hM.cell hb (by simp)).trans (hc i u h)) (by omega) (by omega) h2
    rwa [Nat.add_zero, List.drop_zero] at this
  have hcap : ¬ cp = 0 := by omega
  have hmc : m ≤ cp := by omega
  have HV := Lib.hid hv
  have HPT := Lib.hid hpt
  have HR := Lib.hid hR
  have HP := Lib.hid hP
  have HF1 := Lib.hid hf1
  have HF2 := Lib.hid hf2
  clear hv hpt hR hP hf1 hf2 hm hc
  go_enter Try.func8, Try.ntmps8
  go_wp2_with fail
  refine (fit_any _).mono ?_
  rintro e1 w1 ⟨rfl, hM1⟩
  have M1 := Lib.hid hM1
  clear hM1
  go_wp2_with fail
  refine (all_at (HV.out.mod M1.out (by simp)) (by omega) 4 HR.out).mono ?_
  rintro e2 w2 ⟨v2, rfl, ho2, hM2⟩
  obtain ⟨a2, c2, rfl⟩ := ho2.slice
  have O2 := Lib.hid ho2
  have M2 := Lib.hid (M1.out.trans hM2)
  clear ho2 hM2
  go_wp2_with fail
  refine (all_at (HPT.out _ M2.out) (by rw [List.length_take]; omega) 4 HP.out).mono ?_
  rintro e3 w3 ⟨v3, rfl, ho3, hM3⟩
  obtain ⟨a3, c3, rfl⟩ := ho3.slice
  have O2' := Lib.hid (O2.out.mod hM3 (by simp))
  have O3 := Lib.hid ho3
  have M3 := Lib.hid (M2.out.trans hM3)
  clear ho3 hM3
  by_cases hf : f = 0
  · subst hf
    obtain rfl := HF2.out rfl
    go_wp2_with fail
    go_loopw [74] (fun i wr => ∃ (j : Nat), j ≤ l.length ∧ i = .int .i64 j ∧ Mod [] w3 wr) (fun i _ => l.length - (intOf i).toNat)
    case atStart => exact ⟨0, Nat.zero_le _, rfl, Mod.refl _ _⟩
    case round =>
      obtain ⟨j, hj, rfl, hM⟩ := hrel
      have MR := Lib.hid hM
      clear hM
      by_cases hlt : j < l.length
      · obtain ⟨g3, cq3, he3, hB3, hg3, hc31, hc32, hx3⟩ := O3.out.at (fun h => by rw [h] at hlt; simp at hlt)
        obtain ⟨g2, cq2, he2, hB2, hg2, hc21, hc22, hx2⟩ := O2'.out.at (fun h => by rw [List.append_eq_nil_iff] at h; rw [h.1] at hlt; simp at hlt)
        injection he3 with he3a he3b he3c
        injection he2 with he2a he2b he2c
        subst he3a he3c he2a he2c
        have hmx : l.length ≤ 9223372036854775807 := by have h := Nat.le_trans hc31 hc32; unfold maxLen at h; omega
        obtain ⟨q, hq⟩ : ∃ q, l[j]? = some q := ⟨_, List.getElem?_eq_getElem hlt⟩
        have hq2 : (l ++ l')[j]? = some q := by rw [List.getElem?_append_left hlt]; exact hq
        have hlt2 : j < l.length + l'.length := by omega
        have hx3' := fun i u h => (MR.out.cell hg3 (by simp)).trans (hx3 j q hq i u h)
        have hx2' := fun i u h => (MR.out.cell hg2 (by simp)).trans (hx2 j q hq2 i u h)
        have p0 := hx3' 0 _ rfl
        have p1 := hx3' 1 _ rfl
        have p2 := hx3' 2 _ rfl
        have p3 := hx3' 3 _ rfl
        have p4 := hx3' 4 _ rfl
        have q0 := hx2' 0 _ rfl
        have q1 := hx2' 1 _ rfl
        have q2 := hx2' 2 _ rfl
        have q3 := hx2' 3 _ rfl
        have q4 := hx2' 4 _ rfl
        clear hx3 hx2 hx3' hx2' hq hq2 he2b he3b
        obtain ⟨op, rule, cost, key, k0⟩ := q
        simp only [Nat.add_zero] at p0 p1 p2 p3 p4 q0 q1 q2 q3 q4
        go_wp2_with fail
        refine wp_region_lex (by kernel_rfl) (by kernel_rfl) ?_
        go_wp2_with fail
        refine ⟨by kernel_rfl, ?_⟩
        go_wp2_with fail
        go_roundw
        case rel => exact ⟨j + 1, by omega, by go_num, MR.out.drew⟩
        case measure => simp [intOf]; omega
      · obtain rfl : j = l.length := by omega
        go_wp2_with fail
        go_ret
        exact ⟨rfl, M3.out.trans MR.out⟩
  · obtain ⟨rfl, rfl⟩ := HF1.out hf
    have de : ((e : Int) != 0) = true := by simp; omega
    have de' : ((e : Int) == 0) = false := by simp; omega
    go_wp2_with fail
    go_loopw [74] (fun i wr => ∃ (j : Nat), j ≤ l.length ∧ i = .int .i64 j ∧ Mod [] w3 wr) (fun i _ => l.length - (intOf i).toNat)
    case atStart => exact ⟨0, Nat.zero_le _, rfl, Mod.refl _ _⟩
    case round =>
      obtain ⟨j, hj, rfl, hM⟩ := hrel
      have MR := Lib.hid hM
      clear hM
      by_cases hlt : j < l.length
      · obtain ⟨g3, cq3, he3, hB3, hg3, hc31, hc32, hx3⟩ := O3.out.at (fun h => by rw [h] at hlt; simp at hlt)
        obtain ⟨g2, cq2, he2, hB2, hg2, hc21, hc22, hx2⟩ := O2'.out.at (fun h => by rw [List.append_eq_nil_iff] at h; rw [h.1] at hlt; simp at hlt)
        injection he3 with he3a he3b he3c
        injection he2 with he2a he2b he2c
        subst he3a he3c he2a he2c
        have hmx : l.length ≤ 9223372036854775807 := by have h := Nat.le_trans hc31 hc32; unfold maxLen at h; omega
        obtain ⟨q, hq⟩ : ∃ q, l[j]? = some q := ⟨_, List.getElem?_eq_getElem hlt⟩
        have hq2 : (l ++ l')[j]? = some q := by rw [List.getElem?_append_left hlt]; exact hq
        have hlt2 : j < l.length + l'.length := by omega
        have hx3' := fun i u h => (MR.out.cell hg3 (by simp)).trans (hx3 j q hq i u h)
        have hx2' := fun i u h => (MR.out.cell hg2 (by simp)).trans (hx2 j q hq2 i u h)
        have p0 := hx3' 0 _ rfl
        have p1 := hx3' 1 _ rfl
        have p2 := hx3' 2 _ rfl
        have p3 := hx3' 3 _ rfl
        have p4 := hx3' 4 _ rfl
        have q0 := hx2' 0 _ rfl
        have q1 := hx2' 1 _ rfl
        have q2 := hx2' 2 _ rfl
        have q3 := hx2' 3 _ rfl
        have q4 := hx2' 4 _ rfl
        clear hx3 hx2 hx3' hx2' hq hq2 he2b he3b
        obtain ⟨op, rule, cost, key, k0⟩ := q
        simp only [Nat.add_zero] at p0 p1 p2 p3 p4 q0 q1 q2 q3 q4
        go_wp2_with fail
        refine wp_region_lex (by kernel_rfl) (by kernel_rfl) ?_
        go_wp2_with fail
        refine ⟨by kernel_rfl, ?_⟩
        go_wp2_with fail
        go_roundw
        case rel => exact ⟨j + 1, by omega, by go_num, MR.out.drew⟩
        case measure => simp [intOf]; omega
      · obtain rfl : j = l.length := by omega
        go_wp2_with fail
        go_ret
        exact ⟨rfl, M3.out.trans MR.out⟩

set_option maxRecDepth 4000 in
theorem cuts_walk (w : World) (v : Value) (bs : List UInt8) (hv : Sl w v (vb bs)) (cut : Int) (hw : (Lit.int .i64 cut).wf = true) :
    Calls Try.prog 8 #[v, .int .i64 cut] w fun e w' => e = .returned (.bool true) ∧ Mod [] w w' := by
  by_cases hnil : bs = []
  · subst hnil
    obtain ⟨a, cp, rfl⟩ : ∃ a cp, v = .slice a 0 cp := by
      rcases hv with ⟨hn, av, capv, rfl⟩ | ⟨b, off, cap, rfl, _⟩
      · exact ⟨_, _, rfl⟩
      · exact ⟨_, _, rfl⟩
    have h1 : cut.tmod 1 = 0 := Int.tmod_one cut
    clear hv
    by_cases hcap : cp = 0
    · subst hcap
      go_enter Try.func8, Try.ntmps8
      go_wp2_with fail
      refine (fit_any _).mono ?_
      rintro e1 w1 ⟨rfl, hM1⟩
      have M1 := Lib.hid hM1
      clear hM1
      go_wp2_with fail
      refine (all_at (bs := []) (Sl.nil _ _ _) (by simp) 4 rfl).mono ?_
      rintro e2 w2 ⟨v2, rfl, ho2, hM2⟩
      obtain ⟨a2, c2, hv2⟩ := ho2.slice
      rw [List.length_nil] at hv2
      subst hv2
      have M2 := Lib.hid (M1.out.trans hM2)
      clear ho2 hM2
      go_wp2_with fail
      refine (all_at (bs := []) (Sl.nil _ _ _) (by simp) 4 rfl).mono ?_
      rintro e3 w3 ⟨v3, rfl, ho3, hM3⟩
      obtain ⟨a3, c3, hv3⟩ := ho3.slice
      rw [List.length_nil] at hv3
      subst hv3
      have M3 := Lib.hid (M2.out.trans hM3)
      clear ho3 hM3
      go_wp2_with fail
      refine wp_loop_once ?_
      go_wp2_with fail
      go_ret
      exact ⟨rfl, M3.out⟩
    · cases a
      · go_enter Try.func8, Try.ntmps8
        go_wp2_with fail
        refine (fit_any _).mono ?_
        rintro e1 w1 ⟨rfl, hM1⟩
        have M1 := Lib.hid hM1
        clear hM1
        go_wp2_with fail
        refine (all_at (bs := []) (Sl.nil _ _ _) (by simp) 4 rfl).mono ?_
        rintro e2 w2 ⟨v2, rfl, ho2, hM2⟩
        obtain ⟨a2, c2, hv2⟩ := ho2.slice
        rw [List.length_nil] at hv2
        subst hv2
        have M2 := Lib.hid (M1.out.trans hM2)
        clear ho2 hM2
        go_wp2_with fail
        refine (all_at (bs := []) (Sl.nil _ _ _) (by simp) 4 rfl).mono ?_
        rintro e3 w3 ⟨v3, rfl, ho3, hM3⟩
        obtain ⟨a3, c3, hv3⟩ := ho3.slice
        rw [List.length_nil] at hv3
        subst hv3
        have M3 := Lib.hid (M2.out.trans hM3)
        clear ho3 hM3
        go_wp2_with fail
        refine wp_loop_once ?_
        go_wp2_with fail
        go_ret
        exact ⟨rfl, M3.out⟩
      · go_enter Try.func8, Try.ntmps8
        go_wp2_with fail
        refine (fit_any _).mono ?_
        rintro e1 w1 ⟨rfl, hM1⟩
        have M1 := Lib.hid hM1
        clear hM1
        go_wp2_with fail
        refine (all_at (bs := []) (Sl.nil _ _ _) (by simp) 4 rfl).mono ?_
        rintro e2 w2 ⟨v2, rfl, ho2, hM2⟩
        obtain ⟨a2, c2, hv2⟩ := ho2.slice
        rw [List.length_nil] at hv2
        subst hv2
        have M2 := Lib.hid (M1.out.trans hM2)
        clear ho2 hM2
        go_wp2_with fail
        refine (all_at (bs := []) (Sl.nil _ _ _) (by simp) 4 rfl).mono ?_
        rintro e3 w3 ⟨v3, rfl, ho3, hM3⟩
        obtain ⟨a3, c3, hv3⟩ := ho3.slice
        rw [List.length_nil] at hv3
        subst hv3
        have M3 := Lib.hid (M2.out.trans hM3)
        clear ho3 hM3
        go_wp2_with fail
        refine wp_loop_once ?_
        go_wp2_with fail
        go_ret
        exact ⟨rfl, M3.out⟩
  · rcases hv with ⟨hn, av, capv, rfl⟩ | ⟨b, off, cap, rfl, hc1, hc2, hc3, hcell⟩
    · exact absurd (by cases bs; rfl; simp [vb] at hn) hnil
    · rw [vb_length] at *
      have h0 : 0 < bs.length := by cases bs; exact absurd rfl hnil; simp
      by_cases hl : bs.length ≤ 600
      · exact cuts_main w b off cap bs hc1 hc2 hc3 hcell h0 hl cut
      · have d600 : decide ((600 : Int) < bs.length) = true := by simp; omega
        have hm : bs.length ≤ maxLen := by omega
        clear hcell hnil
        go_enter Try.func8, Try.ntmps8
        go_wp2_with fail
        refine (fit_any _).mono ?_
        rintro e1 w1 ⟨rfl, hM1⟩
        have M1 := Lib.hid hM1
        clear hM1
        go_wp2_with fail
        go_ret
        exact ⟨rfl, M1.out⟩
end Go.Proofs.Ytfmojpkggkjceaa.Frame
