/- conn's laws: ConnSums: as many bytes go out as were answered, whatever is drained when. No condition. -/
import Derived.Test.YtnhnmpgjbopihaaConnLaw1
namespace Go.Proofs.Ytnhnmpgjbopihaa.Conn
open Go Go.RowKit Go.YtnhnmpgjbopihaaMem Go.YtnhnmpgjbopihaaLex Go.Proofs.Ytnhnmpgjbopihaa.Frame Go.Proofs.Ytnhnmpgjbopihaa.Out
set_option linter.unusedVariables false
set_option linter.unusedSimpArgs false

/-- How many bytes were answered. -/
def total (l : List Req) : Nat := (l.map fun q => q.cost % 30).sum
theorem total_snoc (l : List Req) (q : Req) : total (l ++ [q]) = total l + q.cost % 30 := by simp [total]
def errB (e : Nat) : Nat := if e = 0 then 0 else 6
/-- What went out (o bytes) and what waits is what was answered. -/
theorem sums_run {rules : Int} {N : Nat} (bs : List UInt8) (s : CS) (o : Nat) (h : o + s.out.length = total s.reqs + errB s.err) :
    o + (crun rules N s bs).2.out.length = total (crun rules N s bs).2.reqs + errB (crun rules N s bs).2.err :=
  crun_ind (rules := rules) (N := N) (fun _ t => o + t.out.length = total t.reqs + errB t.err) (fun k t c t' h hs => by
    obtain ⟨he, hc⟩ := cstep_cases hs
    rw [he] at h
    rcases hc with ⟨e, hn, _, _, rfl⟩ | ⟨q, _, _, rfl⟩ | ⟨_, _, rfl⟩
    · show o + (t.out ++ faultB e).length = total t.reqs + errB e
      rw [List.length_append, faultB_length]
      unfold errB at h ⊢
      rw [if_pos rfl] at h
      rw [if_neg hn]; omega
    · show o + (t.out ++ ansOf q).length = total (t.reqs ++ [q]) + errB 0
      rw [List.length_append, ansOf_length, total_snoc]; omega
    · exact h) bs 0 s h
theorem total_le (l : List Req) : total l ≤ 29 * l.length := by
  induction l with
  | nil => simp [total]
  | cons q l ih =>
    have h1 : total (q :: l) = q.cost % 30 + total l := by simp [total]
    have h2 := Nat.mod_lt q.cost (show 0 < 30 by decide)
    rw [h1, List.length_cons]; omega

theorem InB.cap {w : World} {K : Nat} {a : Option Addr} {n c : Nat} {bs : List UInt8} (h : InB w K (.slice a n c) bs) : n = bs.length ∧ (bs.length ≤ c ∨ bs.length = 0) ∧ (c ≤ 9223372036854775807 ∨ bs.length = 0) := by
  rcases h with ⟨rfl, a', c', he⟩ | ⟨b, off, cap, he, h1, h2, h3, h4⟩
  · injection he with _ e2 _; exact ⟨e2, .inr rfl, .inr rfl⟩
  · injection he with _ e2 e3; subst e3; exact ⟨e2, .inl h2, .inl (by unfold maxLen at h3; omega)⟩
theorem InB.part {w : World} {K : Nat} {a : Option Addr} {n c at_ M : Nat} {bs : List UInt8} (h : InB w K (.slice a n c) bs) (h1 : at_ ≤ M) (h2 : M ≤ bs.length) : InB w K (.slice (Option.map (fun x => x.add at_) a) (M - at_) (c - at_)) ((bs.drop at_).take (M - at_)) := by
  rcases h with ⟨rfl, a', c', he⟩ | ⟨b, off, cap, he, k1, k2, k3, k4⟩
  · left
    simp only [List.length_nil] at h2
    exact ⟨by simp, _, _, by rw [show M - at_ = 0 by omega]⟩
  · injection he with e1 e2 e3
    subst e1; subst e3
    have hlen : ((bs.drop at_).take (M - at_)).length = M - at_ := by simp; omega
    refine .inr ⟨b, off + at_, c - at_, ?_, k1, by rw [hlen]; omega, by omega, fun i u hu => ?_⟩
    · rw [hlen]; simp [add_eq]
    · have hi : i < M - at_ := by have := (List.getElem?_eq_some_iff.1 hu).1; rw [vb_length, hlen] at this; exact this
      rw [Nat.add_assoc]
      refine k4 (at_ + i) u ?_
      rw [← hu]; unfold vb; simp [List.getElem?_take, hi]
theorem InB.part0 {w : World} {K : Nat} {a : Option Addr} {at_ M : Nat} {bs : List UInt8} (h1 : at_ = M) (c : Nat) : InB w K (.slice a (M - at_) c) ((bs.drop at_).take (M - at_)) := by
  left
  exact ⟨by rw [show M - at_ = 0 by omega]; simp, a, c, by rw [show M - at_ = 0 by omega]⟩
set_option maxRecDepth 8000 in
set_option maxHeartbeats 6400000 in
theorem sums_main (w : World) (v1 v2 : Value) (b : List UInt8) (zs : List Int) (h1 : Sl w v1 (vb b)) (h2 : Sl w v2 (zs.map (Value.int .i64))) (hl1 : b.length ≤ 800) (hl2 : zs.length ≤ 200) :
    Calls Try.prog 6 #[v1, v2] w (TruePost w) := by
  have I1 := Lib.hid (InB.of h1)
  obtain ⟨a1, c1, rfl⟩ := I1.out.slice
  obtain ⟨a2, c2, rfl, hm2, hA2⟩ := h2.open
  rw [List.length_map] at *
  have A2 := Lib.hid hA2
  have d1 : decide ((800 : Int) < b.length) = false := by simp; omega
  have d2 : decide ((200 : Int) < zs.length) = false := by simp; omega
  clear h1 h2 hm2 hA2
  go_enter Try.func6, Try.ntmps6
  go_wp2_with fail
  refine (fit_any w).mono ?_
  rintro e w1 ⟨rfl, hM1⟩
  have M1 := Lib.hid hM1
  have hz1 := hM1.size
  clear hM1
  go_wp2_with fail
  refine (new_con w1 4 64 (by decide) (by decide)).mono ?_
  rintro e w2 ⟨g, p, d, rfl, hC2, hg, hp, hd, hM2⟩
  replace hC2 : Con w2 g p d 64 4 0 [] 0 [] false := hC2
  have hlt2 := hC2.lt
  have C2 := Lib.hid (hC2.mod ((Mod.refl [] w2).alloc (.cells #[.slice none 0 0] 30)) (by simp) (by simp) (by simp))
  have H2 := Lib.hid (new_host w2)
  have M2 := Lib.hid ((M1.out.trans hM2).alloc (.cells #[.slice none 0 0] 30))
  have hz2 := hM2.size
  have hgB : g < w2.heap.size + 1 ∧ p < w2.heap.size + 1 ∧ d < w2.heap.size + 1 := by omega
  have hnh : g ≠ w2.heap.size ∧ p ≠ w2.heap.size ∧ d ≠ w2.heap.size := by omega
  have hKK : w.heap.size ≤ g ∧ w.heap.size ≤ p ∧ w.heap.size ≤ d ∧ w.heap.size ≤ w2.heap.size := by omega
  clear hC2 hM2
  go_wp2_with fail
  refine (open_yes C2.out).mono ?_
  rintro e w3 ⟨rfl, hC3, hM3⟩
  have C3 := Lib.hid hC3
  have H3 := Lib.hid (hst_mod H2.out hM3 (by simp; omega) (by simp; omega))
  have M3 := Lib.hid (M2.out.trans' hM3 (by simp; omega))
  clear hC3 hM3
  go_wp2_with fail
  go_loopw [7, 8, 31] (fun x y i wr => ∃ (j at_ o : Nat) (s : CS) (v : Value), j ≤ zs.length ∧ i = .int .i64 j ∧ x = .int .i64 at_ ∧ y = .int .i64 o ∧ at_ ≤ b.length ∧ s.reqs.length ≤ at_ ∧ o + s.out.length = total s.reqs + errB s.err ∧
      Con wr g p d 64 4 4 s.pend s.err s.out true ∧ Hst wr w2.heap.size (w2.heap.size + 1) v s.reqs ∧ Mod [] w wr) (fun _ _ i _ => zs.length - (intOf i).toNat)
  case atStart => exact ⟨0, 0, 0, .start, _, Nat.zero_le _, rfl, rfl, rfl, Nat.zero_le _, Nat.le_refl _, rfl, C3.out, H3.out, M3.out⟩
  case round =>
    obtain ⟨j, at_, o, s, v, hj, rfl, rfl, rfl, hat, hrq, hsum, hC, hH, hM⟩ := hrel
    have CR := Lib.hid hC
    have HR := Lib.hid hH
    have MR := Lib.hid hM
    have HS := Lib.hid hsum
    have htl := total_le s.reqs
    have heb : errB s.err ≤ 6 := by unfold errB; split <;> omega
    have ho : o ≤ 30000 := by omega
    clear hC hH hM hsum htl heb
    by_cases hlt : j < zs.length
    · obtain ⟨z, hz⟩ : ∃ z, zs[j]? = some z := ⟨_, List.getElem?_eq_getElem hlt⟩
      obtain ⟨b2, off2, rfl, hb2, hx2⟩ := A2.out j hlt
      have cz : wr.cell? ⟨b2, off2 + j, none⟩ = some (.int .i64 z) := (MR.out.cell hb2 (by simp)).trans (hx2 j _ (by simp [hz]))
      have and1 : bits .and .i64 z 1 = z % 2 := and_mask z 1 (by decide)
      have and31 : bits .and .i64 (z / 2) 31 = (z / 2) % 32 := and_mask (z / 2) 5 (by decide)
      obtain ⟨m, hm⟩ : ∃ m : Nat, (z / 2) % 32 = m := ⟨((z / 2) % 32).toNat, by omega⟩
      rw [hm] at and31
      have hm32 : m < 32 := by omega
      clear hx2 hm hz
      by_cases hz2 : z % 2 = 0
      · rw [hz2] at and1
        clear hz2
        obtain ⟨M, hM⟩ : ∃ M, M = min (at_ + m) b.length := ⟨_, rfl⟩
        have hM1 : at_ ≤ M := by omega
        have hM2 : M ≤ b.length := by omega
        have hmn : ∀ w : World, (Builtin.min_ #[3, 3] 3 #[.int .i64 ((at_ : Int) + m), .int .i64 b.length]).run Try.prog w = .ok (.int .i64 M) w := fun w => by
          show Result.ok (Value.int .i64 (if (b.length : Int) < (at_ : Int) + m then (b.length : Int) else (at_ : Int) + m)) w = _
          congr 2; omega
        obtain ⟨-, hcb, hcm⟩ := I1.out.cap
        clear hM
        have hcb' : b.length ≤ c1 := by omega
        clear hcb hcm
        have IW := Lib.hid (I1.out.mod MR.out (Nat.le_refl _) (by simp))
        by_cases hcap : c1 = at_
        · subst hcap
          have HMA : Hid (c1 = M) := Lib.hid (by omega)
          go_wp2_with fail
          refine (accept_any (K := w.heap.size) (hb := w2.heap.size) (B := w2.heap.size + 1) (bs := (b.drop c1).take (M - c1)) s CR.out HR.out hgB hnh (by simp; omega) (by omega) (InB.part0 HMA.out _) hKK).mono ?_
          rintro e w4 ⟨v4, rfl, hC4, hH4, hM4, hat4⟩
          have hle := crun_le (rules := 4) (N := 64) ((b.drop c1).take (M - c1)) s
          have hrr := reqs_run (rules := 4) (N := 64) ((b.drop c1).take (M - c1)) s
          have hss := sums_run (rules := 4) (N := 64) ((b.drop c1).take (M - c1)) s o HS.out
          have hlen : ((b.drop c1).take (M - c1)).length = M - c1 := by simp; omega
          rw [hlen] at hle
          generalize crun 4 64 s ((b.drop c1).take (M - c1)) = r at *
          obtain ⟨n, s'⟩ := r
          have C4 := Lib.hid hC4
          have H4 := Lib.hid hH4
          have SS := Lib.hid hss
          have M4 := Lib.hid (MR.out.trans' hM4 (fun x hx => by
            right
            simp only [List.mem_cons] at hx
            rcases hx with rfl | rfl | rfl | rfl | hx
            · omega
            · omega
            · omega
            · omega
            · have := own_block HR.out.2.1 x (by simpa using hx); omega))
          clear hC4 hH4 hM4 hat4 hss hlen
          simp only at hle hrr
          go_wp2_with fail
          go_roundw
          case rel => exact ⟨j + 1, c1 + n, o, s', v4, by omega, by go_num, by simp, rfl, by omega, by omega, SS.out, C4.out, H4.out, M4.out⟩
          case measure => simp [intOf]; omega
        · go_wp2_with fail
          refine (accept_any (K := w.heap.size) (hb := w2.heap.size) (B := w2.heap.size + 1) (bs := (b.drop at_).take (M - at_)) s CR.out HR.out hgB hnh (by simp; omega) (by omega) (IW.out.part hM1 hM2) hKK).mono ?_
          rintro e w4 ⟨v4, rfl, hC4, hH4, hM4, hat4⟩
          have hle := crun_le (rules := 4) (N := 64) ((b.drop at_).take (M - at_)) s
          have hrr := reqs_run (rules := 4) (N := 64) ((b.drop at_).take (M - at_)) s
          have hss := sums_run (rules := 4) (N := 64) ((b.drop at_).take (M - at_)) s o HS.out
          have hlen : ((b.drop at_).take (M - at_)).length = M - at_ := by simp; omega
          rw [hlen] at hle
          generalize crun 4 64 s ((b.drop at_).take (M - at_)) = r at *
          obtain ⟨n, s'⟩ := r
          have C4 := Lib.hid hC4
          have H4 := Lib.hid hH4
          have SS := Lib.hid hss
          have M4 := Lib.hid (MR.out.trans' hM4 (fun x hx => by
            right
            simp only [List.mem_cons] at hx
            rcases hx with rfl | rfl | rfl | rfl | hx
            · omega
            · omega
            · omega
            · omega
            · have := own_block HR.out.2.1 x (by simpa using hx); omega))
          clear hC4 hH4 hM4 hat4 hss hlen
          simp only at hle hrr
          go_wp2_with fail
          go_roundw
          case rel => exact ⟨j + 1, at_ + n, o, s', v4, by omega, by go_num, by simp, rfl, by omega, by omega, SS.out, C4.out, H4.out, M4.out⟩
          case measure => simp [intOf]; omega
      · have hz3 : z % 2 = 1 := by omega
        rw [hz3] at and1
        clear hz2 hz3
        go_wp2_with fail
        refine (drain_yes CR.out m (min m s.out.length) (by omega)).mono ?_
        rintro e w5 ⟨v5, rfl, hO5, hC5, hM5⟩
        have htl : (s.out.take (min m s.out.length)).length = min m s.out.length := by rw [List.length_take]; omega
        obtain ⟨a5, k5, rfl⟩ := hO5.slice
        rw [htl]
        have hss : o + min m s.out.length + (s.out.drop (min m s.out.length)).length = total s.reqs + errB s.err := by have := HS.out; rw [List.length_drop]; omega
        have SS := Lib.hid hss
        have C5 := Lib.hid hC5
        have H5 := Lib.hid (hst_mod HR.out hM5 (by simp; omega) (by simp; omega))
        have M5 := Lib.hid (MR.out.trans' hM5 (by simp; omega))
        clear hO5 hC5 hM5 hss htl
        have hmmb : min m s.out.length < 32 := by omega
        generalize min m s.out.length = mm at *
        go_wp2_with fail
        go_roundw
        case rel => exact ⟨j + 1, at_, o + mm, ⟨s.pend, s.err, s.out.drop mm, s.reqs⟩, v, by omega, by go_num, rfl, by simp, hat, hrq, SS.out, C5.out, H5.out, M5.out⟩
        case measure => simp [intOf]; omega
    · obtain rfl : j = zs.length := by omega
      have hN := CR.out.buf.le.1
      obtain ⟨av, cv, rfl⟩ := HR.out.2.1.slice
      go_wp2_with fail
      refine (drain_yes CR.out 64 s.out.length (by omega)).mono ?_
      rintro e w5 ⟨v5, rfl, hO5, hC5, hM5⟩
      simp only [List.take_length, List.drop_length] at hO5 hC5
      obtain ⟨a5, k5, rfl⟩ := hO5.slice
      have C5 := Lib.hid hC5
      have H5 := Lib.hid (hst_mod HR.out hM5 (by simp; omega) (by simp; omega))
      have M5 := Lib.hid (MR.out.trans' hM5 (by simp; omega))
      have h50 := H5.out.1.cell (i := 0) rfl
      clear hO5 hC5 hM5
      go_wp2_with fail
      clear h50
      go_loopw [11, 74] (fun x i wr => ∃ (k : Nat), k ≤ s.reqs.length ∧ i = .int .i64 k ∧ x = .int .i64 (total (s.reqs.take k)) ∧ Mod [] w5 wr) (fun _ i _ => s.reqs.length - (intOf i).toNat)
      case atStart => exact ⟨0, Nat.zero_le _, rfl, rfl, Mod.refl [] w5⟩
      case round =>
        obtain ⟨k, hk, rfl, rfl, hM6⟩ := hrel
        have M6 := Lib.hid hM6
        have htl := total_le (s.reqs.take k)
        rw [List.length_take] at htl
        have htl' : total (s.reqs.take k) ≤ 30000 := by omega
        clear hM6 htl
        by_cases hkl : k < s.reqs.length
        · obtain ⟨q, hq⟩ : ∃ q, s.reqs[k]? = some q := ⟨_, List.getElem?_eq_getElem hkl⟩
          have hne0 : s.reqs ≠ [] := fun h => by rw [h] at hkl; simp at hkl
          obtain ⟨g7, cap7, hv7, hB7, hlt7, -, -, hx7⟩ := H5.out.2.1.at hne0
          injection hv7 with e1 e2 e3
          subst e1; subst e3
          have hy := fun j u h => (M6.out.cell hlt7 (by simp)).trans (hx7 k q hq j u h)
          have y0 := hy 0 _ rfl
          have y1 := hy 1 _ rfl
          have y2 := hy 2 _ rfl
          have y3 := hy 3 _ rfl
          have y4 := hy 4 _ rfl
          have htk : total (s.reqs.take (k + 1)) = total (s.reqs.take k) + q.cost % 30 := by rw [List.take_add_one, hq]; exact total_snoc _ _
          have HTK := Lib.hid htk
          have hm30 := Nat.mod_lt q.cost (show 0 < 30 by decide)
          clear hx7 hy htk hq hne0 e2
          obtain ⟨op, rule, cost, key, kk⟩ := q
          simp only [Nat.add_zero] at y0 y1 y2 y3 y4
          go_wp2_with fail
          go_roundw
          case rel => exact ⟨k + 1, by omega, by go_num, by rw [HTK.out]; simp, M6.out.alloc _⟩
          case measure => simp [intOf]; omega
        · obtain rfl : k = s.reqs.length := by omega
          rw [List.take_length] at *
          have C6 := Lib.hid (C5.out.mod M6.out (by simp) (by simp) (by simp))
          have M7 := Lib.hid (M5.out.trans M6.out)
          have hsum := HS.out
          by_cases he : s.err = 0
          · have he1 : ((s.err : Int) != 0) = false := by simp; omega
            have hq : (((o : Int) + s.out.length) == (total s.reqs : Int)) = true := by rw [he] at hsum; unfold errB at hsum; rw [if_pos rfl] at hsum; simp; omega
            clear hsum he
            go_wp2_with fail
            refine (err_any C6.out.dec).mono ?_
            rintro e w' ⟨rfl, rfl⟩
            go_wp2_with fail
            refine (waits_any C6.out).mono ?_
            rintro e w' ⟨rfl, rfl⟩
            go_wp2_with fail
            go_ret
            exact ⟨rfl, M7.out⟩
          · have he1 : ((s.err : Int) != 0) = true := by simp; omega
            have hq : (((o : Int) + s.out.length) == (total s.reqs : Int) + 6) = true := by unfold errB at hsum; rw [if_neg he] at hsum; simp; omega
            clear hsum he
            go_wp2_with fail
            refine (err_any C6.out.dec).mono ?_
            rintro e w' ⟨rfl, rfl⟩
            go_wp2_with fail
            refine (waits_any C6.out).mono ?_
            rintro e w' ⟨rfl, rfl⟩
            go_wp2_with fail
            go_ret
            exact ⟨rfl, M7.out⟩

set_option maxRecDepth 4000 in
theorem sums_walk (w : World) (v1 : Value) (b : List UInt8) (h1 : Sl w v1 (vb b)) (v2 : Value) (zs : List Int) (h2 : Sl w v2 (zs.map (Value.int .i64))) (hw : ∀ z, z ∈ zs → (Lit.int .i64 z).wf = true) :
    Calls Try.prog 6 #[v1, v2] w (TruePost w) := by
  by_cases hl : b.length ≤ 800 ∧ zs.length ≤ 200
  · exact sums_main w v1 v2 b zs h1 h2 hl.1 hl.2
  · obtain ⟨a1, c1, rfl, hm1, -⟩ := h1.open
    obtain ⟨a2, c2, rfl, hm2, -⟩ := h2.open
    unfold maxLen at hm1 hm2
    rw [vb_length] at *
    rw [List.length_map] at *
    have hn1 : b.length ≤ 9223372036854775807 := by omega
    have hn2 : zs.length ≤ 9223372036854775807 := by omega
    by_cases h8 : b.length ≤ 800
    · have d1 : decide ((800 : Int) < b.length) = false := by simp; omega
      have d2 : decide ((200 : Int) < zs.length) = true := by simp; omega
      clear h1 h2 hm1 hm2 hl hw
      go_enter Try.func6, Try.ntmps6
      go_wp2_with fail
      refine (fit_any w).mono ?_
      rintro e w1 ⟨rfl, hM1⟩
      go_wp2_with fail
      go_ret
      exact ⟨rfl, hM1⟩
    · have d1 : decide ((800 : Int) < b.length) = true := by simp; omega
      clear h1 h2 hm1 hm2 hl hw
      go_enter Try.func6, Try.ntmps6
      go_wp2_with fail
      refine (fit_any w).mono ?_
      rintro e w1 ⟨rfl, hM1⟩
      go_wp2_with fail
      go_ret
      exact ⟨rfl, hM1⟩
end Go.Proofs.Ytnhnmpgjbopihaa.Conn
