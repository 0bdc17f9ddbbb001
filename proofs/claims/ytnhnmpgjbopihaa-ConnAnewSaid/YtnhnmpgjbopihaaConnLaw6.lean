/- conn's laws: ConnAnew: opened anew a connection has nothing of what was. No condition. -/
import Derived.Test.YtnhnmpgjbopihaaConnLaw1
namespace Go.Proofs.Ytnhnmpgjbopihaa.Conn
open Go Go.RowKit Go.YtnhnmpgjbopihaaMem Go.YtnhnmpgjbopihaaLex Go.Proofs.Ytnhnmpgjbopihaa.Frame Go.Proofs.Ytnhnmpgjbopihaa.Out
set_option linter.unusedVariables false
set_option linter.unusedSimpArgs false

/-- With other requests ahead. -/
def CS.ah (L : List Req) (s : CS) : CS := ⟨s.pend, s.err, s.out, L ++ s.reqs⟩
theorem cstep_ah (rules : Int) (N : Nat) (L : List Req) (s : CS) (c : UInt8) : cstep rules N (s.ah L) c = (cstep rules N s c).map (CS.ah L) := by
  unfold cstep
  show (if s.err ≠ 0 then none else if (tried s.pend rules 0 c).2.2 ≠ 0 then (if N < s.out.length + 6 then none else some (CS.mk [] (tried s.pend rules 0 c).2.2 (s.out ++ faultB (tried s.pend rules 0 c).2.2) (L ++ s.reqs)))
    else if (tried s.pend rules 0 c).2.1 = true then (if N < s.out.length + ((tried s.pend rules 0 c).1.cost % 30 + 1) then none else some (CS.mk [] 0 (s.out ++ ansOf (tried s.pend rules 0 c).1) ((L ++ s.reqs) ++ [(tried s.pend rules 0 c).1])))
    else some (CS.mk (s.pend ++ [c]) 0 s.out (L ++ s.reqs))) = _
  split
  · rfl
  · split
    · split
      · rfl
      · rfl
    · split
      · split
        · rfl
        · simp [CS.ah]
      · rfl
theorem crun_ah (rules : Int) (N : Nat) (L : List Req) : ∀ (bs : List UInt8) (s : CS), crun rules N (s.ah L) bs = ((crun rules N s bs).1, (crun rules N s bs).2.ah L)
  | [], s => rfl
  | c :: cs, s => by
    unfold crun
    rw [cstep_ah]
    cases cstep rules N s c with
    | none => rfl
    | some s' => simp only [Option.map_some, crun_ah rules N L cs s']

set_option maxRecDepth 8000 in
set_option maxHeartbeats 12800000 in
theorem anew_main (w : World) (v1 v2 : Value) (b more : List UInt8) (h1 : Sl w v1 (vb b)) (h2 : Sl w v2 (vb more)) (hl1 : b.length ≤ 300) (hl2 : more.length ≤ 300) :
    Calls Try.prog 8 #[v1, v2] w (TruePost w) := by
  have I1 := Lib.hid (InB.of h1)
  have I2 := Lib.hid (InB.of h2)
  obtain ⟨a1, c1, rfl⟩ := I1.out.slice
  obtain ⟨a2, c2, rfl⟩ := I2.out.slice
  have d1 : decide ((300 : Int) < b.length) = false := by simp; omega
  have d2 : decide ((300 : Int) < more.length) = false := by simp; omega
  have LB := Lib.hid (reqs_run (rules := 4) (N := 200) b .start)
  have LE := Lib.hid (crun_le (rules := 4) (N := 200) b .start)
  have LB2 := Lib.hid (reqs_run (rules := 4) (N := 200) more .start)
  have LE2 := Lib.hid (crun_le (rules := 4) (N := 200) more .start)
  have AH := Lib.hid (crun_ah 4 200 (crun 4 200 .start b).2.reqs more .start)
  generalize hr : crun 4 200 .start b = r at *
  generalize hr2 : crun 4 200 .start more = r2 at *
  have HR1 := Lib.hid hr
  have HR2 := Lib.hid hr2
  obtain ⟨n, s⟩ := r
  obtain ⟨m, t⟩ := r2
  have hreq : s.reqs.length ≤ 100000 := by have h1 := LB.out; have h2 := LE.out; simp only [CS.start, List.length_nil] at h1; simp only at h2; omega
  have htq : t.reqs.length ≤ 100000 := by have h1 := LB2.out; have h2 := LE2.out; simp only [CS.start, List.length_nil] at h1; simp only at h2; omega
  have HRQ := Lib.hid hreq
  have HTQ := Lib.hid htq
  clear h1 h2 hr hr2 hreq htq
  go_enter Try.func8, Try.ntmps8
  go_wp2_with fail
  refine (fit_any w).mono ?_
  rintro e w1 ⟨rfl, hM1⟩
  have M1 := Lib.hid hM1
  have hz1 := hM1.size
  clear hM1
  go_wp2_with fail
  refine (new_con w1 4 200 (by decide) (by decide)).mono ?_
  rintro e w2 ⟨g, p, d, rfl, hC2, hg, hp, hd, hM2⟩
  replace hC2 : Con w2 g p d 200 4 0 [] 0 [] false := hC2
  have hlt2 := hC2.lt
  have C2 := Lib.hid hC2
  have M2 := Lib.hid (M1.out.trans hM2)
  have hz2 := hM2.size
  clear hC2 hM2
  go_wp2_with fail
  refine (new_con w2 4 200 (by decide) (by decide)).mono ?_
  rintro e w3 ⟨g', p', d', rfl, hD3, hg', hp', hd', hM3⟩
  replace hD3 : Con w3 g' p' d' 200 4 0 [] 0 [] false := hD3
  have hlt3 := hD3.lt
  have MH := Lib.hid (((Mod.refl [] w3).alloc (.cells #[.slice none 0 0] 30)).alloc (.cells #[.slice none 0 0] 30))
  have C3 := Lib.hid ((C2.out.mod hM3 (by simp) (by simp) (by simp)).mod MH.out (by simp) (by simp) (by simp))
  have D3 := Lib.hid (hD3.mod MH.out (by simp) (by simp) (by simp))
  have H3 : Hid (Hst ((w3.alloc (.cells #[.slice none 0 0] 30)).alloc (.cells #[.slice none 0 0] 30)) w3.heap.size (w3.heap.size + 2) (.slice none 0 0) []) := Lib.hid
    ⟨(Blk.new w3 [.slice none 0 0] 30).alloc _, OwnQ.nil _ _, by omega, by simp⟩
  have hkb := Blk.new (w3.alloc (.cells #[.slice none 0 0] 30)) [.slice none 0 0] 30
  rw [show (w3.alloc (.cells #[.slice none 0 0] 30)).heap.size = w3.heap.size + 1 by simp] at hkb
  have K3 : Hid (Hst ((w3.alloc (.cells #[.slice none 0 0] 30)).alloc (.cells #[.slice none 0 0] 30)) (w3.heap.size + 1) (w3.heap.size + 2) (.slice none 0 0) []) := Lib.hid
    ⟨hkb, OwnQ.nil _ _, by omega, by simp⟩
  have M3 := Lib.hid ((M2.out.trans hM3).trans MH.out)
  have hz3 := hM3.size
  have hgB : g < w3.heap.size + 2 ∧ p < w3.heap.size + 2 ∧ d < w3.heap.size + 2 := by omega
  have hnh : g ≠ w3.heap.size ∧ p ≠ w3.heap.size ∧ d ≠ w3.heap.size := by omega
  have hKK : w.heap.size ≤ g ∧ w.heap.size ≤ p ∧ w.heap.size ≤ d ∧ w.heap.size ≤ w3.heap.size := by omega
  have hgB' : g' < w3.heap.size + 2 ∧ p' < w3.heap.size + 2 ∧ d' < w3.heap.size + 2 := by omega
  have hnh' : g' ≠ w3.heap.size + 1 ∧ p' ≠ w3.heap.size + 1 ∧ d' ≠ w3.heap.size + 1 := by omega
  have hKK' : w.heap.size ≤ g' ∧ w.heap.size ≤ p' ∧ w.heap.size ≤ d' ∧ w.heap.size ≤ w3.heap.size + 1 := by omega
  -- what is apart from the first connection and its host, and the other way round
  have hap : ∀ x, x ∈ [g, p, d, w3.heap.size] → x < w3.heap.size + 2 ∧ w.heap.size ≤ x ∧ x ≠ g' ∧ x ≠ p' ∧ x ≠ d' ∧ x ≠ w3.heap.size + 1 := by
    intro x hx; simp only [List.mem_cons, List.not_mem_nil, or_false] at hx; omega
  have HAP := Lib.hid hap
  clear hD3 hM3 hkb hap
  go_wp2_with fail
  refine (open_yes C3.out).mono ?_
  rintro e w4 ⟨rfl, hC4, hM4⟩
  have hs4 : ∀ x, x ∈ [g, p, d] → x ∈ [g, p, d, w3.heap.size] := fun x hx => by simp at hx ⊢; omega
  have C4 := Lib.hid hC4
  have H4 := Lib.hid (hst_mod H3.out hM4 (by simp; omega) (by simp; omega))
  have D4 := Lib.hid (D3.out.mod hM4 (by simp; omega) (by simp; omega) (by simp; omega))
  have K4 := Lib.hid (hst_mod K3.out hM4 (by simp; omega) (by simp; omega))
  have M4 := Lib.hid (M3.out.trans' hM4 (by simp; omega))
  have hz4 := hM4.size
  clear hC4 hM4
  go_wp2_with fail
  refine (accept_any (K := w.heap.size) (hb := w3.heap.size) (B := w3.heap.size + 2) (v := .slice none 0 0) .start C4.out H4.out hgB hnh (by omega) (by decide) (I1.out.mod M4.out (Nat.le_refl _) (by simp)) hKK).mono ?_
  rintro e w5 ⟨v5, rfl, hC5, hH5, hM5, hat5⟩
  rw [HR1.out] at hC5 hH5 ⊢
  obtain ⟨av5, cv5, rfl⟩ := hH5.2.1.slice
  have C5 := Lib.hid hC5
  have H5 := Lib.hid hH5
  have D5 := Lib.hid (D4.out.mod hM5 (by simp [Value.ownBlock]; omega) (by simp [Value.ownBlock]; omega) (by simp [Value.ownBlock]; omega))
  have K5 := Lib.hid (hst_mod K4.out hM5 (by simp [Value.ownBlock]; omega) (by simp [Value.ownBlock]; omega))
  have M5 := Lib.hid (M4.out.trans' hM5 (by simp [Value.ownBlock]; omega))
  clear hC5 hH5 hM5 hat5
  go_wp2_with fail
  refine (shut_yes C5.out).mono ?_
  rintro e w6 ⟨rfl, hC6, hM6⟩
  have C6 := Lib.hid hC6
  have H6 := Lib.hid (hst_mod H5.out hM6 (by simp; omega) (by simp; omega))
  have D6 := Lib.hid (D5.out.mod hM6 (by simp; omega) (by simp; omega) (by simp; omega))
  have K6 := Lib.hid (hst_mod K5.out hM6 (by simp; omega) (by simp; omega))
  have M6 := Lib.hid (M5.out.trans' hM6 (by simp; omega))
  clear hC6 hM6
  go_wp2_with fail
  refine (waits_any C6.out).mono ?_
  rintro e w' ⟨rfl, rfl⟩
  go_wp2_with fail
  refine (accept_no C6.out _ _ _ _).mono ?_
  rintro e w' ⟨rfl, rfl⟩
  go_wp2_with fail
  refine (open_yes C6.out).mono ?_
  rintro e w7 ⟨rfl, hC7, hM7⟩
  have C7 := Lib.hid hC7
  have H7 := Lib.hid (hst_mod H6.out hM7 (by simp; omega) (by simp; omega))
  have D7 := Lib.hid (D6.out.mod hM7 (by simp; omega) (by simp; omega) (by simp; omega))
  have K7 := Lib.hid (hst_mod K6.out hM7 (by simp; omega) (by simp; omega))
  have M7 := Lib.hid (M6.out.trans' hM7 (by simp; omega))
  clear hC7 hM7
  go_wp2_with fail
  refine (open_yes D7.out).mono ?_
  rintro e w8 ⟨rfl, hD8, hM8⟩
  have D8 := Lib.hid hD8
  have C8 := Lib.hid (C7.out.mod hM8 (by simp; omega) (by simp; omega) (by simp; omega))
  have H8 := Lib.hid (hst_mod H7.out hM8 (by simp; omega) (by simp; omega))
  have K8 := Lib.hid (hst_mod K7.out hM8 (by simp; omega) (by simp; omega))
  have M8 := Lib.hid (M7.out.trans' hM8 (by simp; omega))
  have h80 := H8.out.1.cell (i := 0) rfl
  clear hD8 hM8
  go_wp2_with fail
  clear h80
  have AH2 : Hid (crun 4 200 ⟨[], 0, [], s.reqs⟩ more = (m, t.ah s.reqs)) := Lib.hid (by
    have h := AH.out
    have e : CS.start.ah s.reqs = ⟨[], 0, [], s.reqs⟩ := by simp [CS.ah, CS.start]
    rw [e] at h; exact h)
  have hvb5 := own_block H8.out.2.1
  have HVB := Lib.hid hvb5
  clear hvb5
  refine wp_region_sched (by kernel_rfl) fun S => ?_
  rcases before_or 47 49 S with q | q
  · refine ⟨[(47, 49)], by simp, by simpa using q, any_of_walk (L := [0, 1, 2, 3, 4, 5, 6, 7, 8, 9, 10, 11, 12, 13, 14, 15, 16, 17, 18, 19, 20, 21, 22, 23, 24, 25, 26, 27, 28, 29, 30, 31, 32, 33, 34, 35, 36, 37, 38, 39, 40, 41, 42, 43, 44, 45, 46, 47, 48, 49, 50, 51, 52, 53]) (by kernel_rfl) ?_⟩
    simp only [edges, edge, pick, List.drop_succ_cons, List.drop_zero, List.take_succ_cons, List.take_zero, List.cons_append, List.nil_append]
    go_wp2_with fail
    refine (accept_any (K := w.heap.size) (hb := w3.heap.size) (B := w3.heap.size + 2) (v := .slice av5 s.reqs.length cv5) ⟨[], 0, [], s.reqs⟩ (C8.out.mod (Mod.drew (Mod.refl [] w8)) (by simp) (by simp) (by simp)) (hst_mod H8.out (Mod.drew (Mod.refl [] w8)) (by simp) (by simp)) hgB hnh (by omega) HRQ.out (I2.out.mod M8.out.drew (Nat.le_refl _) (by simp)) hKK).mono ?_
    rintro e w9 ⟨v9, rfl, hC9, hH9, hM9, hat9⟩
    rw [AH2.out] at hC9 hH9 ⊢
    obtain ⟨av9, cv9, rfl⟩ := hH9.2.1.slice
    have hM9' : Mod (g :: p :: d :: w3.heap.size :: (Value.slice av5 s.reqs.length cv5).ownBlock.toList) w8 w9 := (Mod.drew (Mod.refl _ w8)).trans hM9
    have hnot : ∀ x, (x = g' ∨ x = p' ∨ x = d' ∨ x = w3.heap.size + 1) → x ∉ (g :: p :: d :: w3.heap.size :: (Value.slice av5 s.reqs.length cv5).ownBlock.toList) := fun x hx hin => by
      simp only [List.mem_cons] at hin
      rcases hin with h | h | h | h | h
      · omega
      · omega
      · omega
      · omega
      · have := HVB.out x (by simpa using h); omega
    have C9 := Lib.hid hC9
    have H9 := Lib.hid hH9
    have D9 := Lib.hid (D8.out.mod hM9' (hnot _ (.inl rfl)) (hnot _ (.inr (.inl rfl))) (hnot _ (.inr (.inr (.inl rfl)))))
    have K9 : Hid (Hst w9 (w3.heap.size + 1) (w3.heap.size + 2) (.slice none 0 0) []) := Lib.hid ⟨hM9'.blk K8.out.1 (hnot _ (.inr (.inr (.inr rfl)))), OwnQ.nil _ _, by omega, Nat.le_trans K8.out.2.2.2 hM9'.size⟩
    have M9 := Lib.hid (M8.out.trans' hM9' (fun x hx => by
      right
      simp only [List.mem_cons] at hx
      rcases hx with rfl | rfl | rfl | rfl | hx
      · omega
      · omega
      · omega
      · omega
      · have := HVB.out x (by simpa using hx); omega))
    clear hC9 hH9 hM9 hM9' hat9 hnot
    go_wp2_with fail
    refine (accept_any (K := w.heap.size) (hb := w3.heap.size + 1) (B := w3.heap.size + 2) (v := .slice none 0 0) .start D9.out K9.out hgB' hnh' (by omega) (by decide) (I2.out.mod M9.out (Nat.le_refl _) (by simp)) hKK').mono ?_
    rintro e w10 ⟨v10, rfl, hD10, hK10, hM10, hat10⟩
    rw [HR2.out] at hD10 hK10 ⊢
    obtain ⟨av10, cv10, rfl⟩ := hK10.2.1.slice
    have C10 := Lib.hid (C9.out.mod hM10 (by simp [Value.ownBlock]; omega) (by simp [Value.ownBlock]; omega) (by simp [Value.ownBlock]; omega))
    have h10 := (hM10.blk H9.out.1 (by simp [Value.ownBlock]; omega)).cell (i := 0) rfl
    have k10 := hK10.1.cell (i := 0) rfl
    have D10 := Lib.hid hD10
    have M10 := Lib.hid (M9.out.trans' hM10 (by simp [Value.ownBlock]; omega))
    have hrl : ((m, CS.ah s.reqs t) : Nat × CS).2.reqs.length = s.reqs.length + t.reqs.length := by simp [CS.ah]
    have hN := D10.out.buf.le.1
    clear hD10 hK10 hM10 hat10
    rw [hrl] at h10
    have hsq := HRQ.out
    have htq := HTQ.out
    clear hrl
    go_wp2_with fail
    clear h10 k10
    refine (waits_any C10.out).mono ?_
    rintro e w' ⟨rfl, rfl⟩
    go_wp2_with fail
    refine (waits_any D10.out).mono ?_
    rintro e w' ⟨rfl, rfl⟩
    go_wp2_with fail
    refine (err_any C10.out.dec).mono ?_
    rintro e w' ⟨rfl, rfl⟩
    go_wp2_with fail
    refine (err_any D10.out.dec).mono ?_
    rintro e w' ⟨rfl, rfl⟩
    go_wp2_with fail
    refine (drain_yes C10.out 200 t.out.length (by show (t.out.length : Int) = min (max 200 0) (t.out.length : Int); omega)).mono ?_
    rintro e w11 ⟨v11, rfl, hO11, hC11, hM11⟩
    have hO11' : OwnB w11 w10.heap.size v11 t.out := by have h := hO11; rw [show (CS.ah s.reqs t).out.take t.out.length = t.out from List.take_length] at h; exact h
    obtain ⟨av11, cv11, rfl⟩ := hO11'.slice
    have O11 := Lib.hid hO11'
    have D11 := Lib.hid (D10.out.mod hM11 (by simp; omega) (by simp; omega) (by simp; omega))
    have M11 := Lib.hid (M10.out.trans' hM11 (by simp; omega))
    have hs11 := hM11.size
    have cv1 := own_str (P := Try.prog) hO11' Try.underlying22 Try.underlying5 Try.underlying9
    clear hO11 hO11' hC11 hM11
    go_wp2_with fail
    refine (drain_yes D11.out 200 t.out.length (by show (t.out.length : Int) = min (max 200 0) (t.out.length : Int); omega)).mono ?_
    rintro e w12 ⟨v12, rfl, hO12, hC12, hM12⟩
    have hO12' : OwnB w12 w11.heap.size v12 t.out := by have h := hO12; rw [show (((m, t) : Nat × CS).2.out.take t.out.length) = t.out from List.take_length] at h; exact h
    obtain ⟨av12, cv12, rfl⟩ := hO12'.slice
    have M12 := Lib.hid (M11.out.trans' hM12 (by simp; omega))
    have cv2 := own_str (P := Try.prog) hO12' Try.underlying22 Try.underlying5 Try.underlying9
    clear hO12 hO12' hC12 hM12
    go_wp2_with fail
    refine ⟨by kernel_rfl, ?_⟩
    go_wp2_with fail
    go_ret
    exact ⟨rfl, M12.out⟩
  · refine ⟨[(49, 47)], by simp, by simpa using q, any_of_walk (L := [0, 1, 2, 3, 4, 5, 6, 7, 8, 9, 10, 11, 12, 13, 14, 15, 16, 17, 18, 19, 20, 21, 22, 23, 24, 25, 26, 27, 28, 29, 30, 31, 32, 33, 34, 35, 36, 37, 38, 39, 40, 41, 42, 43, 44, 45, 46, 48, 49, 47, 50, 51, 52, 53]) (by kernel_rfl) ?_⟩
    simp only [edges, edge, pick, List.drop_succ_cons, List.drop_zero, List.take_succ_cons, List.take_zero, List.cons_append, List.nil_append]
    go_wp2_with fail
    refine (accept_any (K := w.heap.size) (hb := w3.heap.size) (B := w3.heap.size + 2) (v := .slice av5 s.reqs.length cv5) ⟨[], 0, [], s.reqs⟩ (C8.out.mod (Mod.drew (Mod.refl [] w8)) (by simp) (by simp) (by simp)) (hst_mod H8.out (Mod.drew (Mod.refl [] w8)) (by simp) (by simp)) hgB hnh (by omega) HRQ.out (I2.out.mod M8.out.drew (Nat.le_refl _) (by simp)) hKK).mono ?_
    rintro e w9 ⟨v9, rfl, hC9, hH9, hM9, hat9⟩
    rw [AH2.out] at hC9 hH9 ⊢
    obtain ⟨av9, cv9, rfl⟩ := hH9.2.1.slice
    have hM9' : Mod (g :: p :: d :: w3.heap.size :: (Value.slice av5 s.reqs.length cv5).ownBlock.toList) w8 w9 := (Mod.drew (Mod.refl _ w8)).trans hM9
    have hnot : ∀ x, (x = g' ∨ x = p' ∨ x = d' ∨ x = w3.heap.size + 1) → x ∉ (g :: p :: d :: w3.heap.size :: (Value.slice av5 s.reqs.length cv5).ownBlock.toList) := fun x hx hin => by
      simp only [List.mem_cons] at hin
      rcases hin with h | h | h | h | h
      · omega
      · omega
      · omega
      · omega
      · have := HVB.out x (by simpa using h); omega
    have C9 := Lib.hid hC9
    have H9 := Lib.hid hH9
    have D9 := Lib.hid (D8.out.mod hM9' (hnot _ (.inl rfl)) (hnot _ (.inr (.inl rfl))) (hnot _ (.inr (.inr (.inl rfl)))))
    have K9 : Hid (Hst w9 (w3.heap.size + 1) (w3.heap.size + 2) (.slice none 0 0) []) := Lib.hid ⟨hM9'.blk K8.out.1 (hnot _ (.inr (.inr (.inr rfl)))), OwnQ.nil _ _, by omega, Nat.le_trans K8.out.2.2.2 hM9'.size⟩
    have M9 := Lib.hid (M8.out.trans' hM9' (fun x hx => by
      right
      simp only [List.mem_cons] at hx
      rcases hx with rfl | rfl | rfl | rfl | hx
      · omega
      · omega
      · omega
      · omega
      · have := HVB.out x (by simpa using hx); omega))
    clear hC9 hH9 hM9 hM9' hat9 hnot
    go_wp2_with fail
    refine (accept_any (K := w.heap.size) (hb := w3.heap.size + 1) (B := w3.heap.size + 2) (v := .slice none 0 0) .start D9.out K9.out hgB' hnh' (by omega) (by decide) (I2.out.mod M9.out (Nat.le_refl _) (by simp)) hKK').mono ?_
    rintro e w10 ⟨v10, rfl, hD10, hK10, hM10, hat10⟩
    rw [HR2.out] at hD10 hK10 ⊢
    obtain ⟨av10, cv10, rfl⟩ := hK10.2.1.slice
    have C10 := Lib.hid (C9.out.mod hM10 (by simp [Value.ownBlock]; omega) (by simp [Value.ownBlock]; omega) (by simp [Value.ownBlock]; omega))
    have h10 := (hM10.blk H9.out.1 (by simp [Value.ownBlock]; omega)).cell (i := 0) rfl
    have k10 := hK10.1.cell (i := 0) rfl
    have D10 := Lib.hid hD10
    have M10 := Lib.hid (M9.out.trans' hM10 (by simp [Value.ownBlock]; omega))
    have hrl : ((m, CS.ah s.reqs t) : Nat × CS).2.reqs.length = s.reqs.length + t.reqs.length := by simp [CS.ah]
    have hN := D10.out.buf.le.1
    clear hD10 hK10 hM10 hat10
    rw [hrl] at h10
    have hsq := HRQ.out
    have htq := HTQ.out
    clear hrl
    go_wp2_with fail
    clear h10 k10
    refine (waits_any C10.out).mono ?_
    rintro e w' ⟨rfl, rfl⟩
    go_wp2_with fail
    refine (waits_any D10.out).mono ?_
    rintro e w' ⟨rfl, rfl⟩
    go_wp2_with fail
    refine (err_any C10.out.dec).mono ?_
    rintro e w' ⟨rfl, rfl⟩
    go_wp2_with fail
    refine (err_any D10.out.dec).mono ?_
    rintro e w' ⟨rfl, rfl⟩
    go_wp2_with fail
    refine (drain_yes C10.out 200 t.out.length (by show (t.out.length : Int) = min (max 200 0) (t.out.length : Int); omega)).mono ?_
    rintro e w11 ⟨v11, rfl, hO11, hC11, hM11⟩
    have hO11' : OwnB w11 w10.heap.size v11 t.out := by have h := hO11; rw [show (CS.ah s.reqs t).out.take t.out.length = t.out from List.take_length] at h; exact h
    obtain ⟨av11, cv11, rfl⟩ := hO11'.slice
    have O11 := Lib.hid hO11'
    have D11 := Lib.hid (D10.out.mod hM11 (by simp; omega) (by simp; omega) (by simp; omega))
    have M11 := Lib.hid (M10.out.trans' hM11 (by simp; omega))
    have hs11 := hM11.size
    clear hO11 hO11' hC11 hM11
    go_wp2_with fail
    refine (drain_yes D11.out 200 t.out.length (by show (t.out.length : Int) = min (max 200 0) (t.out.length : Int); omega)).mono ?_
    rintro e w12 ⟨v12, rfl, hO12, hC12, hM12⟩
    have hO12' : OwnB w12 w11.heap.size v12 t.out := by have h := hO12; rw [show (((m, t) : Nat × CS).2.out.take t.out.length) = t.out from List.take_length] at h; exact h
    obtain ⟨av12, cv12, rfl⟩ := hO12'.slice
    have M12 := Lib.hid (M11.out.trans' hM12 (by simp; omega))
    have cv2 := own_str (P := Try.prog) hO12' Try.underlying22 Try.underlying5 Try.underlying9
    have hP12 : OwnB w12 w10.heap.size (.slice av11 t.out.length cv11) t.out := hM12.own O11.out (fun b hb hx => by have h1 := own_block O11.out b hb; have h2 := D11.out.lt; have h3 := D10.out.lt; simp at hx; omega)
    have cv1 := own_str (P := Try.prog) hP12 Try.underlying22 Try.underlying5 Try.underlying9
    clear hP12
    clear hO12 hO12' hC12 hM12
    go_wp2_with fail
    refine ⟨by kernel_rfl, ?_⟩
    go_wp2_with fail
    go_ret
    exact ⟨rfl, M12.out⟩

set_option maxRecDepth 4000 in
theorem anew_walk (w : World) (v1 : Value) (b : List UInt8) (h1 : Sl w v1 (vb b)) (v2 : Value) (more : List UInt8) (h2 : Sl w v2 (vb more)) :
    Calls Try.prog 8 #[v1, v2] w (TruePost w) := by
  by_cases hl : b.length ≤ 300 ∧ more.length ≤ 300
  · exact anew_main w v1 v2 b more h1 h2 hl.1 hl.2
  · obtain ⟨a1, c1, rfl, hm1, -⟩ := h1.open
    obtain ⟨a2, c2, rfl, hm2, -⟩ := h2.open
    unfold maxLen at hm1 hm2
    rw [vb_length] at *
    have hn1 : b.length ≤ 9223372036854775807 := by omega
    have hn2 : more.length ≤ 9223372036854775807 := by omega
    by_cases h8 : b.length ≤ 300
    · have d1 : decide ((300 : Int) < b.length) = false := by simp; omega
      have d2 : decide ((300 : Int) < more.length) = true := by simp; omega
      clear h1 h2 hm1 hm2 hl
      go_enter Try.func8, Try.ntmps8
      go_wp2_with fail
      refine (fit_any w).mono ?_
      rintro e w1 ⟨rfl, hM1⟩
      go_wp2_with fail
      go_ret
      exact ⟨rfl, hM1⟩
    · have d1 : decide ((300 : Int) < b.length) = true := by simp; omega
      clear h1 h2 hm1 hm2 hl
      go_enter Try.func8, Try.ntmps8
      go_wp2_with fail
      refine (fit_any w).mono ?_
      rintro e w1 ⟨rfl, hM1⟩
      go_wp2_with fail
      go_ret
      exact ⟨rfl, hM1⟩
end Go.Proofs.Ytnhnmpgjbopihaa.Conn
