/- conn's laws: ConnSeen: a host that wants to be told of requests is told of each one that it answered, in order. No condition. -/
import Derived.Test.YtnhnmpgjbopihaaAcceptW
namespace Go.Proofs.Ytnhnmpgjbopihaa.Conn
open Go Go.RowKit Go.YtnhnmpgjbopihaaMem Go.YtnhnmpgjbopihaaLex Go.Proofs.Ytnhnmpgjbopihaa.Frame Go.Proofs.Ytnhnmpgjbopihaa.Out
set_option linter.unusedVariables false
set_option linter.unusedSimpArgs false

set_option maxRecDepth 4000 in
theorem accept_anyW {w : World} {g p d N hb B K : Nat} {rules : Int} {val : Value} {bs : List UInt8} (s0 : CS) (hC : Con w g p d N rules rules s0.pend s0.err s0.out true) (hH : Wst w hb B (.slice none 0 0) (.slice none 0 0) s0.reqs s0.reqs) (hgB : g < B ∧ p < B ∧ d < B) (hne : g ≠ hb ∧ p ≠ hb ∧ d ≠ hb)
    (hl : bs.length ≤ 100000) (hr : s0.reqs.length ≤ 100000) (hI : InB w K val bs) (hK : K ≤ g ∧ K ≤ p ∧ K ≤ d ∧ K ≤ hb) :
    Calls Try.prog 14 #[.pointer (some ⟨g, 0, none⟩), val, .iface 45 (.pointer (some ⟨hb, 0, none⟩))] w (AcceptPostW w g p d N hb B rules (crun rules N s0 bs)) := by
  rcases hI with ⟨rfl, a, c, rfl⟩ | ⟨b, off, cap, rfl, h1, h2, h3, h4⟩
  · have HC := Lib.hid hC
    have HH := Lib.hid hH
    clear hC hH
    go_enter Try.func14, Try.ntmps14
    go_wp2_with fail
    refine (isOpen_any HC.out).mono ?_
    rintro e w' ⟨rfl, rfl⟩
    go_wp2_with fail
    refine wp_loop_once ?_
    go_wp2_with fail
    go_ret
    exact ⟨_, _, rfl, HC.out, HH.out, Mod.refl _ w, fun b hb => by simp [Value.ownBlock] at hb, fun b hb => by simp [Value.ownBlock] at hb⟩
  · have hhb := hH.1.2.2.1
    exact accept_mainW s0 hC hH hgB hne hl hr (by omega) (by omega) h4

set_option maxRecDepth 8000 in
set_option maxHeartbeats 12800000 in
theorem seen_main (w : World) (v1 : Value) (b : List UInt8) (h1 : Sl w v1 (vb b)) (hl1 : b.length ≤ 500) :
    Calls Try.prog 5 #[v1] w (TruePost w) := by
  have I1 := Lib.hid (InB.of h1)
  obtain ⟨a1, c1, rfl⟩ := I1.out.slice
  have d1 : decide ((500 : Int) < b.length) = false := by simp; omega
  have LB := Lib.hid (reqs_run (rules := 4) (N := 300) b .start)
  have LE := Lib.hid (crun_le (rules := 4) (N := 300) b .start)
  generalize hr : crun 4 300 .start b = r at *
  have HR1 := Lib.hid hr
  obtain ⟨n, s⟩ := r
  have hreq : s.reqs.length ≤ 100000 := by have h1 := LB.out; have h2 := LE.out; simp only [CS.start, List.length_nil] at h1; simp only at h2; omega
  clear h1 hr
  go_enter Try.func5, Try.ntmps5
  go_wp2_with fail
  refine (fit_any w).mono ?_
  rintro e w1 ⟨rfl, hM1⟩
  have M1 := Lib.hid hM1
  have hz1 := hM1.size
  clear hM1
  go_wp2_with fail
  refine (new_con w1 4 300 (by decide) (by decide)).mono ?_
  rintro e w2 ⟨g, p, d, rfl, hC2, hg, hp, hd, hM2⟩
  replace hC2 : Con w2 g p d 300 4 0 [] 0 [] false := hC2
  have hlt2 := hC2.lt
  have C2 := Lib.hid hC2
  have M2 := Lib.hid (M1.out.trans hM2)
  have hz2 := hM2.size
  clear hC2 hM2
  go_wp2_with fail
  refine (new_con w2 4 300 (by decide) (by decide)).mono ?_
  rintro e w3 ⟨g', p', d', rfl, hD3, hg', hp', hd', hM3⟩
  replace hD3 : Con w3 g' p' d' 300 4 0 [] 0 [] false := hD3
  have hlt3 := hD3.lt
  have C3 := Lib.hid (C2.out.mod hM3 (by simp) (by simp) (by simp))
  have D3 := Lib.hid hD3
  have M3 := Lib.hid (M2.out.trans hM3)
  have hz3 := hM3.size
  clear hD3 hM3
  go_wp2_with fail
  refine (open_yes C3.out).mono ?_
  rintro e w4 ⟨rfl, hC4, hM4⟩
  have C4 := Lib.hid hC4
  have D4 := Lib.hid (D3.out.mod hM4 (by simp; omega) (by simp; omega) (by simp; omega))
  have M4 := Lib.hid (M3.out.trans' hM4 (by simp; omega))
  have hz4 := hM4.size
  clear hC4 hM4
  go_wp2_with fail
  refine (open_yes D4.out).mono ?_
  rintro e w5 ⟨rfl, hD5, hM5⟩
  have hz5 := hM5.size
  have MH := Lib.hid (((Mod.refl [] w5).alloc (.cells #[.slice none 0 0] 30)).alloc (.cells #[.slice none 0 0, .slice none 0 0] 47))
  have D5 := Lib.hid (hD5.mod MH.out (by simp) (by simp) (by simp))
  have C5 := Lib.hid ((C4.out.mod hM5 (by simp; omega) (by simp; omega) (by simp; omega)).mod MH.out (by simp) (by simp) (by simp))
  have M5 := Lib.hid ((M4.out.trans' hM5 (by simp; omega)).trans MH.out)
  have H5 : Hid (Hst ((w5.alloc (.cells #[.slice none 0 0] 30)).alloc (.cells #[.slice none 0 0, .slice none 0 0] 47)) w5.heap.size (w5.heap.size + 2) (.slice none 0 0) []) := Lib.hid
    ⟨(Blk.new w5 [.slice none 0 0] 30).alloc _, OwnQ.nil _ _, by omega, by simp⟩
  have hkb := Blk.new (w5.alloc (.cells #[.slice none 0 0] 30)) [.slice none 0 0, .slice none 0 0] 47
  rw [show (w5.alloc (.cells #[.slice none 0 0] 30)).heap.size = w5.heap.size + 1 by simp] at hkb
  have K5 : Hid (Wst ((w5.alloc (.cells #[.slice none 0 0] 30)).alloc (.cells #[.slice none 0 0, .slice none 0 0] 47)) (w5.heap.size + 1) (w5.heap.size + 2) (.slice none 0 0) (.slice none 0 0) [] []) := Lib.hid
    ⟨⟨hkb, OwnQ.nil _ _, by omega, by simp⟩, OwnQ.nil _ _, fun b hb => by simp [Value.ownBlock] at hb⟩
  have hgB : g < w5.heap.size + 2 ∧ p < w5.heap.size + 2 ∧ d < w5.heap.size + 2 := by omega
  have hnh : g ≠ w5.heap.size ∧ p ≠ w5.heap.size ∧ d ≠ w5.heap.size := by omega
  have hKK : w.heap.size ≤ g ∧ w.heap.size ≤ p ∧ w.heap.size ≤ d ∧ w.heap.size ≤ w5.heap.size := by omega
  have hgB' : g' < w5.heap.size + 2 ∧ p' < w5.heap.size + 2 ∧ d' < w5.heap.size + 2 := by omega
  have hnh' : g' ≠ w5.heap.size + 1 ∧ p' ≠ w5.heap.size + 1 ∧ d' ≠ w5.heap.size + 1 := by omega
  have hKK' : w.heap.size ≤ g' ∧ w.heap.size ≤ p' ∧ w.heap.size ≤ d' ∧ w.heap.size ≤ w5.heap.size + 1 := by omega
  clear hD5 hM5 hkb
  go_wp2_with fail
  refine wp_region_lex (by kernel_rfl) (by kernel_rfl) ?_
  go_wp2_with fail
  refine (accept_any (K := w.heap.size) (hb := w5.heap.size) (B := w5.heap.size + 2) (v := .slice none 0 0) .start (C5.out.mod (Mod.drew (Mod.refl [] _)) (by simp) (by simp) (by simp)) (hst_mod H5.out (Mod.drew (Mod.refl [] _)) (by simp) (by simp)) hgB hnh (by omega) (by decide) (I1.out.mod M5.out.drew (Nat.le_refl _) (by simp)) hKK).mono ?_
  rintro e w6 ⟨v6, rfl, hC6, hH6, hM6, hat6⟩
  rw [HR1.out] at hC6 hH6 ⊢
  obtain ⟨av6, cv6, rfl⟩ := hH6.2.1.slice
  have hM6' := (Mod.drew (Mod.refl _ _)).trans hM6
  have C6 := Lib.hid hC6
  have H6 := Lib.hid hH6
  have D6 := Lib.hid (D5.out.mod hM6' (by simp [Value.ownBlock]; omega) (by simp [Value.ownBlock]; omega) (by simp [Value.ownBlock]; omega))
  have K6 := Lib.hid (wst_mod K5.out hM6' (by simp [Value.ownBlock]; omega) (by simp [Value.ownBlock]; omega))
  have M6 := Lib.hid (M5.out.trans' hM6' (by simp [Value.ownBlock]; omega))
  clear hC6 hH6 hM6 hM6' hat6
  go_wp2_with fail
  refine (accept_anyW (K := w.heap.size) (hb := w5.heap.size + 1) (B := w5.heap.size + 2) .start D6.out K6.out hgB' hnh' (by omega) (by decide) (I1.out.mod M6.out (Nat.le_refl _) (by simp)) hKK').mono ?_
  rintro e w7 ⟨v7, s7, rfl, hD7, hK7, hM7, hat7, hats7⟩
  rw [HR1.out] at hD7 hK7 ⊢
  obtain ⟨av7, cv7, rfl⟩ := hK7.1.2.1.slice
  obtain ⟨as7, cs7, rfl⟩ := hK7.2.1.slice
  have hvl6 := H6.out.2.1.lt
  have C7 := Lib.hid (C6.out.mod hM7 (by simp; omega) (by simp; omega) (by simp; omega))
  have H7 : Hid (Hst w7 w5.heap.size (w5.heap.size + 2) (.slice av6 ((n, s) : Nat × CS).2.reqs.length cv6) s.reqs) := Lib.hid (hst_mod H6.out hM7 (by simp; omega) (by simp; omega))
  have D7 := Lib.hid hD7
  have K7 := Lib.hid hK7
  have M7 := Lib.hid (M6.out.trans' hM7 (by simp; omega))
  clear hD7 hK7 hM7 hat7 hats7 hvl6
  have x0 := H7.out.1.cell (i := 0) rfl
  have y0 := K7.out.1.1.cell (i := 0) rfl
  have y1 := K7.out.1.1.cell (i := 1) rfl
  go_wp2_with fail
  refine ⟨by kernel_rfl, ?_⟩
  go_wp2_with fail
  clear x0 y0 y1
  go_loopw [67] (fun i wr => ∃ k : Nat, k ≤ s.reqs.length ∧ i = .int .i64 k ∧ Mod [] w7 wr) (fun i _ => s.reqs.length - (intOf i).toNat)
  case atStart => exact ⟨0, Nat.zero_le _, rfl, Mod.refl [] w7⟩
  case round =>
    obtain ⟨k, hk, rfl, hM8⟩ := hrel
    have M8 := Lib.hid hM8
    clear hM8
    by_cases hkl : k < s.reqs.length
    · obtain ⟨q, hq⟩ : ∃ q, s.reqs[k]? = some q := ⟨_, List.getElem?_eq_getElem hkl⟩
      have hne0 : s.reqs ≠ [] := fun h => by rw [h] at hkl; simp at hkl
      obtain ⟨g1, cap1, e1, hB1, hl1', -, -, hx1⟩ := H7.out.2.1.at hne0
      obtain ⟨g2, cap2, e2, hB2, hl2', -, -, hx2⟩ := K7.out.1.2.1.at hne0
      obtain ⟨g3, cap3, e3, hB3, hl3', -, -, hx3⟩ := K7.out.2.1.at hne0
      injection e1 with e11 e12 e13
      injection e2 with e21 e22 e23
      injection e3 with e31 e32 e33
      subst e11; subst e13; subst e21; subst e23; subst e31; subst e33
      have y0 := (M8.out.blk K7.out.1.1 (by simp)).cell (i := 0) rfl
      have y1 := (M8.out.blk K7.out.1.1 (by simp)).cell (i := 1) rfl
      have hx1' := fun j u h => (M8.out.cell hl1' (by simp)).trans (hx1 k q hq j u h)
      have hx2' := fun j u h => (M8.out.cell hl2' (by simp)).trans (hx2 k q hq j u h)
      have hx3' := fun j u h => (M8.out.cell hl3' (by simp)).trans (hx3 k q hq j u h)
      have a0 := hx1' 0 _ rfl
      have a1' := hx1' 1 _ rfl
      have a2 := hx1' 2 _ rfl
      have a3 := hx1' 3 _ rfl
      have a4 := hx1' 4 _ rfl
      have b0 := hx2' 0 _ rfl
      have b1 := hx2' 1 _ rfl
      have b2 := hx2' 2 _ rfl
      have b3 := hx2' 3 _ rfl
      have b4 := hx2' 4 _ rfl
      have c0 := hx3' 0 _ rfl
      have c1' := hx3' 1 _ rfl
      have c2 := hx3' 2 _ rfl
      have c3 := hx3' 3 _ rfl
      have c4 := hx3' 4 _ rfl
      have hs7 := M8.out.size
      have hwl : w5.heap.size + 1 < wr.heap.size := (M8.out.blk K7.out.1.1 (by simp)).lt
      have hg2l : g2 < wr.heap.size := by omega
      have hg3l : g3 < wr.heap.size := by omega
      clear hx1 hx2 hx3 hx1' hx2' hx3' hq hne0 e12 e22 e32
      obtain ⟨op, rule, cost, key, kk⟩ := q
      simp only [Nat.add_zero] at a0 a1' a2 a3 a4 b0 b1 b2 b3 b4 c0 c1' c2 c3 c4
      go_wp2_with fail
      refine wp_region_lex (by kernel_rfl) (by kernel_rfl) ?_
      go_wp2_with fail
      refine ⟨by kernel_rfl, ?_⟩
      go_wp2_with fail
      refine ⟨⟨k + 1, by omega, by go_num, (M8.out.alloc _).drew⟩, by simp [intOf]; omega⟩
    · obtain rfl : k = s.reqs.length := by omega
      have C8 := Lib.hid (C7.out.mod M8.out (by simp) (by simp) (by simp))
      have D8 := Lib.hid (D7.out.mod M8.out (by simp) (by simp) (by simp))
      have MM := Lib.hid (M7.out.trans M8.out)
      have hN := D8.out.buf.le.1
      have hz6 := M6.out.size
      have hz8 := MM.out.size
      go_wp2_with fail
      refine wp_region_sched (by kernel_rfl) fun S => ?_
      rcases before_or 2 4 S with q | q
      · refine ⟨[(2, 4)], by simp, by simpa using q, any_of_walk (L := [0, 1, 2, 3, 4, 5, 6, 7]) (by kernel_rfl) ?_⟩
        simp only [edges, edge, pick, List.drop_succ_cons, List.drop_zero, List.take_succ_cons, List.take_zero, List.cons_append, List.nil_append]
        go_wp2_with fail
        refine (drain_yes (C8.out.mod (Mod.drew (Mod.refl [] wr)) (by simp) (by simp) (by simp)) 300 s.out.length (by show (s.out.length : Int) = min (max 300 0) (s.out.length : Int); omega)).mono ?_
        rintro e w11 ⟨v11, rfl, hO11, hC11, hM11⟩
        have hM11' := (Mod.drew (Mod.refl _ wr)).trans hM11
        have hO11' : OwnB w11 wr.heap.size v11 s.out := by have h := hO11; rw [show (((n, s) : Nat × CS).2.out.take s.out.length) = s.out from List.take_length] at h; exact h
        obtain ⟨av11, cv11, rfl⟩ := hO11'.slice
        have O11 := Lib.hid hO11'
        have D11 := Lib.hid (D8.out.mod hM11' (by simp; omega) (by simp; omega) (by simp; omega))
        have M11 := Lib.hid (MM.out.trans' hM11' (by simp; omega))
        have cv1 := own_str (P := Try.prog) hO11' Try.underlying22 Try.underlying5 Try.underlying9
        clear hO11 hO11' hC11 hM11 hM11'
        go_wp2_with fail
        refine (drain_yes D11.out 300 s.out.length (by show (s.out.length : Int) = min (max 300 0) (s.out.length : Int); omega)).mono ?_
        rintro e w12 ⟨v12, rfl, hO12, hC12, hM12⟩
        have hO12' : OwnB w12 w11.heap.size v12 s.out := by have h := hO12; rw [show (((n, s) : Nat × CS).2.out.take s.out.length) = s.out from List.take_length] at h; exact h
        obtain ⟨av12, cv12, rfl⟩ := hO12'.slice
        have M12 := Lib.hid (M11.out.trans' hM12 (by simp; omega))
        have cv2 := own_str (P := Try.prog) hO12' Try.underlying22 Try.underlying5 Try.underlying9
        clear hO12 hO12' hC12 hM12
        go_wp2_with fail
        refine ⟨by kernel_rfl, ?_⟩
        go_wp2_with fail
        go_ret
        exact ⟨rfl, M12.out⟩
      · refine ⟨[(4, 2)], by simp, by simpa using q, any_of_walk (L := [0, 1, 3, 4, 2, 5, 6, 7]) (by kernel_rfl) ?_⟩
        simp only [edges, edge, pick, List.drop_succ_cons, List.drop_zero, List.take_succ_cons, List.take_zero, List.cons_append, List.nil_append]
        go_wp2_with fail
        refine (drain_yes (C8.out.mod (Mod.drew (Mod.refl [] wr)) (by simp) (by simp) (by simp)) 300 s.out.length (by show (s.out.length : Int) = min (max 300 0) (s.out.length : Int); omega)).mono ?_
        rintro e w11 ⟨v11, rfl, hO11, hC11, hM11⟩
        have hM11' := (Mod.drew (Mod.refl _ wr)).trans hM11
        have hO11' : OwnB w11 wr.heap.size v11 s.out := by have h := hO11; rw [show (((n, s) : Nat × CS).2.out.take s.out.length) = s.out from List.take_length] at h; exact h
        obtain ⟨av11, cv11, rfl⟩ := hO11'.slice
        have O11 := Lib.hid hO11'
        have D11 := Lib.hid (D8.out.mod hM11' (by simp; omega) (by simp; omega) (by simp; omega))
        have M11 := Lib.hid (MM.out.trans' hM11' (by simp; omega))
        clear hO11 hO11' hC11 hM11 hM11'
        go_wp2_with fail
        refine (drain_yes D11.out 300 s.out.length (by show (s.out.length : Int) = min (max 300 0) (s.out.length : Int); omega)).mono ?_
        rintro e w12 ⟨v12, rfl, hO12, hC12, hM12⟩
        have hO12' : OwnB w12 w11.heap.size v12 s.out := by have h := hO12; rw [show (((n, s) : Nat × CS).2.out.take s.out.length) = s.out from List.take_length] at h; exact h
        obtain ⟨av12, cv12, rfl⟩ := hO12'.slice
        have M12 := Lib.hid (M11.out.trans' hM12 (by simp; omega))
        have cv2 := own_str (P := Try.prog) hO12' Try.underlying22 Try.underlying5 Try.underlying9
        have hP12 : OwnB w12 wr.heap.size (.slice av11 s.out.length cv11) s.out := hM12.own O11.out (fun b hb hx => by have h1 := own_block O11.out b hb; have h3 := D8.out.lt; simp at hx; omega)
        have cv1 := own_str (P := Try.prog) hP12 Try.underlying22 Try.underlying5 Try.underlying9
        clear hP12
        clear hO12 hO12' hC12 hM12
        go_wp2_with fail
        refine ⟨by kernel_rfl, ?_⟩
        go_wp2_with fail
        go_ret
        exact ⟨rfl, M12.out⟩

set_option maxRecDepth 4000 in
theorem seen_walk (w : World) (v1 : Value) (b : List UInt8) (h1 : Sl w v1 (vb b)) :
    Calls Try.prog 5 #[v1] w (TruePost w) := by
  by_cases hl : b.length ≤ 500
  · exact seen_main w v1 b h1 hl
  · obtain ⟨a1, c1, rfl, hm1, -⟩ := h1.open
    unfold maxLen at hm1
    rw [vb_length] at *
    have hn1 : b.length ≤ 9223372036854775807 := by omega
    have d1 : decide ((500 : Int) < b.length) = true := by simp; omega
    clear h1 hm1
    go_enter Try.func5, Try.ntmps5
    go_wp2_with fail
    refine (fit_any w).mono ?_
    rintro e w1 ⟨rfl, hM1⟩
    go_wp2_with fail
    go_ret
    exact ⟨rfl, hM1⟩
end Go.Proofs.Ytnhnmpgjbopihaa.Conn
