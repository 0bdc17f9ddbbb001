/- script's laws: ScriptBack: acts that may be written come back from their bytes. No condition. -/
import Derived.Test.YtmiagiemagdnfaaActs4
namespace Go.Proofs.Ytmiagiemagdnfaa.Script
open Go Go.RowKit Go.YtmiagiemagdnfaaMem Go.YtmiagiemagdnfaaLex Go.Proofs.Ytmiagiemagdnfaa.Frame
set_option linter.unusedVariables false
set_option linter.unusedSimpArgs false

/-- An act that says no more than its kind lets it. -/
def Plain (a : Act) : Prop :=
  (a.kind = 2 → a.n = 0 ∧ a.seeds = []) ∧ (a.kind = 3 → a.data = [] ∧ a.seeds = []) ∧ (a.kind = 4 → a.data = [] ∧ a.n = 0) ∧ (a.kind ≠ 2 → a.kind ≠ 3 → a.kind ≠ 4 → a.data = [] ∧ a.n = 0 ∧ a.seeds = [])

theorem rdN_be (k x : Nat) (t : List UInt8) (hx : x < 256 ^ k) : ∀ j, j ≤ k → rdN j (be k x ++ t) = x / 256 ^ (k - j)
  | 0, _ => by rw [Nat.sub_zero, Nat.div_eq_of_lt hx]; rfl
  | j + 1, h => by
    rw [rdN, rdN_be k x t hx j (by omega)]
    have hb : ((be k x ++ t).getD j 0) = UInt8.ofNat (x / 256 ^ (k - 1 - j)) := by
      rw [List.getD_eq_getElem?_getD, List.getElem?_append_left (by rw [be_length]; omega)]
      unfold be
      rw [List.getElem?_map, List.getElem?_range (by omega)]; rfl
    rw [hb, UInt8.toNat_ofNat', show k - j = (k - 1 - j) + 1 by omega, Nat.pow_succ, ← Nat.div_div_eq_div_mul, show k - (j + 1) = k - 1 - j by omega]
    generalize x / 256 ^ (k - 1 - j) = y
    omega
theorem rdN8 (x : Nat) (t : List UInt8) (hx : x < 18446744073709551616) : rdN 8 (be 8 x ++ t) = x := by
  rw [rdN_be 8 x t (by simpa using hx) 8 (Nat.le_refl _)]; simp
theorem rdN1 (b : UInt8) (t : List UInt8) : rdN 1 (b :: t) = b.toNat := by simp [rdN]
theorem rdN2 (b c : UInt8) (t : List UInt8) : rdN 2 (b :: c :: t) = b.toNat * 256 + c.toNat := by simp [rdN]
theorem seeds_back : ∀ (l : List Nat) (t : List UInt8), (∀ s, s ∈ l → s < 18446744073709551616) → (List.range l.length).map (fun i => rdN 8 ((l.flatMap (be 8) ++ t).drop (8 * i))) = l
  | [], t, _ => rfl
  | s :: l, t, h => by
    rw [List.length_cons, List.range_succ_eq_map, List.map_cons, List.map_map]
    have e0 : ((s :: l).flatMap (be 8) ++ t).drop (8 * 0) = be 8 s ++ (l.flatMap (be 8) ++ t) := by simp [List.flatMap_cons]
    rw [e0, rdN8 s _ (h s (by simp))]
    congr 1
    have := seeds_back l t (fun x hx => h x (by simp [hx]))
    refine Eq.trans ?_ this
    apply List.map_congr_left
    intro i hi
    simp only [Function.comp]
    congr 1

theorem step_enc (pre post : List UInt8) (c : Nat) (a : Act) (h : Ok c a) (hp : Plain a) :
    step (pre ++ (enc1 c a ++ post)) pre.length c = (a, pre.length + (enc1 c a).length, a.clock) := by
  obtain ⟨k1, k2, k3, k4, k5, k6, k7, k8⟩ := h
  obtain ⟨kind, clock, conn, data, n, seeds⟩ := a
  simp only at k1 k2 k3 k4 k5 k6 k7 k8
  obtain ⟨p2, p3, p4, p0⟩ := hp
  simp only at p2 p3 p4 p0
  obtain ⟨d, rfl⟩ : ∃ d, clock = c + d := ⟨clock - c, by omega⟩
  generalize htl : encTail ⟨kind, c + d, conn, data, n, seeds⟩ = tl
  have he : enc1 c ⟨kind, c + d, conn, data, n, seeds⟩ = [UInt8.ofNat (kind + 5 * conn), UInt8.ofNat (d / 256), UInt8.ofNat d] ++ tl := by
    unfold enc1; rw [htl]; simp only [Nat.add_sub_cancel_left]
  rw [he]
  generalize hb0 : UInt8.ofNat (kind + 5 * conn) = b0
  generalize hb1 : UInt8.ofNat (d / 256) = b1
  generalize hb2 : UInt8.ofNat d = b2
  have v0 : b0.toNat = kind + 5 * conn := by rw [← hb0, UInt8.toNat_ofNat']; omega
  have v1 : b1.toNat = d / 256 := by rw [← hb1, UInt8.toNat_ofNat']; omega
  have v2 : b2.toNat = d % 256 := by rw [← hb2, UInt8.toNat_ofNat']
  have hlen : (pre ++ ([b0, b1, b2] ++ tl ++ post)).length = pre.length + 3 + tl.length + post.length := by simp; omega
  have hd0 : (pre ++ ([b0, b1, b2] ++ tl ++ post)).drop pre.length = b0 :: b1 :: b2 :: (tl ++ post) := by simp
  have hd1 : (pre ++ ([b0, b1, b2] ++ tl ++ post)).drop (pre.length + 1) = b1 :: b2 :: (tl ++ post) := by rw [← List.drop_drop, hd0]; rfl
  have hd3 : ∀ j, (pre ++ ([b0, b1, b2] ++ tl ++ post)).drop (pre.length + 3 + j) = (tl ++ post).drop j := fun j => by rw [Nat.add_assoc, ← List.drop_drop, hd0, Nat.add_comm 3 j]; rfl
  have hd3' := hd3 0
  rw [Nat.add_zero, List.drop_zero] at hd3'
  have hx : rdN 1 ((pre ++ ([b0, b1, b2] ++ tl ++ post)).drop pre.length) = kind + 5 * conn := by rw [hd0, rdN1, v0]
  have e1 : min (pre.length + 1) (pre ++ ([b0, b1, b2] ++ tl ++ post)).length = pre.length + 1 := by omega
  have hy : rdN 2 ((pre ++ ([b0, b1, b2] ++ tl ++ post)).drop (pre.length + 1)) = d := by rw [hd1, rdN2, v1, v2]; omega
  have e3 : min (pre.length + 1 + 2) (pre ++ ([b0, b1, b2] ++ tl ++ post)).length = pre.length + 3 := by omega
  have hl : later d = d := by
    unfold later
    rw [Nat.mod_eq_of_lt (show d < 4096 by omega), Nat.div_eq_of_lt (show d < 4096 by omega)]; simp
  have hk5 : (kind + 5 * conn) % 5 = kind := by omega
  have hc16 : (kind + 5 * conn) / 5 % 16 = conn := by omega
  have hel : ([b0, b1, b2] ++ tl).length = 3 + tl.length := by simp; omega
  unfold step
  simp only [hx, e1, hy, e3, hl, hk5, hc16, hd3', hel]
  by_cases q2 : kind = 2
  · obtain ⟨rfl, rfl⟩ := p2 q2
    subst q2
    have ht : tl = UInt8.ofNat data.length :: data := by rw [← htl]; rfl
    have vt : (UInt8.ofNat data.length).toNat = data.length := by rw [UInt8.toNat_ofNat']; omega
    have hm : rdN 1 (tl ++ post) = data.length := by rw [ht, List.cons_append, rdN1, vt]
    have htl1 : tl.length = data.length + 1 := by rw [ht]; rfl
    have e4 : min (pre.length + 3 + 1) (pre ++ ([b0, b1, b2] ++ tl ++ post)).length = pre.length + 3 + 1 := by omega
    have e5 : min (pre.length + 3 + 1 + data.length) (pre ++ ([b0, b1, b2] ++ tl ++ post)).length = pre.length + 3 + 1 + data.length := by omega
    rw [if_pos rfl, hm, e4, e5, hd3 1, htl1, ht]
    rw [show (UInt8.ofNat data.length :: data ++ post).drop 1 = data ++ post from rfl, List.take_left, show pre.length + 3 + 1 + data.length = pre.length + (3 + (data.length + 1)) by omega]
  · rw [if_neg q2]
    by_cases q3 : kind = 3
    · obtain ⟨rfl, rfl⟩ := p3 q3
      subst q3
      have ht : tl = [UInt8.ofNat n] := by rw [← htl]; rfl
      have vt : (UInt8.ofNat n).toNat = n := by rw [UInt8.toNat_ofNat']; omega
      have hm : rdN 1 (tl ++ post) = n := by rw [ht, List.cons_append, rdN1, vt]
      have htl1 : tl.length = 1 := by rw [ht]; rfl
      have e4 : min (pre.length + 3 + 1) (pre ++ ([b0, b1, b2] ++ tl ++ post)).length = pre.length + 3 + 1 := by omega
      rw [if_pos rfl, hm, e4, htl1]
    · rw [if_neg q3]
      by_cases q4 : kind = 4
      · obtain ⟨rfl, rfl⟩ := p4 q4
        subst q4
        have ht : tl = UInt8.ofNat seeds.length :: seeds.flatMap (be 8) := by rw [← htl]; rfl
        have vt : (UInt8.ofNat seeds.length).toNat = seeds.length := by rw [UInt8.toNat_ofNat']; omega
        have hm : rdN 1 (tl ++ post) = seeds.length := by rw [ht, List.cons_append, rdN1, vt]
        have htl1 : tl.length = 8 * seeds.length + 1 := by rw [ht, List.length_cons, flat8]
        have e4 : min (pre.length + 3 + 1) (pre ++ ([b0, b1, b2] ++ tl ++ post)).length = pre.length + 3 + 1 := by omega
        have hms : seeds.length % 4 = seeds.length := by omega
        rw [if_pos rfl, hm, e4, hms]
        have e5 : min (pre.length + 3 + 1 + 8 * seeds.length) (pre ++ ([b0, b1, b2] ++ tl ++ post)).length = pre.length + 3 + 1 + 8 * seeds.length := by omega
        rw [e5]
        have hs : (List.range seeds.length).map (fun i => rdN 8 ((pre ++ ([b0, b1, b2] ++ tl ++ post)).drop (min (pre.length + 3 + 1 + 8 * i) (pre ++ ([b0, b1, b2] ++ tl ++ post)).length))) = seeds := by
          refine Eq.trans ?_ (seeds_back seeds post k8)
          apply List.map_congr_left
          intro i hi
          have hi := List.mem_range.1 hi
          rw [show min (pre.length + 3 + 1 + 8 * i) (pre ++ ([b0, b1, b2] ++ tl ++ post)).length = pre.length + 3 + (8 * i + 1) by omega, hd3, ht]
          rfl
        rw [hs, htl1, show pre.length + 3 + 1 + 8 * seeds.length = pre.length + (3 + (8 * seeds.length + 1)) by omega]
      · obtain ⟨rfl, rfl, rfl⟩ := p0 q2 q3 q4
        rw [if_neg q4]
        have ht : tl = [] := by rw [← htl]; unfold encTail; rw [if_neg q2, if_neg q3, if_neg q4]
        rw [ht]; rfl

theorem dec_enc : ∀ (l : List Act) (c f : Nat) (pre : List UInt8), Oks c l → (∀ a, a ∈ l → Plain a) → l.length ≤ f → decF f (pre ++ enc c l) pre.length c = l
  | [], c, f, pre, _, _, _ => by
    rw [show enc c [] = [] from rfl, List.append_nil]; exact decF_end pre f c
  | a :: l, c, 0, pre, _, _, h => by simp at h
  | a :: l, c, f + 1, pre, ho, hp, h => by
    have hpos : 0 < (enc1 c a).length := by unfold enc1; simp
    show (if pre.length < (pre ++ (enc1 c a ++ enc a.clock l)).length then _ else _) = _
    rw [if_pos (by simp; omega)]
    show (step (pre ++ (enc1 c a ++ enc a.clock l)) pre.length c).1 :: decF f (pre ++ (enc1 c a ++ enc a.clock l)) (step (pre ++ (enc1 c a ++ enc a.clock l)) pre.length c).2.1 (step (pre ++ (enc1 c a ++ enc a.clock l)) pre.length c).2.2 = _
    rw [step_enc pre (enc a.clock l) c a ho.1 (hp a (by simp))]
    have := dec_enc l a.clock f (pre ++ enc1 c a) ho.2 (fun x hx => hp x (by simp [hx])) (by simp at h; omega)
    rw [List.append_assoc, List.length_append] at this
    simp only [this]
theorem enc_length : ∀ (l : List Act) (c : Nat), Oks c l → l.length ≤ (enc c l).length ∧ (enc c l).length ≤ l.length * 300
  | [], c, _ => by simp [enc]
  | a :: l, c, h => by
    have ih := enc_length l a.clock h.2
    have ht := tail_length c a h.1
    have : (enc c (a :: l)).length = 3 + (encTail a).length + (enc a.clock l).length := by
      show (enc1 c a ++ enc a.clock l).length = _
      unfold enc1; simp; omega
    rw [this, List.length_cons]
    omega
theorem tm1_ok (c : Nat) (q : Raw) (hb : ∀ s, s ∈ q.seeds → s < 18446744073709551616) : Ok c (tm1 c q) ∧ Plain (tm1 c q) ∧ (tm1 c q).clock = c + (q.clock % 4096).toNat := by
  have hk := kindOf_lt q.kind
  have h1 : (q.clock % 4096).toNat < 4096 := by omega
  have h2 : (q.conn % 16).toNat < 16 := by omega
  have h3 : (q.n % 256).toNat < 256 := by omega
  unfold tm1
  simp only
  split
  · exact ⟨⟨by show 2 < 5; omega, h2, Nat.le_add_right _ _, by show c + _ < _; omega, by show 0 < 256; omega, by show (q.data.take 255).length < 256; rw [List.length_take]; omega, by show 0 ≤ 3; omega, fun s hs => by simp at hs⟩,
      ⟨fun _ => ⟨rfl, rfl⟩, fun h => by simp at h, fun h => by simp at h, fun h => by simp at h⟩, rfl⟩
  · split
    · exact ⟨⟨by show 3 < 5; omega, h2, Nat.le_add_right _ _, by show c + _ < _; omega, h3, by show 0 < 256; omega, by show 0 ≤ 3; omega, fun s hs => by simp at hs⟩,
        ⟨fun h => by simp at h, fun _ => ⟨rfl, rfl⟩, fun h => by simp at h, fun _ h => by simp at h⟩, rfl⟩
    · split
      · exact ⟨⟨by show 4 < 5; omega, h2, Nat.le_add_right _ _, by show c + _ < _; omega, by show 0 < 256; omega, by show 0 < 256; omega, by show (q.seeds.take 3).length ≤ 3; rw [List.length_take]; omega, fun s hs => hb s (List.mem_of_mem_take hs)⟩,
          ⟨fun h => by simp at h, fun h => by simp at h, fun _ => ⟨rfl, rfl⟩, fun _ _ h => by simp at h⟩, rfl⟩
      · rename_i n2 n3 n4
        exact ⟨⟨hk, h2, Nat.le_add_right _ _, by show c + _ < _; omega, by show 0 < 256; omega, by show 0 < 256; omega, by show 0 ≤ 3; omega, fun s hs => by simp at hs⟩,
          ⟨fun h => absurd h n2, fun h => absurd h n3, fun h => absurd h n4, fun _ _ _ => ⟨rfl, rfl, rfl⟩⟩, rfl⟩
theorem tame_ok : ∀ (l : List Raw) (c : Nat), (∀ q, q ∈ l → ∀ s, s ∈ q.seeds → s < 18446744073709551616) → Oks c (tameL c l) ∧ (∀ a, a ∈ tameL c l → Plain a) ∧ (tameL c l).length = l.length
  | [], c, _ => ⟨trivial, fun a h => by simp [tameL] at h, rfl⟩
  | q :: l, c, h => by
    obtain ⟨h1, h2, h3⟩ := tm1_ok c q (h q (by simp))
    obtain ⟨i1, i2, i3⟩ := tame_ok l (c + (q.clock % 4096).toNat) (fun x hx => h x (by simp [hx]))
    refine ⟨⟨h1, by rw [h3]; exact i1⟩, fun a ha => ?_, by show (tameL _ l).length + 1 = _; rw [i3]; rfl⟩
    rcases List.mem_cons.1 ha with rfl | ha
    · exact h2
    · exact i2 a ha

set_option maxRecDepth 4000 in
theorem back_walk (w : World) (v : Value) (l : List Raw) (hv : VA w v l) (hb : ∀ q, q ∈ l → ∀ s, s ∈ q.seeds → s < 18446744073709551616) :
    Calls Try.prog 6 #[v] w fun e w' => e = .returned (.bool true) ∧ Mod [] w w' := by
  obtain ⟨t1, t2, t3⟩ := tame_ok l 0 hb
  have HV := Lib.hid hv
  have T1 := Lib.hid t1
  have T2 := Lib.hid t2
  have T3 := Lib.hid t3
  clear hv hb t1 t2 t3
  go_enter Try.func6, Try.ntmps6
  go_wp2_with fail
  refine (fit_any _).mono ?_
  rintro e1 w1 ⟨rfl, hM1⟩
  have M1 := Lib.hid hM1
  clear hM1
  go_wp2_with fail
  refine (light_any (HV.out.mod M1.out)).mono ?_
  rintro e2 w2 ⟨r, rfl, hM2, hr⟩
  have M2 := Lib.hid (M1.out.trans hM2)
  cases r with
  | false =>
    clear hM2 hr
    go_wp2_with fail
    go_ret
    exact ⟨rfl, M2.out⟩
  | true =>
    have LI := Lib.hid (hr rfl)
    clear hM2 hr
    go_wp2_with fail
    refine (tame_any (HV.out.mod M2.out) LI.out).mono ?_
    rintro e3 w3 ⟨v3, rfl, hV3, hM3⟩
    have V3 := Lib.hid hV3
    have M3 := Lib.hid (M2.out.trans hM3)
    clear hV3 hM3
    go_wp2_with fail
    refine (encode_any V3.out (by rw [T3.out]; exact LI.out.1) T1.out).mono ?_
    rintro e4 w4 ⟨v4, rfl, hO4, hM4⟩
    have V4 := Lib.hid (V3.out.mod hM4)
    have S4 := Lib.hid (Sl.own hO4)
    have M4 := Lib.hid (M3.out.trans hM4)
    have LN := Lib.hid (enc_length _ _ T1.out)
    clear hO4 hM4
    go_wp2_with fail
    refine (decode_any S4.out (by have h1 := LN.out.2; have h2 := T3.out; have h3 := LI.out.1; omega)).mono ?_
    rintro e5 w5 ⟨v5, c, l5, av, g, rfl, hg, hO, hav, hS, hll, hM5⟩
    have hl5 := steps_eq hS hll
    have hd := dec_enc (tameL 0 l) 0 (enc 0 (tameL 0 l)).length [] T1.out T2.out LN.out.1
    rw [List.nil_append, List.length_nil] at hd
    rw [hd] at hl5
    have hv5 := hO.view
    rw [show (av.map fun a => a.act.raw) = (av.map ActV.act).map Act.raw by rw [List.map_map]; rfl, hav, hl5] at hv5
    have V5 := Lib.hid hv5
    have V6 := Lib.hid (V4.out.mod hM5)
    have M5 := Lib.hid (M4.out.trans hM5)
    clear hM5 hO hav hS hll hl5 hd hv5 hg
    go_wp2_with fail
    refine (same_any V5.out V6.out (by rw [List.length_map, T3.out]; have := LI.out.1; omega)).mono ?_
    rintro e6 w6 ⟨rfl, hM6⟩
    have M6 := Lib.hid (M5.out.trans hM6)
    clear hM6
    go_wp2_with fail
    go_ret
    exact ⟨rfl, M6.out⟩
end Go.Proofs.Ytmiagiemagdnfaa.Script
