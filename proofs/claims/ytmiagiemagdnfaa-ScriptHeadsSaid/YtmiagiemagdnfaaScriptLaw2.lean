/- script's laws: ScriptHeads: a byte's kind is what is left of it by 5, its connection that of the rest by 16. No condition. -/
import Derived.Test.YtmiagiemagdnfaaScript4
namespace Go.Proofs.Ytmiagiemagdnfaa.Script
open Go Go.RowKit Go.YtmiagiemagdnfaaMem Go.YtmiagiemagdnfaaLex Go.Proofs.Ytmiagiemagdnfaa.Frame
set_option linter.unusedVariables false
set_option linter.unusedSimpArgs false

theorem step_next (bs : List UInt8) (k c : Nat) (hk : k < bs.length) : k < (step bs k c).2.1 ∧ (step bs k c).2.1 ≤ bs.length := by
  have := step_weight bs k c hk
  refine ⟨by omega, ?_⟩
  unfold step
  simp only
  split
  · exact Nat.min_le_right _ _
  · split
    · exact Nat.min_le_right _ _
    · split
      · exact Nat.min_le_right _ _
      · exact Nat.min_le_right _ _
theorem heads_step (x y n : UInt8) : ∃ a k c, step [x, 0, y, n] 0 0 = (a, k, c) ∧ a.kind = x.toNat % 5 ∧ a.conn = x.toNat / 5 % 16 ∧ a.clock = y.toNat ∧
    (a.kind = 3 → a.n = n.toNat) ∧ (a.kind = 4 → a.seeds.length = n.toNat % 4) ∧ (a.kind = 2 → a.data.length = 0) ∧ (a.kind = 2 ∨ a.kind = 3 ∨ a.kind = 4 → k = 4) ∧ (¬ (a.kind = 2 ∨ a.kind = 3 ∨ a.kind = 4) → k = 3) := by
  have e1 : rdN 1 ([x, 0, y, n].drop 0) = x.toNat := by simp [rdN]
  have e2 : rdN 2 ([x, 0, y, n].drop (min (0 + 1) [x, 0, y, n].length)) = y.toNat := by simp [rdN]
  have e3 : rdN 1 ([x, 0, y, n].drop (min (min (0 + 1) [x, 0, y, n].length + 2) [x, 0, y, n].length)) = n.toNat := by simp [rdN]
  have hy := y.toNat_lt
  have e4 : later y.toNat = y.toNat := by unfold later; rw [Nat.div_eq_of_lt (by omega), Nat.mod_eq_of_lt (by omega)]; simp
  unfold step
  simp only [e1, e2, e3, e4]
  by_cases h2 : x.toNat % 5 = 2
  · rw [if_pos h2]
    refine ⟨_, _, _, rfl, h2.symm, rfl, by simp, fun h => by simp at h, fun h => by simp at h, fun _ => ?_, fun _ => ?_, fun h => absurd (.inl rfl) h⟩
    · show (List.take _ (List.drop _ _)).length = 0
      rw [List.length_take, List.length_drop]; simp
    · simp
  · rw [if_neg h2]
    by_cases h3 : x.toNat % 5 = 3
    · rw [if_pos h3]
      exact ⟨_, _, _, rfl, h3.symm, rfl, by simp, fun _ => rfl, fun h => by simp at h, fun h => by simp at h, fun _ => by simp, fun h => absurd (.inr (.inl rfl)) h⟩
    · rw [if_neg h3]
      by_cases h4 : x.toNat % 5 = 4
      · rw [if_pos h4]
        refine ⟨_, _, _, rfl, h4.symm, rfl, by simp, fun h => by simp at h, fun _ => ?_, fun h => by simp at h, fun _ => by simp, fun h => absurd (.inr (.inr rfl)) h⟩
        show (List.map _ _).length = _
        rw [List.length_map, List.length_range]
      · rw [if_neg h4]
        exact ⟨_, _, _, rfl, rfl, rfl, by simp, fun h => absurd h h3, fun h => absurd h h4, fun h => absurd h h2, fun h => by rcases h with h | h | h; exact absurd h h2; exact absurd h h3; exact absurd h h4, fun _ => by simp⟩
theorem heads_acts (x y n : UInt8) : ∃ a t, decF 4 [x, 0, y, n] 0 0 = a :: t ∧ a.kind = x.toNat % 5 ∧ a.conn = x.toNat / 5 % 16 ∧ a.clock = y.toNat ∧
    (a.kind = 3 → a.n = n.toNat) ∧ (a.kind = 4 → a.seeds.length = n.toNat % 4) ∧ (a.kind = 2 → a.data.length = 0) ∧ (a.kind = 2 ∨ a.kind = 3 ∨ a.kind = 4 → t.length = 0) ∧ (¬ (a.kind = 2 ∨ a.kind = 3 ∨ a.kind = 4) → t.length = 1) := by
  obtain ⟨a, k, c, h, h1, h2, h3, h4, h5, h6, h7, h8⟩ := heads_step x y n
  have e : decF 4 [x, 0, y, n] 0 0 = a :: decF 3 [x, 0, y, n] k c := by
    show (if 0 < 4 then (step [x, 0, y, n] 0 0).1 :: decF 3 [x, 0, y, n] (step [x, 0, y, n] 0 0).2.1 (step [x, 0, y, n] 0 0).2.2 else []) = _
    rw [if_pos (by omega), h]
  refine ⟨a, _, e, h1, h2, h3, h4, h5, h6, fun hk => ?_, fun hk => ?_⟩
  · rw [h7 hk]
    have := decF_end [x, 0, y, n] 3 c
    simp only [List.length_cons, List.length_nil] at this
    rw [this]; rfl
  · rw [h8 hk]
    show (if 3 < 4 then (step [x, 0, y, n] 3 c).1 :: decF 2 [x, 0, y, n] (step [x, 0, y, n] 3 c).2.1 (step [x, 0, y, n] 3 c).2.2 else []).length = 1
    rw [if_pos (by omega)]
    obtain ⟨n1, n2⟩ := step_next [x, 0, y, n] 3 c (by simp)
    simp only [List.length_cons, List.length_nil] at n2
    have e4 : (step [x, 0, y, n] 3 c).2.1 = 4 := by omega
    rw [e4]
    have := decF_end [x, 0, y, n] 2 (step [x, 0, y, n] 3 c).2.2
    simp only [List.length_cons, List.length_nil] at this
    rw [List.length_cons, this]; rfl
theorem and_u8 (n : Nat) (h : n < 256) : bits .and .u8 (n : Int) 3 = ((n % 4 : Nat) : Int) := by
  have h1 : (2 : Int) ^ IntKind.u8.bits = 256 := by decide
  have h2 : IntKind.u8.signed = false := rfl
  rw [show (3 : Int) = ((3 : Nat) : Int) from rfl]
  simp only [bits, BitVec.ofInt_natCast, BitVec.toNat_and, BitVec.toNat_ofNat]
  simp only [show IntKind.u8.bits = 8 from rfl]
  rw [Nat.mod_eq_of_lt (show n < 2 ^ 8 by omega), Nat.mod_eq_of_lt (show 3 < 2 ^ 8 by omega), show 3 = 2 ^ 2 - 1 from rfl, Nat.and_two_pow_sub_one_eq_mod]
  unfold IntKind.wrap
  simp only [h1, h2, Bool.false_and, Bool.false_eq_true, if_false]
  omega

set_option maxRecDepth 4000 in
set_option maxHeartbeats 1600000 in
theorem heads_main (w : World) (x y n : UInt8) :
    Calls Try.prog 5 #[.int .u8 x.toNat, .int .u8 y.toNat, .int .u8 n.toNat] w fun e w' => e = .returned (.bool true) ∧ Mod [] w w' := by
  have hx := x.toNat_lt
  have hy := y.toNat_lt
  have hn := n.toNat_lt
  have hsl : ∀ w : World, Sl (w.alloc (.cells (vb [x, 0, y, n]).toArray 5)) (.slice (some ⟨w.heap.size, 0, none⟩) 4 4) (vb [x, 0, y, n]) := fun w =>
    .inr ⟨w.heap.size, 0, 4, rfl, by simp, by unfold maxLen; decide, by simp, fun i u hu => by rw [Nat.zero_add]; exact (Blk.new w (vb [x, 0, y, n]) 5).cell hu⟩
  have DEC := Lib.hid (fun w => decode_any (hsl w) (by simp))
  obtain ⟨a, t, hl, hk, hc, hcl, h3, h4, h2, ht0, ht1⟩ := heads_acts x y n
  have hand := and_u8 n.toNat (by omega)
  obtain ⟨kind, clock, conn, data, m, seeds⟩ := a
  simp only at hk hc hcl h3 h4 h2 ht0 ht1
  have HL := Lib.hid hl
  have H3 := Lib.hid h3
  have H4 := Lib.hid h4
  have H2 := Lib.hid h2
  have HT0 := Lib.hid ht0
  have HT1 := Lib.hid ht1
  have HCL := Lib.hid hcl
  have hk5 : (x.toNat : Int) % 5 = (kind : Int) := by omega
  have hc16 : (x.toNat : Int) / 5 % 16 = (conn : Int) := by omega
  have hkl : kind < 5 := by omega
  have hcly : (clock : Int) = (y.toNat : Int) := by omega
  clear hsl hl h3 h4 h2 ht0 ht1 hk hc hcl
  go_enter Try.func5, Try.ntmps5
  go_wp2_with fail
  refine (fit_any _).mono ?_
  rintro e1 w1 ⟨rfl, hM1⟩
  have M1 := Lib.hid hM1
  clear hM1
  go_wp2_with fail
  refine (DEC.out _).mono ?_
  rintro e2 w2 ⟨v2, c, l, av, g, rfl, hg, hO, hav, hS, hll, hM2⟩
  have hl := steps_eq hS hll
  simp only [List.length_cons, List.length_nil, Nat.zero_add, Nat.reduceAdd] at hl
  rw [HL.out] at hl
  obtain ⟨g1, cap, xx, yy, p, p', rfl, hg1, hc1, hc2, c0, c1, c2, c3, c4, c5⟩ := hO.one hav (i := 0) (a := ⟨kind, clock, conn, data, m, seeds⟩) (by rw [hl]; rfl)
  have hlen : l.length = t.length + 1 := by rw [hl]; rfl
  rw [hlen] at hc1 ⊢
  have M2 := Lib.hid ((M1.out.alloc _).trans hM2)
  simp only [Nat.zero_mul, Nat.zero_add] at c0 c1 c2 c3 c4 c5
  generalize htl : t.length = tl at *
  generalize hdl : data.length = dl at *
  generalize hsl : seeds.length = sl at *
  clear hM2 hO hS hl hav hll hg hlen htl hdl hsl
  by_cases k3 : kind = 3
  · subst k3
    have e0 := HT0.out (by omega)
    have e1 := H3.out rfl
    subst e0 e1
    go_wp2_with fail
    go_ret
    exact ⟨rfl, M2.out.alloc _⟩
  by_cases k4 : kind = 4
  · subst k4
    have e0 := HT0.out (by omega)
    have e1 := H4.out rfl
    subst e0 e1
    go_wp2_with fail
    go_ret
    exact ⟨rfl, M2.out.alloc _⟩
  by_cases k2 : kind = 2
  · subst k2
    have e0 := HT0.out (by omega)
    have e1 := H2.out rfl
    subst e0 e1
    go_wp2_with fail
    go_ret
    exact ⟨rfl, M2.out.alloc _⟩
  have e0 := HT1.out (by omega)
  subst e0
  have d2 : ((kind : Int) == 2) = false := by simp; omega
  have d3 : ((kind : Int) == 3) = false := by simp; omega
  have d4 : ((kind : Int) == 4) = false := by simp; omega
  go_wp2_with fail
  go_ret
  exact ⟨rfl, M2.out.alloc _⟩

theorem heads_walk (w : World) (x : Int) (hx : (Lit.int .u8 x).wf = true) (y : Int) (hy : (Lit.int .u8 y).wf = true) (n : Int) (hn : (Lit.int .u8 n).wf = true) :
    Calls Try.prog 5 #[.int .u8 x, .int .u8 y, .int .u8 n] w fun e w' => e = .returned (.bool true) ∧ Mod [] w w' := by
  have key : ∀ z : Int, (Lit.int .u8 z).wf = true → ∃ c : UInt8, z = c.toNat := fun z hz => by
    have h : 0 ≤ z ∧ z ≤ 255 := by simpa [Lit.wf, IntKind.min, IntKind.max, IntKind.signed, IntKind.bits] using hz
    exact ⟨UInt8.ofNat z.toNat, by rw [UInt8.toNat_ofNat']; omega⟩
  obtain ⟨x, rfl⟩ := key x hx
  obtain ⟨y, rfl⟩ := key y hy
  obtain ⟨n, rfl⟩ := key n hn
  exact heads_main w x y n
end Go.Proofs.Ytmiagiemagdnfaa.Script
