/- frame: answers come back from their bytes, and bytes that are read are their own answer's: no function of the program is walked. -/
import Derived.Test.YtpjmoomjbcplgaaFrameRead4
namespace Go.Proofs.Ytpjmoomjbcplgaa.Frame
open Go Go.RowKit Go.YtpjmoomjbcplgaaMem Go.YtpjmoomjbcplgaaLex
set_option linter.unusedVariables false
set_option linter.unusedSimpArgs false

theorem be_succ (k x : Nat) : be (k + 1) x = be k (x / 256) ++ [UInt8.ofNat x] := by
  unfold be
  rw [List.range_succ, List.map_append, List.map_singleton]
  congr 1
  · refine List.map_congr_left fun j hj => ?_
    have hj : j < k := List.mem_range.1 hj
    rw [show k + 1 - 1 - j = (k - 1 - j) + 1 by omega, Nat.pow_succ, Nat.mul_comm, Nat.div_div_eq_div_mul]
  · rw [show k + 1 - 1 - k = 0 by omega]; simp
theorem num_be : ∀ (k x : Nat), x < 256 ^ k → numOf (be k x) = x
  | 0, x, h => by
    have : x = 0 := by simp at h; omega
    subst this; rfl
  | k + 1, x, h => by
    rw [be_succ, numOf_snoc, num_be k (x / 256) (by rw [Nat.pow_succ] at h; omega), UInt8.toNat_ofNat']
    omega
theorem be_num : ∀ (k : Nat) (bs : List UInt8), bs.length = k → be k (numOf bs) = bs
  | 0, bs, h => by
    obtain rfl := List.eq_nil_of_length_eq_zero h
    rfl
  | k + 1, bs, h => by
    have hne : bs ≠ [] := fun e => by rw [e] at h; cases h
    obtain ⟨ds, c, rfl⟩ : ∃ ds c, bs = ds ++ [c] := ⟨bs.dropLast, bs.getLast hne, (List.dropLast_concat_getLast hne).symm⟩
    have hl : ds.length = k := by simpa using h
    have hc := c.toNat_lt
    rw [numOf_snoc, be_succ, show (numOf ds * 256 + c.toNat) / 256 = numOf ds by omega, be_num k ds hl]
    congr 2
    refine UInt8.toNat_inj.1 ?_
    rw [UInt8.toNat_ofNat']; omega
theorem num8 {x : Nat} (h : x < 18446744073709551616) : numOf (be 8 x) = x := num_be 8 x (by simpa using h)
theorem s64_u64 {x : Int} (h1 : -9223372036854775808 ≤ x) (h2 : x ≤ 9223372036854775807) : s64 (u64 x) = x := by unfold s64 u64 wrap64; omega
theorem u64_s64 {n : Nat} (h : n < 18446744073709551616) : u64 (s64 n) = n := by unfold s64 u64 wrap64; omega
theorem wf64 {x : Int} (h : (Lit.int .i64 x).wf = true) : -9223372036854775808 ≤ x ∧ x ≤ 9223372036854775807 := by
  simp [Lit.wf] at h
  have h1 : IntKind.i64.min = -9223372036854775808 := by decide
  exact ⟨by omega, h.2⟩

/-- A frame of an answer is read by what stands behind its sign. -/
theorem readF_frame (k : UInt8) (rest : List UInt8) (hk : 128 ≤ k.toNat) (h1 : 1 ≤ rest.length) (hl : rest.length < 60000) :
    readF (frame 0xA8 (k :: rest)) = (saidOf (k.toNat - 128) rest).map fun p => (p.1, p.2, rest.length + 5) := by
  have e : frame 0xA8 (k :: rest) = 168 :: 1 :: UInt8.ofNat ((rest.length + 1) / 256) :: UInt8.ofNat (rest.length + 1) :: k :: rest := rfl
  have hsz : sz (frame 0xA8 (k :: rest)) = rest.length + 5 := by
    rw [e]
    show 4 + numOf [UInt8.ofNat ((rest.length + 1) / 256), UInt8.ofNat (rest.length + 1)] = _
    have : numOf [UInt8.ofNat ((rest.length + 1) / 256), UInt8.ofNat (rest.length + 1)] = (UInt8.ofNat ((rest.length + 1) / 256)).toNat * 256 + (UInt8.ofNat (rest.length + 1)).toNat := by simp [numOf]
    rw [this, UInt8.toNat_ofNat', UInt8.toNat_ofNat']
    omega
  have hlen : (frame 0xA8 (k :: rest)).length = rest.length + 5 := by rw [e]; simp
  have n0 : nb (frame 0xA8 (k :: rest)) 0 = 168 := by rw [e]; rfl
  have n1 : nb (frame 0xA8 (k :: rest)) 1 = 1 := by rw [e]; rfl
  have n4 : nb (frame 0xA8 (k :: rest)) 4 = k.toNat := by rw [e]; rfl
  have hd : ((frame 0xA8 (k :: rest)).drop 5).take (rest.length + 5 - 5) = rest := by rw [e]; simp
  unfold readF
  rw [hsz, n0, n1, n4, hlen, if_pos (by omega), hd]
set_option maxRecDepth 8000 in
/-- What is read is a frame. -/
theorem readF_back {bs : List UInt8} {s : Said} {l : List Cnt} {n : Nat} (h : readF bs = some (s, l, n)) :
    ∃ (k : UInt8) (rest : List UInt8), 128 ≤ k.toNat ∧ saidOf (k.toNat - 128) rest = some (s, l) ∧ bs.take n = frame 0xA8 (k :: rest) ∧ n = rest.length + 5 ∧ n ≤ bs.length := by
  unfold readF at h
  split at h
  · rename_i hc
    obtain ⟨h6, h0, h1, hs6, hsl, h4⟩ := hc
    obtain ⟨⟨s', l'⟩, hp, he⟩ := Option.map_eq_some_iff.1 h
    injection he with e1 e2
    injection e2 with e2 e3
    simp only at e1 e2 e3
    subst e1; subst e2; subst e3
    match bs, h6 with
    | a :: b :: c :: d :: k :: x :: r, _ =>
      have n0 : a.toNat = 168 := h0
      have n1 : b.toNat = 1 := h1
      have n4 : 128 ≤ k.toNat := h4
      have hsz : sz (a :: b :: c :: d :: k :: x :: r) = 4 + (c.toNat * 256 + d.toNat) := by
        show 4 + numOf [c, d] = _
        simp [numOf]
      have hc := c.toNat_lt
      have hd := d.toNat_lt
      refine ⟨k, (x :: r).take (sz (a :: b :: c :: d :: k :: x :: r) - 5), n4, hp, ?_, ?_, hsl⟩
      · have hlen : ((x :: r).take (sz (a :: b :: c :: d :: k :: x :: r) - 5)).length = sz (a :: b :: c :: d :: k :: x :: r) - 5 := by
          rw [List.length_take]; simp at hsl ⊢; omega
        unfold frame
        rw [List.length_cons, hlen, hsz]
        have ea : a = 168 := UInt8.toNat_inj.1 n0
        have eb : b = 1 := UInt8.toNat_inj.1 n1
        have ec : UInt8.ofNat ((4 + (c.toNat * 256 + d.toNat) - 5 + 1) / 256) = c := UInt8.toNat_inj.1 (by rw [UInt8.toNat_ofNat']; omega)
        have ed : UInt8.ofNat (4 + (c.toNat * 256 + d.toNat) - 5 + 1) = d := UInt8.toNat_inj.1 (by rw [UInt8.toNat_ofNat']; omega)
        rw [ec, ed, ea, eb]
        obtain ⟨m, hm⟩ : ∃ m, 4 + (c.toNat * 256 + d.toNat) = m + 5 := ⟨4 + (c.toNat * 256 + d.toNat) - 5, by omega⟩
        rw [hm, Nat.add_sub_cancel]
        rfl
      · rw [List.length_take]; simp at hsl ⊢; omega
  · cases h

theorem b8_nat {x : Int} (h : 0 ≤ x ∧ x ≤ 255) : ((b8 x).toNat : Int) = x := by have := b8_val x; omega
theorem at8_one (c : UInt8) (xs ys : List UInt8) (h : xs.length = 8) : at8 (c :: (xs ++ ys)) 1 = s64 (numOf xs) := by
  unfold at8
  rw [List.drop_one, List.tail_cons, List.take_left' h]
theorem drop_one_more (c : UInt8) (xs ys : List UInt8) (m : Nat) (h : xs.length = 8) : at8 (c :: (xs ++ ys)) (9 + m) = at8 (c :: ys) (1 + m) := by
  unfold at8
  rw [show 9 + m = (8 + m) + 1 by omega, show 1 + m = m + 1 by omega, List.drop_succ_cons, List.drop_succ_cons, ← List.drop_drop, List.drop_left' h]
theorem at8_be {c : UInt8} {x : Int} (ys : List UInt8) (h1 : -9223372036854775808 ≤ x ∧ x ≤ 9223372036854775807) : at8 (c :: (be 8 (u64 x) ++ ys)) 1 = x := by
  rw [at8_one _ _ _ (be_length _ _), num8 (u64_lt x), s64_u64 h1.1 h1.2]
theorem ans_read {op v r t : Int} (hop : op = 1 ∨ op = 2) (hv : 1 ≤ v ∧ v ≤ 3) (hr : -9223372036854775808 ≤ r ∧ r ≤ 9223372036854775807) (ht : -9223372036854775808 ≤ t ∧ t ≤ 9223372036854775807) :
    readF (frame 0xA8 ([b8 (bits .or .i64 op 128), b8 v] ++ be 8 (u64 r) ++ be 8 (u64 t))) = some (⟨op, 0, v, r, t, 0, 0, 0, 0, 0, 0⟩, [], 22) := by
  have e : [b8 (bits .or .i64 op 128), b8 v] ++ be 8 (u64 r) ++ be 8 (u64 t) = b8 (bits .or .i64 op 128) :: (b8 v :: (be 8 (u64 r) ++ be 8 (u64 t))) := by simp
  have hl : (b8 v :: (be 8 (u64 r) ++ be 8 (u64 t))).length = 17 := by simp [be_length]
  have hk : (b8 (bits .or .i64 op 128)).toNat = 128 + op.toNat := by rcases hop with rfl | rfl <;> decide
  have hv0 : nb (b8 v :: (be 8 (u64 r) ++ be 8 (u64 t))) 0 = v.toNat := by
    show (b8 v).toNat = _
    have := b8_nat (x := v) (by omega); omega
  have a1 : at8 (b8 v :: (be 8 (u64 r) ++ be 8 (u64 t))) 1 = r := at8_be _ hr
  have a9 : at8 (b8 v :: (be 8 (u64 r) ++ be 8 (u64 t))) 9 = t := by
    have h1 := drop_one_more (b8 v) (be 8 (u64 r)) (be 8 (u64 t)) 0 (be_length _ _)
    have h2 := at8_be (c := b8 v) [] ht
    rw [List.append_nil] at h2
    exact h1.trans h2
  rw [e, readF_frame _ _ (by rw [hk]; omega) (by rw [hl]; omega) (by rw [hl]; omega), hk, hl]
  unfold saidOf
  rw [hl, hv0, a1, a9, if_pos (by omega)]
  simp only [Option.map_some]
  congr 2
  rw [show ((128 + op.toNat - 128 : Nat) : Int) = op by omega, show ((v.toNat : Nat) : Int) = v by omega]
theorem tot_read {rule a b c d e : Int} (hr : 0 ≤ rule ∧ rule ≤ 255) (ha : -9223372036854775808 ≤ a ∧ a ≤ 9223372036854775807) (hb : -9223372036854775808 ≤ b ∧ b ≤ 9223372036854775807) (hc : -9223372036854775808 ≤ c ∧ c ≤ 9223372036854775807)
    (hd : -9223372036854775808 ≤ d ∧ d ≤ 9223372036854775807) (he : -9223372036854775808 ≤ e ∧ e ≤ 9223372036854775807) :
    readF (frame 0xA8 ([131, b8 rule] ++ nums [a, b, c, d, e])) = some (⟨3, rule, 0, 0, 0, a, b, c, d, e, 0⟩, [], 46) := by
  have q : [131, b8 rule] ++ nums [a, b, c, d, e] = 131 :: (b8 rule :: (be 8 (u64 a) ++ (be 8 (u64 b) ++ (be 8 (u64 c) ++ (be 8 (u64 d) ++ (be 8 (u64 e) ++ [])))))) := by simp [nums]
  have hl : (b8 rule :: (be 8 (u64 a) ++ (be 8 (u64 b) ++ (be 8 (u64 c) ++ (be 8 (u64 d) ++ (be 8 (u64 e) ++ [])))))).length = 41 := by simp [be_length]
  have hv0 : nb (b8 rule :: (be 8 (u64 a) ++ (be 8 (u64 b) ++ (be 8 (u64 c) ++ (be 8 (u64 d) ++ (be 8 (u64 e) ++ [])))))) 0 = rule.toNat := by
    show (b8 rule).toNat = _
    have := b8_nat hr; omega
  have a1 := at8_be (c := b8 rule) (be 8 (u64 b) ++ (be 8 (u64 c) ++ (be 8 (u64 d) ++ (be 8 (u64 e) ++ [])))) ha
  have a2 : at8 (b8 rule :: (be 8 (u64 a) ++ (be 8 (u64 b) ++ (be 8 (u64 c) ++ (be 8 (u64 d) ++ (be 8 (u64 e) ++ [])))))) 9 = b :=
    (drop_one_more _ _ _ 0 (be_length _ _)).trans (at8_be _ hb)
  have a3 : at8 (b8 rule :: (be 8 (u64 a) ++ (be 8 (u64 b) ++ (be 8 (u64 c) ++ (be 8 (u64 d) ++ (be 8 (u64 e) ++ [])))))) 17 = c :=
    (drop_one_more _ _ _ 8 (be_length _ _)).trans ((drop_one_more _ _ _ 0 (be_length _ _)).trans (at8_be _ hc))
  have a4 : at8 (b8 rule :: (be 8 (u64 a) ++ (be 8 (u64 b) ++ (be 8 (u64 c) ++ (be 8 (u64 d) ++ (be 8 (u64 e) ++ [])))))) 25 = d :=
    (drop_one_more _ _ _ 16 (be_length _ _)).trans ((drop_one_more _ _ _ 8 (be_length _ _)).trans ((drop_one_more _ _ _ 0 (be_length _ _)).trans (at8_be _ hd)))
  have a5 : at8 (b8 rule :: (be 8 (u64 a) ++ (be 8 (u64 b) ++ (be 8 (u64 c) ++ (be 8 (u64 d) ++ (be 8 (u64 e) ++ [])))))) 33 = e :=
    (drop_one_more _ _ _ 24 (be_length _ _)).trans ((drop_one_more _ _ _ 16 (be_length _ _)).trans ((drop_one_more _ _ _ 8 (be_length _ _)).trans ((drop_one_more _ _ _ 0 (be_length _ _)).trans (at8_be _ he))))
  rw [q, readF_frame _ _ (by decide) (by rw [hl]; omega) (by rw [hl]; omega), hl, show (131 : UInt8).toNat - 128 = 3 from rfl]
  unfold saidOf
  rw [hl, hv0, a1, a2, a3, a4, a5, if_neg (by omega), if_pos (by omega)]
  simp only [Option.map_some]
  congr 2
  rw [show ((rule.toNat : Nat) : Int) = rule by omega]
  rfl
end Go.Proofs.Ytpjmoomjbcplgaa.Frame
