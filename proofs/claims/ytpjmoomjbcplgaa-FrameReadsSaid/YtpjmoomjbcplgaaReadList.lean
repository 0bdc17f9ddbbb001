/- frame: lists of counts come back from their bytes: no function of the program is walked. -/
import Derived.Test.YtpjmoomjbcplgaaReadBack
namespace Go.Proofs.Ytpjmoomjbcplgaa.Frame
open Go Go.RowKit Go.YtpjmoomjbcplgaaMem Go.YtpjmoomjbcplgaaLex
set_option linter.unusedVariables false
set_option linter.unusedSimpArgs false

def fits64 (x : Int) : Prop := -9223372036854775808 ≤ x ∧ x ≤ 9223372036854775807
theorem drop_past {α : Type} (a b : List α) (i n : Nat) (h : a.length = n) : (a ++ b).drop (n + i) = b.drop i := by
  rw [← List.drop_drop, List.drop_left' h]
theorem cnt_at (p rest : List UInt8) (q : Cnt) {m : Nat} (hm : p.length = m) (hk : q.key.length ≤ 64) (hn : fits64 q.n) (he : fits64 q.e) :
    okAt (p ++ (q.bytes ++ rest)) m = true ∧ nb (p ++ (q.bytes ++ rest)) m = q.key.length ∧ cntAt (p ++ (q.bytes ++ rest)) m = q := by
  obtain ⟨key, n, e⟩ := q
  simp only at hk hn he
  have hb : (b8 (key.length : Int)).toNat = key.length := by have := b8_nat (x := (key.length : Int)) (by omega); omega
  have hx : Cnt.bytes ⟨key, n, e⟩ ++ rest = b8 key.length :: (key ++ (be 8 (u64 n) ++ (be 8 (u64 e) ++ rest))) := by simp [Cnt.bytes]
  rw [hx]
  have h0 : nb (p ++ b8 key.length :: (key ++ (be 8 (u64 n) ++ (be 8 (u64 e) ++ rest)))) m = key.length := by
    unfold nb
    rw [List.getD_eq_getElem?_getD, List.getElem?_append_right (by omega), hm, Nat.sub_self, List.getElem?_cons_zero]
    exact hb
  have d1 : (p ++ b8 key.length :: (key ++ (be 8 (u64 n) ++ (be 8 (u64 e) ++ rest)))).drop (m + 1) = key ++ (be 8 (u64 n) ++ (be 8 (u64 e) ++ rest)) := by
    rw [drop_past _ _ _ _ hm]; rfl
  have d2 : (p ++ b8 key.length :: (key ++ (be 8 (u64 n) ++ (be 8 (u64 e) ++ rest)))).drop (m + 1 + key.length) = be 8 (u64 n) ++ (be 8 (u64 e) ++ rest) := by
    rw [← List.drop_drop, d1, List.drop_left' rfl]
  have d3 : (p ++ b8 key.length :: (key ++ (be 8 (u64 n) ++ (be 8 (u64 e) ++ rest)))).drop (m + 9 + key.length) = be 8 (u64 e) ++ rest := by
    rw [show m + 9 + key.length = m + 1 + key.length + 8 by omega, ← List.drop_drop, d2, List.drop_left' (be_length _ _)]
  refine ⟨?_, h0, ?_⟩
  · unfold okAt
    rw [h0]
    simp [be_length]; omega
  · unfold cntAt
    rw [h0, d1, d2, d3, List.take_left' rfl, List.take_left' (be_length _ _), List.take_left' (be_length _ _), num8 (u64_lt n), num8 (u64_lt e), s64_u64 hn.1 hn.2, s64_u64 he.1 he.2]
theorem pre_listed (l : List Cnt) (hk : ∀ q, q ∈ l → q.key.length ≤ 64 ∧ fits64 q.n ∧ fits64 q.e) : ∀ j, j ≤ l.length → pre (listed l) j = some (l.take j, (listed (l.take j)).length)
  | 0, _ => rfl
  | j + 1, hj => by
    obtain ⟨q, hq⟩ : ∃ q, l[j]? = some q := ⟨_, List.getElem?_eq_getElem (by omega)⟩
    obtain ⟨h1, h2, h3⟩ := hk q (List.mem_of_getElem? hq)
    have htk : l.take (j + 1) = l.take j ++ [q] := by rw [List.take_add_one, hq]; rfl
    have hsp : listed l = listed (l.take j) ++ (q.bytes ++ listed (l.drop (j + 1))) := by
      have : l = l.take j ++ ([q] ++ l.drop (j + 1)) := by rw [← List.append_assoc, ← htk, List.take_append_drop]
      conv => lhs; rw [this]
      simp [listed]
    obtain ⟨c1, c2, c3⟩ := cnt_at (listed (l.take j)) (listed (l.drop (j + 1))) q rfl h1 h2 h3
    have hb : q.bytes.length = 17 + q.key.length := by simp [Cnt.bytes, be_length]; omega
    unfold pre
    rw [pre_listed l hk j (by omega)]
    simp only
    rw [hsp, c1, c2, c3, if_pos rfl, htk, listed_snoc, List.length_append, hb]
    congr 2; omega
theorem listOf_listed (l : List Cnt) (hk : ∀ q, q ∈ l → q.key.length ≤ 64 ∧ fits64 q.n ∧ fits64 q.e) : listOf (listed l) l.length = some l := by
  unfold listOf
  rw [pre_listed l hk l.length (Nat.le_refl _), List.take_length]
  simp
theorem list_read {rule : Int} (l : List Cnt) (hr : 0 ≤ rule ∧ rule ≤ 255) (hl : l.length ≤ 255) (hk : ∀ q, q ∈ l → q.key.length ≤ 64 ∧ fits64 q.n ∧ fits64 q.e) :
    readF (frame 0xA8 ([132, b8 rule, b8 l.length] ++ listed l)) = some (⟨4, rule, 0, 0, 0, 0, 0, 0, 0, 0, 0⟩, l, (listed l).length + 7) := by
  have hll := listed_le l fun q hq => (hk q hq).1
  have e : [132, b8 rule, b8 l.length] ++ listed l = 132 :: (b8 rule :: b8 l.length :: listed l) := by simp
  have hlen : (b8 rule :: b8 l.length :: listed l).length = (listed l).length + 2 := by simp
  have h0 : nb (b8 rule :: b8 l.length :: listed l) 0 = rule.toNat := by
    show (b8 rule).toNat = _
    have := b8_nat hr; omega
  have h1 : nb (b8 rule :: b8 l.length :: listed l) 1 = l.length := by
    show (b8 l.length).toNat = _
    have := b8_nat (x := (l.length : Int)) (by omega); omega
  rw [e, readF_frame _ _ (by decide) (by rw [hlen]; omega) (by rw [hlen]; omega), hlen, show (132 : UInt8).toNat - 128 = 4 from rfl]
  unfold saidOf
  rw [hlen, h0, h1, if_neg (by omega), if_neg (by omega), if_pos (by omega), show (b8 rule :: b8 l.length :: listed l).drop 2 = listed l from rfl, listOf_listed l hk]
  simp only [Option.map_some]
  congr 2
  rw [show ((rule.toNat : Nat) : Int) = rule by omega]
  rfl

theorem own_in {w : World} {B n c : Nat} {a : Option Addr} {l : List Cnt} (h : OwnC w B (.slice a n c) l) : InC w a l := fun i q hq => by
  rcases h.2 with ⟨_, h0⟩ | ⟨g, cap, cur, hv, h1, h2, h3, h4, h5, h6⟩
  · obtain rfl := List.eq_nil_of_length_eq_zero h0
    simp at hq
  · injection hv with e1 e2 e3
    subst e1
    refine ⟨g, 0, rfl, lt_of_some h2, fun j u hu => ?_⟩
    have hj : j < 3 := (List.getElem?_eq_some_iff.1 hu).1
    have hg : (cflat l)[3 * i + j]? = some u := by
      clear h h1 h2 h3 h4 h5 h6 e2 e3
      induction l generalizing i with
      | nil => simp at hq
      | cons p l ih =>
        have hc : cflat (p :: l) = p.cells ++ cflat l := rfl
        rw [hc]
        cases i with
        | zero =>
          simp only [List.getElem?_cons_zero, Option.some.injEq] at hq
          subst hq
          rw [Nat.mul_zero, Nat.zero_add, List.getElem?_append_left (show j < 3 from hj)]; exact hu
        | succ i =>
          rw [List.getElem?_append_right (by show 3 ≤ _; omega), show 3 * (i + 1) + j - p.cells.length = 3 * i + j by show 3 * (i + 1) + j - 3 = _; omega]
          exact ih i (by simpa using hq)
    have := h.cells (g := g) rfl (3 * i + j) u hg
    rw [add_eq, Nat.zero_add] at this
    rw [Nat.zero_add, Nat.mul_comm]; exact this
theorem cnt_back {bs : List UInt8} {m : Nat} (h : okAt bs m = true) : (cntAt bs m).bytes = (bs.drop m).take (17 + nb bs m) ∧ (cntAt bs m).key.length = nb bs m ∧ nb bs m ≤ 64 ∧ m + 17 + nb bs m ≤ bs.length := by
  simp only [okAt, Bool.and_eq_true, decide_eq_true_eq] at h
  obtain ⟨⟨h1, h2⟩, h3⟩ := h
  have hkl : ((bs.drop (m + 1)).take (nb bs m)).length = nb bs m := by simp; omega
  have l1 : ((bs.drop (m + 1 + nb bs m)).take 8).length = 8 := by simp; omega
  have l2 : ((bs.drop (m + 9 + nb bs m)).take 8).length = 8 := by simp; omega
  have n1 : numOf ((bs.drop (m + 1 + nb bs m)).take 8) < 18446744073709551616 := by have := numOf_lt ((bs.drop (m + 1 + nb bs m)).take 8); rw [l1] at this; simpa using this
  have n2 : numOf ((bs.drop (m + 9 + nb bs m)).take 8) < 18446744073709551616 := by have := numOf_lt ((bs.drop (m + 9 + nb bs m)).take 8); rw [l2] at this; simpa using this
  refine ⟨?_, hkl, h2, h3⟩
  have hb : b8 ((nb bs m : Nat) : Int) = bs[m]'(by omega) := by
    refine UInt8.toNat_inj.1 ?_
    have e1 := b8_nat (x := ((nb bs m : Nat) : Int)) (by omega)
    have e2 : nb bs m = (bs[m]'(by omega)).toNat := by unfold nb; rw [List.getD_eq_getElem?_getD, List.getElem?_eq_getElem (by omega)]; rfl
    omega
  have hd : bs.drop m = bs[m]'(by omega) :: bs.drop (m + 1) := List.drop_eq_getElem_cons (by omega)
  unfold Cnt.bytes cntAt
  simp only
  rw [hkl, u64_s64 n1, u64_s64 n2, be_num 8 _ l1, be_num 8 _ l2, hb, hd, show 17 + nb bs m = (nb bs m + (8 + 8)) + 1 by omega, List.take_succ_cons]
  rw [List.take_add (i := nb bs m) (j := 8 + 8), List.take_add (i := 8) (j := 8), List.drop_drop, List.drop_drop, show m + 1 + nb bs m + 8 = m + 9 + nb bs m by omega]
  simp
theorem pre_back {bs : List UInt8} : ∀ {j : Nat} {l : List Cnt} {m : Nat}, pre bs j = some (l, m) → listed l = bs.take m ∧ ∀ q, q ∈ l → q.key.length ≤ 64
  | 0, l, m, h => by
    simp only [pre, Option.some.injEq, Prod.mk.injEq] at h
    obtain ⟨rfl, rfl⟩ := h
    exact ⟨rfl, fun q h => by simp at h⟩
  | j + 1, l, m, h => by
    unfold pre at h
    split at h
    · cases h
    · rename_i l' m' h'
      split at h
      · rename_i hok
        injection h with h
        injection h with h1 h2
        subst h1; subst h2
        obtain ⟨i1, i2⟩ := pre_back h'
        obtain ⟨c1, c2, c3, c4⟩ := cnt_back hok
        refine ⟨?_, fun q hq => ?_⟩
        · rw [listed_snoc, i1, c1, Nat.add_assoc]; exact List.take_add.symm
        · rcases List.mem_append.1 hq with h | h
          · exact i2 q h
          · rw [List.mem_singleton.1 h, c2]; exact c3
      · cases h
theorem listOf_back {bs : List UInt8} {n : Nat} {l : List Cnt} (h : listOf bs n = some l) : listed l = bs ∧ (∀ q, q ∈ l → q.key.length ≤ 64) ∧ l.length = n := by
  unfold listOf at h
  split at h
  · cases h
  · rename_i l' m hp
    split at h
    · rename_i hm
      injection h with h
      subst h
      obtain ⟨i1, i2⟩ := pre_back hp
      exact ⟨by rw [i1, hm, List.take_length], i2, (pre_len hp).1⟩
    · cases h
end Go.Proofs.Ytpjmoomjbcplgaa.Frame
