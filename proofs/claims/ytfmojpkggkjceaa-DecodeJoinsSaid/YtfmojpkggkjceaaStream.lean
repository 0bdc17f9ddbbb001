/- Streams: what a decoder tells byte by byte is what the bytes tell at once. -/
import Derived.Test.YtfmojpkggkjceaaDecAll
namespace Go.Proofs.Ytfmojpkggkjceaa.Frame
open Go Go.RowKit Go.YtfmojpkggkjceaaMem Go.YtfmojpkggkjceaaLex
set_option linter.unusedVariables false
set_option linter.unusedSimpArgs false

theorem fault_take {bs : List UInt8} {rules : Int} {i j : Nat} (h : i < j) : faultAt (bs.take j) rules i = faultAt bs rules i := by
  have e1 : nb (bs.take j) i = nb bs i := nb_take h
  by_cases h4 : 4 ≤ i
  · have e3 : nb (bs.take j) 3 = nb bs 3 := nb_take (by omega)
    unfold faultAt; rw [e1, e3]
  · unfold faultAt
    rw [e1, if_neg (c := i = 4 ∧ _) (by omega), if_neg (c := i = 5 ∧ _) (by omega), if_neg (c := i = 10 ∧ _) (by omega), if_neg (c := i = 4 ∧ _) (by omega), if_neg (c := i = 5 ∧ _) (by omega), if_neg (c := i = 10 ∧ _) (by omega)]
theorem pfxTo_take {bs : List UInt8} {rules : Int} {j : Nat} : ∀ {m : Nat}, m ≤ j → pfxTo (bs.take j) rules m = pfxTo bs rules m
  | 0, _ => rfl
  | m + 1, h => by
    have := pfxTo_take (bs := bs) (rules := rules) (j := j) (m := m) (by omega)
    simp only [pfxTo, this, fault_take (show m < j by omega)]
theorem lim_take {bs : List UInt8} {j : Nat} (h : j ≤ bs.length) : lim (bs.take j) = min j (lim bs) := by
  unfold lim
  rw [List.length_take]
  by_cases h3 : 3 < j
  · rw [nb_take h3]; omega
  · omega
/-- The fault of a beginning. -/
theorem pfx_take {bs : List UInt8} {rules : Int} {j : Nat} (h : j ≤ bs.length) : pfx (bs.take j) rules = pfxTo bs rules (min j (lim bs)) := by
  unfold pfx; rw [lim_take h, pfxTo_take (by omega)]
theorem pfxTo_mono {bs : List UInt8} {rules : Int} {k m : Nat} (h : pfxTo bs rules m = 0) (hk : k ≤ m) : pfxTo bs rules k = 0 := by
  by_cases h0 : pfxTo bs rules k = 0
  · exact h0
  · rw [pfxTo_stay h0 m hk] at h; exact absurd h h0

/-- No fault, and not whole. -/
def open_ (bs : List UInt8) (rules : Int) : Prop := pfx bs rules = 0 ∧ (bs.length < 4 + nb bs 3 ∨ bs.length < 4)
theorem parse_open {bs : List UInt8} {rules : Int} (h : open_ bs rules) : parse bs rules = (Req.none, 0, 0) := parse_short h.1 h.2
/-- Three ways. -/
theorem parse_three (bs : List UInt8) (rules : Int) : (pfx bs rules ≠ 0 ∧ parse bs rules = (Req.none, 0, pfx bs rules)) ∨ (open_ bs rules ∧ parse bs rules = (Req.none, 0, 0)) ∨
    (pfx bs rules = 0 ∧ 4 + nb bs 3 ≤ bs.length ∧ 4 ≤ bs.length ∧ parse bs rules = (reqOf bs, 4 + nb bs 3, 0)) := by
  by_cases hp : pfx bs rules = 0
  · by_cases hs : bs.length < 4 + nb bs 3 ∨ bs.length < 4
    · exact .inr (.inl ⟨⟨hp, hs⟩, parse_short hp hs⟩)
    · exact .inr (.inr ⟨hp, by omega, by omega, parse_ok hp (by omega) (by omega)⟩)
  · exact .inl ⟨hp, parse_fault hp⟩
/-- A beginning of what has no fault is open, if it is shorter than a whole one. -/
theorem open_take {bs : List UInt8} {rules : Int} (hp : pfx bs rules = 0) {j : Nat} (h : j ≤ bs.length) (h4 : j < 4 ∨ j < 4 + nb bs 3) : open_ (bs.take j) rules := by
  refine ⟨by rw [pfx_take h]; exact pfxTo_mono hp (by omega), ?_⟩
  rw [List.length_take]
  by_cases h3 : 3 < j
  · rw [nb_take h3]; omega
  · right; omega
theorem tried_open {pend : List UInt8} {rules : Int} {c : UInt8} (h : open_ (pend ++ [c]) rules) : tried pend rules 0 c = (Req.none, false, 0) := by
  rw [tried_ok, parse_open h]; rfl

/-- A decoder goes over bytes that stay open. -/
theorem runA_open {rules : Int} {s : List UInt8} : ∀ (n k i : Nat), k + n ≤ s.length → (∀ j, k < j → j ≤ k + n → open_ (s.take j) rules) → runA rules (s.drop k) (s.take k) i = runA rules (s.drop (k + n)) (s.take (k + n)) (i + n)
  | 0, k, i, _, _ => rfl
  | n + 1, k, i, h, ho => by
    have hk : k < s.length := by omega
    rw [List.drop_eq_getElem_cons hk, runA_cons]
    have e : s.take k ++ [s[k]] = s.take (k + 1) := (List.take_succ_eq_append_getElem hk).symm
    rw [tried_open (by rw [e]; exact ho (k + 1) (by omega) (by omega)), if_neg (by simp), if_neg (by simp), e]
    have := runA_open (rules := rules) (s := s) n (k + 1) (i + 1) (by omega) (fun j h1 h2 => ho j (by omega) (by omega))
    rw [this, show k + 1 + n = k + (n + 1) by omega, show i + 1 + n = i + (n + 1) by omega]
/-- A stream that begins with a whole request. -/
theorem runA_whole {rules : Int} {s : List UInt8} (hp : pfx s rules = 0) (h1 : 4 + nb s 3 ≤ s.length) (i : Nat) :
    runA rules s [] i = (reqOf s :: (runA rules (s.drop (4 + nb s 3)) [] (i + (4 + nb s 3))).1, (runA rules (s.drop (4 + nb s 3)) [] (i + (4 + nb s 3))).2) := by
  have h := runA_open (rules := rules) (s := s) (3 + nb s 3) 0 i (by omega) (fun j h1 h2 => open_take hp (by omega) (by omega))
  rw [List.drop_zero, List.take_zero, Nat.zero_add] at h
  rw [h]
  have hk : 3 + nb s 3 < s.length := by omega
  rw [List.drop_eq_getElem_cons hk, runA_cons]
  have e : s.take (3 + nb s 3) ++ [s[3 + nb s 3]] = s.take (4 + nb s 3) := by rw [← List.take_succ_eq_append_getElem hk]; congr 1; omega
  have hl : (s.take (4 + nb s 3)).length = 4 + nb s 3 := by rw [List.length_take]; omega
  have e3 : nb (s.take (4 + nb s 3)) 3 = nb s 3 := nb_take (by omega)
  have hpt : pfx (s.take (4 + nb s 3)) rules = 0 := by rw [pfx_take h1]; exact pfxTo_mono hp (by omega)
  have hpar : parse (s.take (4 + nb s 3)) rules = (reqOf (s.take (4 + nb s 3)), 4 + nb s 3, 0) := by
    have := parse_ok hpt (by rw [e3, hl]; omega) (by rw [hl]; omega)
    rw [e3] at this; exact this
  obtain ⟨f1, f2, f3, f4, _⟩ := parse_facts hp h1 (by omega)
  have hreq : reqOf (s.take (4 + nb s 3)) = reqOf s := by
    unfold reqOf
    have hfit := f2
    rw [e3, nb_take (show 4 < 4 + nb s 3 by omega), nb_take (show 5 < 4 + nb s 3 by omega)]
    by_cases h12 : nb s 4 = 1 ∨ nb s 4 = 2
    · have h7 : 7 ≤ nb s 3 := by unfold fitsB at hfit; rw [if_pos h12] at hfit; simpa using hfit
      rw [if_pos h12, if_pos h12, if_neg (show ¬ nb s 4 = 4 by omega), if_pos h12, if_pos h12, if_neg (show ¬ nb s 4 = 4 by omega)]
      congr 1
      · rw [List.drop_take, List.take_take]; congr 2; omega
      · rw [List.drop_take, List.take_take]; congr 1; omega
    · rw [if_neg h12, if_neg h12, if_neg h12, if_neg h12]
      by_cases h4 : nb s 4 = 4
      · have h3 : nb s 3 = 3 := by unfold fitsB at hfit; rw [if_neg h12, if_neg (by omega), if_pos h4] at hfit; simpa using hfit
        rw [if_pos h4, if_pos h4, nb_take (by omega)]
      · rw [if_neg h4, if_neg h4]
  have ht : tried (s.take (3 + nb s 3)) rules 0 s[3 + nb s 3] = (reqOf s, true, 0) := by
    rw [tried_ok, e, hpar, hreq]
    have : decide (0 < 4 + nb s 3) = true := by simp; omega
    simp only [this]
  rw [ht, if_neg (by simp), if_pos rfl, show 3 + nb s 3 + 1 = 4 + nb s 3 by omega, show i + (3 + nb s 3) + 1 = i + (4 + nb s 3) by omega]
/-- A stream that is open. -/
theorem runA_part {rules : Int} {s : List UInt8} (h : open_ s rules) (i : Nat) : runA rules s [] i = ([], i + s.length, 0) := by
  have := runA_open (rules := rules) (s := s) s.length 0 i (by omega) (fun j h1 h2 => open_take h.1 (by omega) (by have := h.2; omega))
  rw [List.drop_zero, List.take_zero, Nat.zero_add, List.drop_length] at this
  rw [this]; rfl
/-- The first byte by which a stream has a fault. -/
theorem first_fault {bs : List UInt8} {rules : Int} : ∀ {m : Nat}, pfxTo bs rules m ≠ 0 → ∃ k, k < m ∧ pfxTo bs rules k = 0 ∧ faultAt bs rules k = pfxTo bs rules m
  | 0, h => absurd rfl h
  | m + 1, h => by
    by_cases h0 : pfxTo bs rules m = 0
    · refine ⟨m, by omega, h0, ?_⟩
      simp only [pfxTo, h0, ne_eq, not_true_eq_false, if_false]
    · obtain ⟨k, h1, h2, h3⟩ := first_fault h0
      refine ⟨k, by omega, h2, ?_⟩
      rw [h3, pfxTo_stay h0 (m + 1) (by omega)]
theorem runA_bad {rules : Int} {s : List UInt8} (h : pfx s rules ≠ 0) (i : Nat) :
    ∃ k, k < s.length ∧ runA rules s [] i = ([], i + (k + 1), pfx s rules) ∧ (∀ j, j ≤ k → open_ (s.take j) rules) ∧ pfx (s.take (k + 1)) rules = pfx s rules := by
  obtain ⟨k, h1, h2, h3⟩ := first_fault (m := lim s) h
  have hk : k < s.length := by unfold lim at h1; omega
  have ho : ∀ j, j ≤ k → open_ (s.take j) rules := fun j hj => by
    refine ⟨by rw [pfx_take (by omega)]; exact pfxTo_mono h2 (by omega), ?_⟩
    rw [List.length_take]
    by_cases h3 : 3 < j
    · rw [nb_take h3]; unfold lim at h1; omega
    · right; omega
  have hpf : pfx (s.take (k + 1)) rules = pfx s rules := by
    rw [pfx_take (by omega), show min (k + 1) (lim s) = k + 1 by omega]
    show (if pfxTo s rules k ≠ 0 then _ else _) = _
    rw [if_neg (by rw [h2]; simp), h3]; rfl
  refine ⟨k, hk, ?_, ho, hpf⟩
  have := runA_open (rules := rules) (s := s) k 0 i (by omega) (fun j h1 h2 => ho j (by omega))
  rw [List.drop_zero, List.take_zero, Nat.zero_add] at this
  rw [this, List.drop_eq_getElem_cons hk, runA_cons]
  have e : s.take k ++ [s[k]] = s.take (k + 1) := (List.take_succ_eq_append_getElem hk).symm
  have ht : tried (s.take k) rules 0 s[k] = (Req.none, false, pfx s rules) := by
    rw [tried_ok, e, parse_fault (by rw [hpf]; exact h), hpf]; rfl
  rw [ht, if_pos h]
  rfl
end Go.Proofs.Ytfmojpkggkjceaa.Frame
