/- frame: what the bytes of a request that may be tell. -/
import Derived.Test.YtpjmoomjbcplgaaParse3
import Derived.Test.YtpjmoomjbcplgaaFrameReq
namespace Go.Proofs.Ytpjmoomjbcplgaa.Frame
open Go Go.RowKit Go.YtpjmoomjbcplgaaMem Go.YtpjmoomjbcplgaaLex
set_option linter.unusedVariables false
set_option linter.unusedSimpArgs false

theorem nb_b8 (x : Int) (h : 0 ≤ x ∧ x < 256) : ((b8 x).toNat : Int) = x := by rw [← b8_val]; omega
theorem nb_append {a b : List UInt8} {i : Nat} (h : i < a.length) : nb (a ++ b) i = nb a i := by
  unfold nb; simp [List.getD_eq_getElem?_getD, List.getElem?_append_left h]
theorem nb_take {a : List UInt8} {i m : Nat} (h : i < m) : nb (a.take m) i = nb a i := by
  unfold nb; simp [List.getD_eq_getElem?_getD, List.getElem?_take, h]

theorem bytes_len {q : Req} {n : Int} (h : q.may n) : q.bytes.length = 4 + q.body.length := frame_length _ _
theorem bytes_nb {q : Req} {n : Int} (h : q.may n) : nb q.bytes 0 = 167 ∧ nb q.bytes 1 = 1 ∧ nb q.bytes 2 = 0 ∧ nb q.bytes 3 = q.body.length ∧ (nb q.bytes 4 : Int) = q.op ∧ (nb q.bytes 5 : Int) = q.rule ∧
    (q.op = 1 ∨ q.op = 2 → nb q.bytes 10 = q.key.length) ∧ (q.op = 4 → (nb q.bytes 6 : Int) = q.k) := by
  obtain ⟨l1, l2, l3⟩ := Req.may_len h
  obtain ⟨h0, h1, h2, h3⟩ := h
  have e : q.bytes = [167, 1, UInt8.ofNat (q.body.length / 256), UInt8.ofNat q.body.length, b8 q.op, b8 q.rule] ++ (if q.op = 1 ∨ q.op = 2 then be 4 q.cost ++ [b8 q.key.length] ++ q.key else if q.op = 4 then [b8 q.k] else []) := rfl
  refine ⟨rfl, rfl, ?_, ?_, ?_, ?_, fun h12 => ?_, fun h4 => ?_⟩
  · show (UInt8.ofNat (q.body.length / 256)).toNat = 0
    rw [UInt8.toNat_ofNat']; omega
  · show (UInt8.ofNat q.body.length).toNat = _
    rw [UInt8.toNat_ofNat']; omega
  · show ((b8 q.op).toNat : Int) = _
    exact nb_b8 _ (by omega)
  · show ((b8 q.rule).toNat : Int) = _
    exact nb_b8 _ (by omega)
  · rw [e, if_pos h12]
    show (b8 q.key.length).toNat = _
    have := nb_b8 q.key.length (by omega)
    omega
  · rw [e, if_neg (by omega), if_pos h4]
    show ((b8 q.k).toNat : Int) = _
    exact nb_b8 _ (by omega)

/-- A byte that is as it is in a request's bytes has no fault. -/
theorem fault_good {q : Req} {n : Int} (h : q.may n) {bs : List UInt8} {rules : Int} {j : Nat} (hj : nb bs j = nb q.bytes j) (h3 : 4 ≤ j → nb bs 3 = q.body.length) (hr : j = 5 → q.rule < rules) (hlt : j < 4 + q.body.length) :
    faultAt bs rules j = 0 := by
  obtain ⟨g0, g1, g2, g3, g4, g5, g10, g6⟩ := bytes_nb h
  obtain ⟨l1, l2, l3⟩ := Req.may_len h
  have hm := h
  obtain ⟨h0, h1, h2, hh⟩ := hm
  unfold faultAt
  rw [hj]
  have n0 : ¬ (j = 0 ∧ nb q.bytes j ≠ 167) := by rintro ⟨rfl, h⟩; exact h g0
  have n1 : ¬ (j = 1 ∧ nb q.bytes j ≠ 1) := by rintro ⟨rfl, h⟩; exact h g1
  have n2 : ¬ (j = 2 ∧ nb q.bytes j ≠ 0) := by rintro ⟨rfl, h⟩; exact h g2
  have n3 : ¬ (j = 3 ∧ nb q.bytes j ≠ 2 ∧ nb q.bytes j ≠ 3 ∧ (nb q.bytes j < 7 ∨ 71 < nb q.bytes j)) := by
    rintro ⟨rfl, h⟩
    rw [g3, l3] at h
    split at h
    · omega
    · split at h <;> omega
  have n4 : ¬ (j = 4 ∧ fitsB (nb q.bytes j) (nb bs 3) = false) := by
    rintro ⟨rfl, h⟩
    rw [h3 (by omega)] at h
    unfold fitsB at h
    rcases hh with ⟨ho, _⟩ | ⟨ho, _⟩ | ⟨ho, _⟩
    · rw [if_pos (by omega)] at h
      rw [if_pos ho] at l3
      simp at h; omega
    · rw [if_neg (by omega), if_pos (by omega)] at h
      rw [if_neg (by omega), if_neg (by omega)] at l3
      simp at h; omega
    · rw [if_neg (by omega), if_neg (by omega), if_pos (by omega)] at h
      rw [if_neg (by omega), if_pos (by omega)] at l3
      simp at h; omega
  have n5 : ¬ (j = 5 ∧ rules ≤ (nb q.bytes j : Int)) := by
    rintro ⟨rfl, h⟩
    have := hr rfl
    omega
  have n10 : ¬ (j = 10 ∧ (nb q.bytes j : Int) ≠ nb bs 3 - 7) := by
    rintro ⟨rfl, h⟩
    have e3 := h3 (by omega)
    by_cases h12 : q.op = 1 ∨ q.op = 2
    · rw [if_pos h12] at l3
      have := g10 h12
      omega
    · rw [if_neg h12] at l3
      split at l3 <;> omega
  rw [if_neg n0, if_neg n1, if_neg n2, if_neg n3, if_neg n4, if_neg n5, if_neg n10]

theorem pfxTo_all {bs : List UInt8} {rules : Int} : ∀ {k : Nat}, (∀ j, j < k → faultAt bs rules j = 0) → pfxTo bs rules k = 0
  | 0, _ => rfl
  | k + 1, h => by
    have := pfxTo_all (k := k) (fun j hj => h j (by omega))
    simp [pfxTo, this, h k (by omega)]

theorem num_be4 {x : Nat} (hx : x < 4294967296) : numOf (be 4 x) = x := by
  have e : be 4 x = [UInt8.ofNat (x / 16777216), UInt8.ofNat (x / 65536), UInt8.ofNat (x / 256), UInt8.ofNat (x / 1)] := rfl
  rw [e]
  simp only [numOf, List.foldl_cons, List.foldl_nil, UInt8.toNat_ofNat']
  omega

theorem reqOf_bytes {q : Req} {n : Int} (h : q.may n) (hc : q.cost < 4294967296) (more : List UInt8) : reqOf (q.bytes ++ more) = q := by
  obtain ⟨g0, g1, g2, g3, g4, g5, g10, g6⟩ := bytes_nb h
  obtain ⟨l1, l2, l3⟩ := Req.may_len h
  have hl := bytes_len h
  have hm := h
  obtain ⟨h0, h1, h2, hh⟩ := hm
  have e : q.bytes = [167, 1, UInt8.ofNat (q.body.length / 256), UInt8.ofNat q.body.length, b8 q.op, b8 q.rule] ++ (if q.op = 1 ∨ q.op = 2 then be 4 q.cost ++ [b8 q.key.length] ++ q.key else if q.op = 4 then [b8 q.k] else []) := rfl
  have a4 : nb (q.bytes ++ more) 4 = nb q.bytes 4 := nb_append (by omega)
  have a5 : nb (q.bytes ++ more) 5 = nb q.bytes 5 := nb_append (by omega)
  have a3 : nb (q.bytes ++ more) 3 = nb q.bytes 3 := nb_append (by omega)
  unfold reqOf
  rw [a4, a5, a3, g4, g5, g3]
  obtain ⟨op, rule, cost, key, k⟩ := q
  simp only at *
  by_cases h12 : op = 1 ∨ op = 2
  · have c12 : nb (Req.bytes ⟨op, rule, cost, key, k⟩) 4 = 1 ∨ nb (Req.bytes ⟨op, rule, cost, key, k⟩) 4 = 2 := by omega
    have c4 : ¬ nb (Req.bytes ⟨op, rule, cost, key, k⟩) 4 = 4 := by omega
    rw [if_pos c12, if_pos c12, if_neg c4]
    rw [if_pos h12] at e l3
    have hk : k = 0 := by omega
    have e1 : (Req.bytes ⟨op, rule, cost, key, k⟩ ++ more).drop 6 = be 4 cost ++ ([b8 key.length] ++ (key ++ more)) := by
      rw [e]; simp
    have e2 : (Req.bytes ⟨op, rule, cost, key, k⟩ ++ more).drop 11 = key ++ more := by
      rw [show 11 = 6 + 5 from rfl, ← List.drop_drop, e1, show 5 = 4 + 1 from rfl, ← List.drop_drop, List.drop_left' (be_length 4 cost)]
      rfl
    rw [e1, e2, List.take_left' (be_length 4 cost), num_be4 hc, l3, Nat.add_sub_cancel_left, List.take_left' rfl, hk]
  · have c12 : ¬ (nb (Req.bytes ⟨op, rule, cost, key, k⟩) 4 = 1 ∨ nb (Req.bytes ⟨op, rule, cost, key, k⟩) 4 = 2) := by omega
    rw [if_neg c12, if_neg c12]
    have ec : cost = 0 := by omega
    have ek : key = [] := by
      rcases hh with ⟨ho, _⟩ | ⟨_, _, ho, _⟩ | ⟨_, _, ho, _⟩
      · exact absurd ho h12
      · exact ho
      · exact ho
    by_cases h4 : op = 4
    · rw [if_pos (by omega)]
      have a6 : nb (Req.bytes ⟨op, rule, cost, key, k⟩ ++ more) 6 = nb (Req.bytes ⟨op, rule, cost, key, k⟩) 6 := nb_append (by rw [hl, l3, if_neg h12, if_pos h4]; omega)
      rw [a6, g6 h4, ec, ek]
    · rw [if_neg (by omega)]
      have hk : k = 0 := by omega
      rw [ec, ek, hk]

/-- A request's bytes, with more behind them. -/
theorem parse_bytes {q : Req} {n : Int} (h : q.may n) (hc : q.cost < 4294967296) (more : List UInt8) (rules : Int) :
    parse (q.bytes ++ more) rules = if q.rule < rules then (q, q.bytes.length, 0) else (Req.none, 0, 9) := by
  obtain ⟨l1, l2, l3⟩ := Req.may_len h
  have hl := bytes_len h
  obtain ⟨g0, g1, g2, g3, g4, g5, g10, g6⟩ := bytes_nb h
  have a3 : nb (q.bytes ++ more) 3 = q.body.length := by rw [nb_append (by omega), g3]
  have hlim : lim (q.bytes ++ more) = 4 + q.body.length := by unfold lim; rw [a3, List.length_append]; omega
  have good : ∀ j, j < 4 + q.body.length → (j = 5 → q.rule < rules) → faultAt (q.bytes ++ more) rules j = 0 := fun j hj hr =>
    fault_good h (nb_append (by omega)) (fun _ => a3) hr hj
  by_cases hr : q.rule < rules
  · rw [if_pos hr]
    have hp : pfx (q.bytes ++ more) rules = 0 := by unfold pfx; rw [hlim]; exact pfxTo_all fun j hj => good j hj fun _ => hr
    rw [parse_ok hp (by rw [a3, List.length_append]; omega) (by rw [List.length_append]; omega), reqOf_bytes h hc, a3, hl]
  · rw [if_neg hr]
    have h5 : pfxTo (q.bytes ++ more) rules 5 = 0 := pfxTo_all fun j hj => good j (by omega) (by omega)
    have a5 : (nb (q.bytes ++ more) 5 : Int) = q.rule := by rw [nb_append (by omega), g5]
    have f5 : faultAt (q.bytes ++ more) rules 5 = 9 := by simp [faultAt]; omega
    have h6 : pfxTo (q.bytes ++ more) rules 6 = 9 := by simp [pfxTo, h5, f5] <;> first | exact f5 | (simp [pfxTo] at h5; simp [h5, f5])
    have hp : pfx (q.bytes ++ more) rules = 9 := by unfold pfx; rw [hlim, pfxTo_stay (k := 6) (by rw [h6]; decide) _ (by omega), h6]
    rw [parse_fault (by rw [hp]; decide), hp]

/-- A beginning of a request's bytes. -/
theorem parse_part {q : Req} {n : Int} (h : q.may n) (m : Nat) (hm : m < q.bytes.length) (rules : Int) :
    parse (q.bytes.take m) rules = if q.rule < rules ∨ m ≤ 5 then (Req.none, 0, 0) else (Req.none, 0, 9) := by
  obtain ⟨l1, l2, l3⟩ := Req.may_len h
  have hl := bytes_len h
  obtain ⟨g0, g1, g2, g3, g4, g5, g10, g6⟩ := bytes_nb h
  have hlen : (q.bytes.take m).length = m := by rw [List.length_take]; omega
  have a3 : 4 ≤ m → nb (q.bytes.take m) 3 = q.body.length := fun h => by rw [nb_take (by omega), g3]
  have hlim : lim (q.bytes.take m) = m := by
    unfold lim; rw [hlen]
    by_cases h4 : 4 ≤ m
    · rw [a3 h4]; omega
    · omega
  have good : ∀ j, j < m → (j = 5 → q.rule < rules) → faultAt (q.bytes.take m) rules j = 0 := fun j hj hr =>
    fault_good h (nb_take hj) (fun h => a3 (by omega)) hr (by omega)
  by_cases hr : q.rule < rules ∨ m ≤ 5
  · rw [if_pos hr]
    have hp : pfx (q.bytes.take m) rules = 0 := by unfold pfx; rw [hlim]; exact pfxTo_all fun j hj => good j hj fun h5 => by omega
    refine parse_short hp ?_
    by_cases h4 : 4 ≤ m
    · left; rw [a3 h4, hlen]; omega
    · right; omega
  · rw [if_neg hr]
    have h5 : pfxTo (q.bytes.take m) rules 5 = 0 := pfxTo_all fun j hj => good j (by omega) (by omega)
    have a5 : (nb (q.bytes.take m) 5 : Int) = q.rule := by rw [nb_take (by omega), g5]
    have f5 : faultAt (q.bytes.take m) rules 5 = 9 := by simp [faultAt]; omega
    have h6 : pfxTo (q.bytes.take m) rules 6 = 9 := by simp [pfxTo, h5, f5] <;> first | exact f5 | (simp [pfxTo] at h5; simp [h5, f5])
    have hp : pfx (q.bytes.take m) rules = 9 := by unfold pfx; rw [hlim, pfxTo_stay (k := 6) (by rw [h6]; decide) _ (by omega), h6]
    rw [parse_fault (by rw [hp]; decide), hp]
end Go.Proofs.Ytpjmoomjbcplgaa.Frame
