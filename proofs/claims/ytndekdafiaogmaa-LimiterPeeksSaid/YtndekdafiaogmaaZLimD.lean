/- limiter's laws: plain facts: peeks beside checks; a key without a cell; how long it is to be waited. -/
import Derived.Test.YtndekdafiaogmaaZLimC
section
namespace Go.Proofs.Ytndekdafiaogmaa.Lim
open Go Go.RowKit Go.YtndekdafiaogmaaMem Go.YtndekdafiaogmaaLex Go.Proofs.Ytndekdafiaogmaa.Hash Go.Proofs.Ytndekdafiaogmaa.Arith Go.Proofs.Ytndekdafiaogmaa.Index Go.Proofs.Ytndekdafiaogmaa.Cell Go.Proofs.Ytndekdafiaogmaa.Slot
open Go.Proofs.Ytndekdafiaogmaa.Pool (PS putP remP pairs PB PoolAt firstIdle)
open Go.Proofs.Ytndekdafiaogmaa.Ring (Rs RiB RingAt estS addR waitS waitK massS massTo fromTo fromS eldestS slotNo leastV countV Small)
open Go.Proofs.Ytndekdafiaogmaa.Sum (Ent OkE SB SumAt countE leastOf)
set_option linter.unusedVariables false
set_option linter.unusedSimpArgs false

/-- A limiter that was only asked what time it is, since. -/
def Near (s m : Lm) (now : Nat) : Prop := ∃ t : Nat, t ≤ now ∧ s = m.to (t : Int)
theorem lm_to_zero (m : Lm) : m.to ((0 : Nat) : Int) = m := by
  show { m with ring := { m.ring with now := max m.ring.now ((0 : Nat) : Int).toNat } } = m
  rw [show max m.ring.now ((0 : Nat) : Int).toNat = m.ring.now by omega]
theorem lm_to_to (m : Lm) {t u : Nat} (h : t ≤ u) : (m.to (t : Int)).to (u : Int) = m.to (u : Int) := by
  show ({ m with ring := { m.ring with now := max (max m.ring.now ((t : Int).toNat)) ((u : Int).toNat) } } : Lm) = { m with ring := { m.ring with now := max m.ring.now ((u : Int).toNat) } }
  rw [show max (max m.ring.now ((t : Int).toNat)) ((u : Int).toNat) = max m.ring.now ((u : Int).toNat) by omega]
theorem lm_to_count (m : Lm) (t v : Int) : (m.to t).count v = (m.count v).to t := by
  unfold Lm.count
  split
  · rfl
  · split <;> rfl
theorem Near.refl (s : Lm) (now : Nat) : Near s s now := ⟨0, Nat.zero_le _, (lm_to_zero s).symm⟩
theorem Near.later {s m : Lm} {now u : Nat} (h : Near s m now) (hu : now ≤ u) : Near s m u := by
  obtain ⟨t, ht, e⟩ := h
  exact ⟨t, by omega, e⟩
theorem Near.peek {c : Cf} {s m : Lm} {now : Nat} (h : Near s m now) (held : Int) (key : List UInt8) (cost : Int) : Near (peek c s (now : Int) held key cost).2 m now := by
  obtain ⟨t, ht, rfl⟩ := h
  unfold Lim.peek
  split
  · exact ⟨t, ht, rfl⟩
  · exact ⟨now, Nat.le_refl _, lm_to_to m ht⟩
/-- Checks answer alike. -/
theorem Near.check {c : Cf} {s m : Lm} {now : Nat} (h : Near s m now) (held : Int) (key : List UInt8) (cost : Int) :
    (check c s (now : Int) held key cost).1 = (check c m (now : Int) held key cost).1 ∧ (check c s (now : Int) held key cost).2.1 = (check c m (now : Int) held key cost).2.1 ∧ Near (check c s (now : Int) held key cost).2.2 (check c m (now : Int) held key cost).2.2 now := by
  obtain ⟨t, ht, rfl⟩ := h
  unfold Lim.check
  split
  · exact ⟨rfl, rfl, t, ht, lm_to_count m _ _⟩
  · rw [lm_to_to m ht]
    exact ⟨rfl, rfl, Near.refl _ _⟩
theorem Near.pool {s m : Lm} {now : Nat} (h : Near s m now) : s.pool = m.pool ∧ s.E = m.E ∧ s.t = m.t ∧ s.al = m.al ∧ s.de = m.de ∧ s.bad = m.bad := by
  obtain ⟨t, _, rfl⟩ := h
  exact ⟨rfl, rfl, rfl, rfl, rfl, rfl⟩
section
variable {c : Cf} {s : Lm} {K : Nat}
theorem Inv.cell (h : Inv c s K) (hc : c.Ok) (i : Nat) : CellIn c.r.pace K s.ring.now (s.pool.C.getD i .zero) := by
  rw [List.getD_eq_getElem?_getD]
  cases hcc : s.pool.C[i]? with
  | none => exact zero_in (bu_pos hc) (by omega) (by omega)
  | some y => exact h.cells y (List.mem_of_getElem? hcc)
/-- A peek tells what a check of a key with a cell would be told. -/
theorem peek_check (h : Inv c s K) (hc : c.Ok) {now : Nat} (hn : s.ring.now ≤ now) {held : Int} {key : List UInt8} {cost : Int} {i : Nat} (hp : placeOf s.pool.S key = some i) :
    (check c s now held key cost).1.verdict = (peek c s now held key cost).1.verdict ∧ (check c s now held key cost).1.retry = (peek c s now held key cost).1.retry ∧ ((check c s now held key cost).1.verdict = 2 → (check c s now held key cost).1.remaining = (peek c s now held key cost).1.remaining) := by
  unfold Lim.check Lim.peek
  cases hf : refuse c.r (now : Int) held cost with
  | some a => exact ⟨rfl, rfl, fun _ => rfl⟩
  | none =>
    obtain ⟨hcost, hnow, _⟩ := refuse_none hf
    have hnow' : now < 4611686018427387904 := by omega
    have hbig := h.big
    obtain ⟨t1, t2⟩ := h.to hn hnow'
    have ht := hc.tame (now := (now : Int)) (by omega)
    have hcell := t1.cell hc i
    rw [t2] at hcell
    have hm := hcell.mild ht (by omega)
    have hs : settle c ((s.to (now : Int)).offered c key cost) now key = (some i, [], (s.to (now : Int)).offered c key cost) := by
      unfold settle
      rw [show placeOf ((s.to (now : Int)).offered c key cost).pool.S key = some i from hp]
    have hq : peekC c (s.to (now : Int)) now key = some (s.pool.C.getD i .zero) := by
      unfold peekC
      rw [show placeOf (s.to (now : Int)).pool.S key = some i from hp]
      rfl
    simp only [hs]
    unfold peekA
    rw [hq]
    have hm2 : Mild (s.pool.C.getD i .zero) := hm
    have hwr := wait_room hm2 ht (cost := cost) hcost
    have hw0 := wait_nonneg (x := s.pool.C.getD i .zero) (p := c.r.pace) (now := (now : Int)) (cost := cost)
    show (cellAsk c.r (s.pool.C.getD i .zero) now cost).1.verdict = _ ∧ (cellAsk c.r (s.pool.C.getD i .zero) now cost).1.retry = _ ∧ ((cellAsk c.r (s.pool.C.getD i .zero) now cost).1.verdict = 2 → (cellAsk c.r (s.pool.C.getD i .zero) now cost).1.remaining = _)
    generalize s.pool.C.getD i .zero = x at *
    unfold cellAsk
    by_cases hle : cost ≤ x.room c.r.pace now
    · rw [if_pos hle]
      have hz := hwr.2 hle
      exact ⟨(if_neg (show ¬ 0 < x.wait c.r.pace now cost by omega)).symm, hz.symm, fun hh => by simp at hh⟩
    · rw [if_neg hle]
      have hz : ¬ x.wait c.r.pace now cost = 0 := fun hh => hle (hwr.1 hh)
      exact ⟨(if_pos (show 0 < x.wait c.r.pace now cost by omega)).symm, rfl, fun _ => rfl⟩
/-- A key that neither has nor gets a cell is allowed what some row has room for. -/
theorem check_row (h : Inv c s K) (hr : RingOf c s.ring) (hl : c.r.limit ≤ 1000000) {now : Nat} (hn : s.ring.now ≤ now) {key : List UInt8} {cost : Int} (hf : refuse c.r now 0 cost = none) {row : Nat} (hrow : row < c.R.length)
    (hev : (check c s now 0 key cost).2.1 = []) (hno : placeOf (check c s now 0 key cost).2.2.pool.S key = none) (hm : massS c.R c.wd (s.to (now : Int)).ring row key + cost ≤ c.r.limit) : (check c s now 0 key cost).1.verdict = 1 := by
  obtain ⟨hcost, hnow, _⟩ := refuse_none hf
  have hnow' : now < 4611686018427387904 := by omega
  have hbig := h.big
  obtain ⟨t1, t2⟩ := h.to hn hnow'
  have hr' : RingOf c (s.to (now : Int)).ring := RingOf.rk (x := s.ring) hr rfl
  have he := est_le_mass (wd := c.wd) t1.cnt (by omega) hr'.2.2.2 hrow key
  have he0 := estS_upto (R := c.R) (wd := c.wd) t1.cnt (by omega) hr'.2.2.2 key
  have e : check c s now 0 key cost = ((answer c (settle c ((s.to (now : Int)).offered c key cost) now key).1 (settle c ((s.to (now : Int)).offered c key cost) now key).2.2 now key cost).1, (settle c ((s.to (now : Int)).offered c key cost) now key).2.1, (answer c (settle c ((s.to (now : Int)).offered c key cost) now key).1 (settle c ((s.to (now : Int)).offered c key cost) now key).2.2 now key cost).2.count (answer c (settle c ((s.to (now : Int)).offered c key cost) now key).1 (settle c ((s.to (now : Int)).offered c key cost) now key).2.2 now key cost).1.verdict) := by unfold check; rw [hf]
  rw [e] at hev hno ⊢
  simp only at hev hno ⊢
  rw [(count_facts _ _).1] at hno
  have hk := (answer_keeps c (settle c ((s.to (now : Int)).offered c key cost) now key).1 (settle c ((s.to (now : Int)).offered c key cost) now key).2.2 now key cost).2.2.2.1
  rw [hk] at hno
  clear e hk
  have hs : settle c ((s.to (now : Int)).offered c key cost) now key = (none, [], (s.to (now : Int)).offered c key cost) := by
    unfold settle at hev hno ⊢
    cases hp : placeOf ((s.to (now : Int)).offered c key cost).pool.S key with
    | some i => rw [hp] at hno; simp only at hno; rw [hp] at hno; cases hno
    | none =>
      rw [hp] at hev
      simp only at hev ⊢
      by_cases hfl : ((s.to (now : Int)).offered c key cost).pool.fl = []
      · rw [if_pos hfl] at hev ⊢
        cases hv : victim c ((s.to (now : Int)).offered c key cost) now key with
        | none => rfl
        | some out => rw [hv] at hev; simp at hev
      · rw [if_neg hfl] at hev; simp at hev
  rw [hs]
  show (ringAsk c (s.to (now : Int)).ring key cost).1.verdict = 1
  unfold ringAsk
  rw [sum_in (by unfold I64; omega), if_pos (by omega)]
end
/-- How long it is to be waited later on. -/
theorem wait_later {x : Cell} {p : Pace} {now d cost : Int} (hx : Mild x) (hp : Tame p now) (hp2 : Tame p (now + d)) (hc : 1 ≤ cost ∧ cost ≤ p.burst) (hd : 0 ≤ d) : x.wait p (now + d) cost = max (x.wait p now cost - d) 0 := by
  have hB : 0 ≤ (p.burst - cost) * p.unit := Int.mul_nonneg (by omega) (by have := hp.unit; omega)
  have hl1 : x.lag p now cost = max (x.full - now - (p.burst - cost) * p.unit) 0 := by unfold Cell.lag; omega
  have hl2 : x.lag p (now + d) cost = max (x.full - now - d - (p.burst - cost) * p.unit) 0 := by unfold Cell.lag; omega
  have hsi : sum x.since p.window = x.since + p.window := sum_in (by have := hx.since; have := hp.window; unfold I64; omega)
  unfold Cell.wait
  rw [hl1, hl2]
  have y1 : x.young p now = true ↔ now < x.since + p.window := by unfold Cell.young; rw [hsi]; simp
  have y2 : x.young p (now + d) = true ↔ now + d < x.since + p.window := by unfold Cell.young; rw [hsi]; simp
  simp only [y1, y2]
  split <;> split <;> omega
end Go.Proofs.Ytndekdafiaogmaa.Lim
end
