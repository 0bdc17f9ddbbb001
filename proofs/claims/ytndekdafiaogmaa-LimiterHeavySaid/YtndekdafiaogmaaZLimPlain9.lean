/- limiter's laws: plain facts: a heavy key takes a light one's cell. -/
import Derived.Test.YtndekdafiaogmaaZLimPlain8
section
namespace Go.Proofs.Ytndekdafiaogmaa.Lim
open Go Go.RowKit Go.YtndekdafiaogmaaMem Go.YtndekdafiaogmaaLex Go.Proofs.Ytndekdafiaogmaa.Hash Go.Proofs.Ytndekdafiaogmaa.Arith Go.Proofs.Ytndekdafiaogmaa.Index Go.Proofs.Ytndekdafiaogmaa.Cell Go.Proofs.Ytndekdafiaogmaa.Slot
open Go.Proofs.Ytndekdafiaogmaa.Pool (PS putP remP pairs PB PoolAt firstIdle)
open Go.Proofs.Ytndekdafiaogmaa.Ring (Rs RiB RingAt estS addR waitS waitK massS massTo fromTo fromS eldestS slotNo leastV countV Small ring0)
open Go.Proofs.Ytndekdafiaogmaa.Sum (Ent OkE SB SumAt countE leastOf)
set_option linter.unusedVariables false
set_option linter.unusedSimpArgs false

def lightK : List UInt8 := [108, 105, 103, 104, 116]
def heavyK : List UInt8 := [104, 101, 97, 118, 121]
def E1 : List Ent := [⟨lightK, 1, 0⟩]
def E2 : List Ent := [⟨lightK, 1, 0⟩, ⟨heavyK, 1, 0⟩]
def E3 : List Ent := [⟨heavyK, 2, 0⟩, ⟨lightK, 1, 0⟩]
/-- The light key has the one cell. -/
structure Lit (s : Lm) (E : List Ent) (t : Int) : Prop where
  S : s.pool.S = [some lightK]
  fl : s.pool.fl = []
  C : ∃ x, s.pool.C = [x] ∧ x.since = 1
  E : s.E = E
  t : s.t = t
section
variable {c : Cf} {s : Lm}
theorem heavy_ref (hb : c.r.burst = 1) : refuse c.r 1 0 1 = none := by
  unfold refuse
  rw [hb, if_neg (by omega), if_neg (by omega), if_neg (by omega)]
theorem cellAsk_since (r : Rule) (x : Cell) (now cost : Int) : (cellAsk r x now cost).2.since = x.since := by unfold cellAsk; split <;> rfl
theorem heavy1 (hb : c.r.burst = 1) (ht : c.tr = 8) (hc : c.r.cells = 1) : (check c (new0 c) 1 0 lightK 1).2.1 = [⟨lightK, true, 1⟩] ∧ Lit (check c (new0 c) 1 0 lightK 1).2.2 E1 1 := by
  have hS : (new0 c).pool.S = [none] := by show emp c.r.cells.toNat = _; rw [hc]; rfl
  have hfl : (new0 c).pool.fl = [0] := by show List.range c.r.cells.toNat = _; rw [hc]; rfl
  have hC : (new0 c).pool.C = [Cell.zero] := by show List.replicate c.r.cells.toNat Cell.zero = _; rw [hc]; rfl
  have hE : (Sum.offer c.tr ((new0 c).E, (new0 c).t) lightK 1) = (E1, 1) := by rw [ht]; show Sum.offer 8 ([], 0) lightK 1 = _; decide
  have hn : placeOf (new0 c).pool.S lightK = none := by rw [hS]; rfl
  rw [check_free (heavy_ref hb) hn hfl (by decide) (by rw [hC]; decide) rfl]
  refine ⟨rfl, ⟨?_, ?_, ?_, ?_, ?_⟩⟩
  · rw [(count_facts _ _).1, hS]; rfl
  · rw [(count_facts _ _).1]
  · refine ⟨_, by rw [(count_facts _ _).1, hC]; rfl, ?_⟩
    rw [cellAsk_since]; rfl
  · rw [(count_facts _ _).2.2.1]
    show (Sum.offer c.tr ((new0 c).E, (new0 c).t) lightK 1).1 = _
    rw [hE]
  · rw [(count_facts _ _).2.2.2]
    show (Sum.offer c.tr ((new0 c).E, (new0 c).t) lightK 1).2 = _
    rw [hE]
theorem lit_idle {x : Cell} (hx : x.since = 1) (hw : 1 ≤ c.r.window ∧ c.r.window ≤ 1000000) : idleK c.r 1 (pairs [some lightK] [x]) = none := by
  have hp : pairs [some lightK] [x] = [(lightK, x)] := rfl
  have hi : x.idle c.r.pace 1 = false := by
    unfold Cell.idle Cell.young
    rw [hx, show c.r.pace.window = c.r.window from rfl, sum_in (by unfold I64; omega)]
    have : decide ((1 : Int) < 1 + c.r.window) = true := by simp; omega
    rw [this]; rfl
  rw [hp]
  unfold idleK
  simp [List.find?_cons, hi]
theorem heavy2 (hb : c.r.burst = 1) (ht : c.tr = 8) (hw : 1 ≤ c.r.window ∧ c.r.window ≤ 1000000) (h : Lit s E1 1) : (check c s 1 0 heavyK 1).2.1 = [] ∧ Lit (check c s 1 0 heavyK 1).2.2 E2 2 := by
  obtain ⟨hS, hfl, ⟨x, hC, hx⟩, hE, htt⟩ := h
  have hO : Sum.offer c.tr (s.E, s.t) heavyK 1 = (E2, 2) := by rw [ht, hE, htt]; decide
  have hn : placeOf s.pool.S heavyK = none := by rw [hS]; decide
  have hv : victim c ((s.to 1).offered c heavyK 1) 1 heavyK = none := by
    unfold victim
    rw [show ((s.to 1).offered c heavyK 1).pool = s.pool from rfl, hS, hC, lit_idle hx hw]
    simp only
    rw [show ((s.to 1).offered c heavyK 1).E = (Sum.offer c.tr (s.E, s.t) heavyK 1).1 from rfl, hO]
    unfold coldS
    have h1 : countE E2 heavyK = (1, 0, true) := by decide
    have h2 : countE E2 lightK = (1, 0, true) := by decide
    rw [h1]
    have hp : pairs [some lightK] [x] = [(lightK, x)] := rfl
    rw [hp]
    simp [cold1, heft, h2]
  have hs : settle c ((s.to 1).offered c heavyK 1) 1 heavyK = (none, [], (s.to 1).offered c heavyK 1) := by
    unfold settle
    rw [show placeOf ((s.to 1).offered c heavyK 1).pool.S heavyK = none from hn]
    simp only
    rw [if_pos (show ((s.to 1).offered c heavyK 1).pool.fl = [] from hfl), hv]
  unfold check
  rw [heavy_ref hb]
  simp only
  rw [hs]
  simp only
  refine ⟨trivial, ⟨?_, ?_, ⟨x, ?_, hx⟩, ?_, ?_⟩⟩
  · rw [(count_facts _ _).1]; exact hS
  · rw [(count_facts _ _).1]; exact hfl
  · rw [(count_facts _ _).1]; exact hC
  · rw [(count_facts _ _).2.2.1]
    show (Sum.offer c.tr (s.E, s.t) heavyK 1).1 = _
    rw [hO]
  · rw [(count_facts _ _).2.2.2]
    show (Sum.offer c.tr (s.E, s.t) heavyK 1).2 = _
    rw [hO]
theorem heavy3 (hb : c.r.burst = 1) (ht : c.tr = 8) (hw : 1 ≤ c.r.window ∧ c.r.window ≤ 1000000) (h : Lit s E2 2) : (check c s 1 0 heavyK 1).2.1 = [⟨lightK, false, 1⟩, ⟨heavyK, true, 1⟩] ∧ placeOf (check c s 1 0 heavyK 1).2.2.pool.S lightK = none ∧ placeOf (check c s 1 0 heavyK 1).2.2.pool.S heavyK = some 0 := by
  obtain ⟨hS, hfl, ⟨x, hC, hx⟩, hE, htt⟩ := h
  have hO : Sum.offer c.tr (s.E, s.t) heavyK 1 = (E3, 3) := by rw [ht, hE, htt]; decide
  have hn : placeOf s.pool.S heavyK = none := by rw [hS]; decide
  have hl : placeOf s.pool.S lightK = some 0 := by rw [hS]; decide
  have hv : victim c ((s.to 1).offered c heavyK 1) 1 heavyK = some lightK := by
    unfold victim
    rw [show ((s.to 1).offered c heavyK 1).pool = s.pool from rfl, hS, hC, lit_idle hx hw]
    simp only
    rw [show ((s.to 1).offered c heavyK 1).E = (Sum.offer c.tr (s.E, s.t) heavyK 1).1 from rfl, hO]
    unfold coldS
    have h1 : countE E3 heavyK = (2, 0, true) := by decide
    have h2 : countE E3 lightK = (1, 0, true) := by decide
    rw [h1]
    have hp : pairs [some lightK] [x] = [(lightK, x)] := rfl
    rw [hp]
    simp [cold1, heft, h2]
  have hs : settle c ((s.to 1).offered c heavyK 1) 1 heavyK = ((settleNew c (evict c ((s.to 1).offered c heavyK 1) 1 lightK) 1 heavyK).1, [⟨lightK, false, 1⟩, ⟨heavyK, true, 1⟩], (settleNew c (evict c ((s.to 1).offered c heavyK 1) 1 lightK) 1 heavyK).2) := by
    unfold settle
    rw [show placeOf ((s.to 1).offered c heavyK 1).pool.S heavyK = none from hn]
    simp only
    rw [if_pos (show ((s.to 1).offered c heavyK 1).pool.fl = [] from hfl), hv]
  have hS2 : (settleNew c (evict c ((s.to 1).offered c heavyK 1) 1 lightK) 1 heavyK).2.pool.S = [some heavyK] := by
    have hr : remP s.pool lightK = (s.pool.C.getD 0 .zero, true, ⟨[none], [0], [x]⟩) := by
      unfold remP; rw [hl, hS, hfl, hC]; rfl
    unfold settleNew evict
    rw [show ((s.to 1).offered c heavyK 1).pool = s.pool from rfl, hr]
    unfold putP
    rw [show placeOf [(none : Option (List UInt8))] heavyK = none from by decide]
    simp only
    rw [if_pos (by decide)]
    rfl
  unfold check
  rw [heavy_ref hb]
  simp only
  rw [hs]
  simp only
  refine ⟨trivial, ?_, ?_⟩
  · rw [(count_facts _ _).1, (answer_keeps c _ _ 1 heavyK 1).2.2.2.1, hS2]; decide
  · rw [(count_facts _ _).1, (answer_keeps c _ _ 1 heavyK 1).2.2.2.1, hS2]; decide
end
end Go.Proofs.Ytndekdafiaogmaa.Lim
end
