/- limiter's laws: plain facts: checks and peeks of limiters of which one is later by so many slots. -/
import Derived.Test.YtndekdafiaogmaaZLimE
import Derived.Test.YtndekdafiaogmaaZLimPlainB
section
namespace Go.Proofs.Ytndekdafiaogmaa.Lim
open Go Go.RowKit Go.YtndekdafiaogmaaMem Go.YtndekdafiaogmaaLex Go.Proofs.Ytndekdafiaogmaa.Hash Go.Proofs.Ytndekdafiaogmaa.Arith Go.Proofs.Ytndekdafiaogmaa.Index Go.Proofs.Ytndekdafiaogmaa.Cell Go.Proofs.Ytndekdafiaogmaa.Slot
open Go.Proofs.Ytndekdafiaogmaa.Pool (PS putP remP pairs PB PoolAt firstIdle)
open Go.Proofs.Ytndekdafiaogmaa.Ring (Rs RiB RingAt estS addR waitS waitK massS massTo fromTo fromS eldestS slotNo leastV countV Small ring0)
open Go.Proofs.Ytndekdafiaogmaa.Sum (Ent OkE SB SumAt countE leastOf)
set_option linter.unusedVariables false
set_option linter.unusedSimpArgs false

def upX (d : Int) (x : List UInt8 × Cell) : List UInt8 × Cell := (x.1, Cell.up x.2 d)
theorem pairs_up {d : Int} : ∀ (S : List (Option (List UInt8))) (C C' : List Cell), C.length = S.length → C'.length = C.length → (∀ i k, S[i]? = some (some k) → C'.getD i .zero = Cell.up (C.getD i .zero) d) → pairs S C' = (pairs S C).map (upX d)
  | [], C, C', h1, h2, h => by
    have : C = [] := List.eq_nil_of_length_eq_zero h1
    subst this
    have : C' = [] := List.eq_nil_of_length_eq_zero h2
    subst this
    rfl
  | o :: S, [], C', h1, h2, h => by simp at h1
  | o :: S, q :: C, [], h1, h2, h => by simp at h2
  | o :: S, q :: C, q' :: C', h1, h2, h => by
    have ih := pairs_up (d := d) S C C' (by simpa using h1) (by simpa using h2) (fun i k hk => by have := h (i + 1) k (by simpa using hk); simpa using this)
    unfold pairs at *
    rw [List.zip_cons_cons, List.zip_cons_cons, List.filterMap_cons, List.filterMap_cons]
    cases o with
    | none => exact ih
    | some k =>
      have h0 := h 0 k rfl
      simp at h0
      show (k, q') :: _ = _
      rw [ih, h0]
      rfl
/-- Cells whose times are no great ones. -/
def CellsIn (c : Cf) (d : Int) (C : List Cell) : Prop := ∀ q ∈ C, I64 (q.since + c.r.pace.window) ∧ I64 (q.since + d + c.r.pace.window)
theorem pairs_cell {S : List (Option (List UInt8))} {C : List Cell} {x : List UInt8 × Cell} (hx : x ∈ pairs S C) : x.2 ∈ C := by
  unfold pairs at hx
  rw [List.mem_filterMap] at hx
  obtain ⟨⟨o, q⟩, hm, he⟩ := hx
  unfold Pool.pair1 at he
  cases o with
  | none => simp at he
  | some k => simp at he; subst he; exact (List.of_mem_zip hm).2
theorem find_up {p : Pace} {now d : Int} : ∀ (l : List (List UInt8 × Cell)), (∀ x ∈ l, I64 (x.2.since + p.window) ∧ I64 (x.2.since + d + p.window)) → (((l.map (upX d)).find? fun x => x.2.idle p (now + d)).map (·.1)) = (l.find? fun x => x.2.idle p now).map (·.1)
  | [], h => rfl
  | x :: l, h => by
    have ih := find_up (now := now) l (fun x hx => h x (by simp [hx]))
    have hx := h x (by simp)
    rw [List.map_cons, List.find?_cons, List.find?_cons]
    have e : (upX d x).2.idle p (now + d) = x.2.idle p now := up_idle hx.1 hx.2
    rw [e]
    cases x.2.idle p now with
    | true => rfl
    | false => exact ih
theorem cold_up {c : Cf} {E : List Ent} {d : Int} (l : List (List UInt8 × Cell)) (b : List UInt8 × Int × Bool) : (l.map (upX d)).foldl (cold1 c E) b = l.foldl (cold1 c E) b := by
  rw [List.foldl_map]
  rfl
section
variable {c : Cf} {sh : Nat} {d : Int} {s m : Lm}
theorem LShift.victim (h : LShift c sh d s m) (hp : PoolOk s.pool) (hC : CellsIn c d s.pool.C) (now : Int) (key : List UInt8) : victim c m (now + d) key = victim c s now key := by
  have hpr : pairs m.pool.S m.pool.C = (pairs s.pool.S s.pool.C).map (upX d) := by
    rw [h.pool.S]
    exact pairs_up s.pool.S s.pool.C m.pool.C hp.len h.pool.len h.pool.cell
  unfold Lim.victim
  rw [hpr]
  have e1 : idleK c.r (now + d) ((pairs s.pool.S s.pool.C).map (upX d)) = idleK c.r now (pairs s.pool.S s.pool.C) := by
    unfold idleK
    exact find_up _ (fun x hx => hC _ (pairs_cell hx))
  have e2 : coldS c m.E ((pairs s.pool.S s.pool.C).map (upX d)) key = coldS c s.E (pairs s.pool.S s.pool.C) key := by
    unfold coldS
    rw [h.E, cold_up]
  rw [e1, e2]
theorem getD_in {C : List Cell} {i : Nat} (hi : i < C.length) : C.getD i .zero ∈ C := by
  rw [List.getD_eq_getElem?_getD, List.getElem?_eq_getElem hi]
  exact List.getElem_mem _
theorem LShift.evict (h : LShift c sh d s m) (hl : Later sh s.ring m.ring) (hw : 1 ≤ s.ring.width) (h1 : Shape c s.ring) (h2 : Shape c m.ring) (hp : PoolOk s.pool) (hC : CellsIn c d s.pool.C) (now : Int) {out : List UInt8} (ho : In s.pool.S out) :
    LShift c sh d (evict c s now out) (evict c m (now + d) out) ∧ Later sh (Lim.evict c s now out).ring (Lim.evict c m (now + d) out).ring ∧ Shape c (Lim.evict c s now out).ring ∧ Shape c (Lim.evict c m (now + d) out).ring := by
  obtain ⟨i, hi⟩ := in_place.1 ho
  have hil : i < s.pool.C.length := by rw [hp.len]; exact (List.getElem?_eq_some_iff.1 (placeOf_get hi)).1
  obtain ⟨r1, r2⟩ := h.pool.rem out
  have r3 := r2 ⟨i, hi⟩
  have e : (remP s.pool out).1 = s.pool.C.getD i .zero := by unfold remP; rw [hi]
  have hq := hC _ (getD_in hil)
  have hb : (remP m.pool out).1.bound c.r.pace (now + d) = (remP s.pool out).1.bound c.r.pace now := by
    rw [r3, e]
    exact up_bound hq.1 hq.2
  obtain ⟨a1, a2⟩ := h.ring.add hl hw h1 h2 out ((remP s.pool out).1.bound c.r.pace now)
  unfold Lim.evict
  rw [hb]
  exact ⟨⟨r1, a1, h.E, h.t, h.al, h.de, h.bad⟩, a2, h1.add _ _, h2.add _ _⟩
theorem LShift.settleNew (h : LShift c sh d s m) (hl : Later sh s.ring m.ring) (hw : 1 ≤ s.ring.width) (hp : PoolOk s.pool) (now : Int) (key : List UInt8) :
    (settleNew c m (now + d) key).1 = (settleNew c s now key).1 ∧ LShift c sh d (Lim.settleNew c s now key).2 (Lim.settleNew c m (now + d) key).2 := by
  unfold Lim.settleNew
  rw [h.ring.est hl hw, up_fresh]
  obtain ⟨p1, p2⟩ := h.pool.put hp key (fresh now (estS c.R c.wd s.ring key))
  exact ⟨p1, ⟨p2, h.ring, h.E, h.t, h.al, h.de, h.bad⟩⟩
theorem LShift.settle (h : LShift c sh d s m) (hl : Later sh s.ring m.ring) (hw : 1 ≤ s.ring.width) (h1 : Shape c s.ring) (h2 : Shape c m.ring) (hp : PoolOk s.pool) (hC : CellsIn c d s.pool.C) (now : Int) (key : List UInt8) :
    (settle c m (now + d) key).1 = (settle c s now key).1 ∧ (settle c m (now + d) key).2.1.length = (Lim.settle c s now key).2.1.length ∧ LShift c sh d (Lim.settle c s now key).2.2 (Lim.settle c m (now + d) key).2.2 ∧ Later sh (Lim.settle c s now key).2.2.ring (Lim.settle c m (now + d) key).2.2.ring ∧ Shape c (Lim.settle c s now key).2.2.ring ∧ Shape c (Lim.settle c m (now + d) key).2.2.ring := by
  unfold Lim.settle
  rw [h.pool.S, h.pool.fl, h.victim hp hC now key]
  cases hpo : placeOf s.pool.S key with
  | some i => exact ⟨rfl, rfl, h, hl, h1, h2⟩
  | none =>
    simp only
    by_cases hfl : s.pool.fl = []
    · rw [if_pos hfl, if_pos hfl]
      cases hv : Lim.victim c s now key with
      | none => exact ⟨rfl, rfl, h, hl, h1, h2⟩
      | some out =>
        simp only
        obtain ⟨e1, e2, e3, e4⟩ := h.evict hl hw h1 h2 hp hC now (victim_in hv)
        have hrk := rk_add c.R c.wd s.ring out ((remP s.pool out).1.bound c.r.pace now)
        unfold Lim.rk at hrk
        simp only [Prod.mk.injEq] at hrk
        obtain ⟨n1, n2⟩ := e1.settleNew e2 (by show 1 ≤ (addR c.R c.wd s.ring out _).width; rw [hrk.1]; exact hw) (show PoolOk (remP s.pool out).2.2 from hp.rem out) now key
        exact ⟨n1, rfl, n2, e2, e3, e4⟩
    · rw [if_neg hfl, if_neg hfl]
      obtain ⟨n1, n2⟩ := h.settleNew hl hw hp now key
      exact ⟨n1, rfl, n2, hl, h1, h2⟩
theorem LShift.answer (h : LShift c sh d s m) (hl : Later sh s.ring m.ring) (hw : 1 ≤ s.ring.width) (h1 : Shape c s.ring) (h2 : Shape c m.ring) (hp : PoolOk s.pool) (hC : CellsIn c d s.pool.C) {o : Option Nat} {key : List UInt8} (ho : placeOf s.pool.S key = o) (now cost : Int) :
    (answer c o m (now + d) key cost).1 = (answer c o s now key cost).1 ∧ LShift c sh d (Lim.answer c o s now key cost).2 (Lim.answer c o m (now + d) key cost).2 := by
  cases o with
  | some i =>
    have hg := placeOf_get ho
    have hil : i < s.pool.C.length := by rw [hp.len]; exact (List.getElem?_eq_some_iff.1 hg).1
    have hq := hC _ (getD_in hil)
    have hc0 := h.pool.cell i key hg
    have ask : (cellAsk c.r (m.pool.C.getD i .zero) (now + d) cost).1 = (cellAsk c.r (s.pool.C.getD i .zero) now cost).1 ∧ (cellAsk c.r (m.pool.C.getD i .zero) (now + d) cost).2 = Cell.up (cellAsk c.r (s.pool.C.getD i .zero) now cost).2 d := by
      rw [hc0]
      generalize s.pool.C.getD i .zero = q at *
      unfold cellAsk
      rw [up_room hq.1 hq.2, up_wait hq.1 hq.2]
      split
      · have e : ({ Cell.up q d with full := max (Cell.up q d).full (now + d) + cost * c.r.pace.unit, used := (Cell.up q d).used + cost } : Cell) = Cell.up { q with full := max q.full now + cost * c.r.pace.unit, used := q.used + cost } d := by
          unfold Cell.up
          simp only [Cell.mk.injEq, and_true, true_and]
          omega
        simp only
        rw [e]
        refine ⟨?_, rfl⟩
        rw [up_room (q := { q with full := max q.full now + cost * c.r.pace.unit, used := q.used + cost }) hq.1 hq.2]
      · exact ⟨rfl, rfl⟩
    unfold Lim.answer
    simp only
    refine ⟨ask.1, ⟨⟨h.pool.S, h.pool.fl, by simp only [List.length_set]; exact h.pool.len, fun j k hk => ?_⟩, h.ring, h.E, h.t, h.al, h.de, h.bad⟩⟩
    simp only at hk ⊢
    rw [getD_set_C _ _ _ _ hil, getD_set_C _ _ _ _ (by rw [h.pool.len]; exact hil)]
    split
    · exact ask.2
    · exact h.pool.cell j k hk
  | none =>
    unfold Lim.answer ringAsk
    simp only
    rw [h.ring.est hl hw, h.ring.wait hl hw]
    obtain ⟨a1, a2⟩ := h.ring.add hl hw h1 h2 key cost
    have hrk := rk_add c.R c.wd s.ring key cost
    unfold Lim.rk at hrk
    simp only [Prod.mk.injEq] at hrk
    split
    · simp only
      rw [a1.est a2 (by rw [hrk.1]; exact hw)]
      exact ⟨rfl, ⟨h.pool, a1, h.E, h.t, h.al, h.de, h.bad⟩⟩
    · exact ⟨rfl, ⟨h.pool, h.ring, h.E, h.t, h.al, h.de, h.bad⟩⟩
end
theorem cells_in {c : Cf} {s : Lm} {K : Nat} (h : Inv c s K) (hc : c.Ok) {d : Int} (hd : 0 ≤ d ∧ d ≤ 281474976710656) : CellsIn c d s.pool.C := fun q hq => by
  have h1 := (h.cells q hq).since
  have h2 := h.now
  have h3 := hc.window
  have e : c.r.pace.window = c.r.window := rfl
  rw [e]
  unfold I64
  omega
theorem later_to {c : Cf} {sh : Nat} {x y : Rs} {T : Nat} (hx : x.now ≤ T) (hy : y.now ≤ T + sh * x.width) : Later sh (Ring.to x T) (Ring.to y (T + sh * x.width)) := by
  show max y.now (T + sh * x.width) = max x.now T + sh * x.width
  omega
theorem refuse_later {r : Rule} {T D : Nat} {cost : Int} (h : T + D < 4611686018427387904) : refuse r ((T : Int) + (D : Int)) 0 cost = refuse r (T : Int) 0 cost := by
  unfold refuse
  split
  · rfl
  · rw [if_neg (show ¬ (4611686018427387904 : Int) ≤ (T : Int) + (D : Int) by omega), if_neg (show ¬ (4611686018427387904 : Int) ≤ (T : Int) by omega)]
section
variable {c : Cf} {sh : Nat} {s m : Lm}
theorem LShift.check {D : Nat} (h : LShift c sh (D : Int) s m) (hD : D = sh * s.ring.width) (hc : c.Ok) {K : Nat} (hs : Inv c s K) (hw : 1 ≤ s.ring.width) (hf : s.ring.st.length ≤ 65) (h1 : Shape c s.ring) (h2 : Shape c m.ring) (hp : PoolOk s.pool) {T : Nat} (ht : s.ring.now ≤ T) (ht2 : m.ring.now ≤ T + D) (hT : T + D < 281474976710656) {key : List UInt8} (hk : key.length ≤ 64) (cost : Int) (hK : K + c.r.limit.toNat ≤ 4194304) :
    (check c m ((T : Int) + (D : Int)) 0 key cost).1 = (check c s (T : Int) 0 key cost).1 ∧ (check c m ((T : Int) + (D : Int)) 0 key cost).2.1.length = (Lim.check c s (T : Int) 0 key cost).2.1.length ∧ LShift c sh (D : Int) (Lim.check c s (T : Int) 0 key cost).2.2 (Lim.check c m ((T : Int) + (D : Int)) 0 key cost).2.2 := by
  unfold Lim.check
  rw [refuse_later (by omega)]
  cases hf' : refuse c.r (T : Int) 0 cost with
  | some a => exact ⟨rfl, rfl, h.count _⟩
  | none =>
    simp only
    have hTD : ((T : Int) + (D : Int)) = ((T + D : Nat) : Int) := by omega
    have hl : Later sh ((s.to (T : Int)).offered c key cost).ring ((m.to ((T : Int) + (D : Int))).offered c key cost).ring := by
      rw [hTD]
      show Later sh (Ring.to s.ring T) (Ring.to m.ring (T + D))
      rw [hD]
      exact later_to (c := c) ht (by rw [← hD]; exact ht2)
    have hO : LShift c sh (D : Int) ((s.to (T : Int)).offered c key cost) ((m.to ((T : Int) + (D : Int))).offered c key cost) := by
      refine ⟨h.pool, h.ring.tos _ _, ?_, ?_, h.al, h.de, h.bad⟩
      · show (Sum.offer c.tr (m.E, m.t) key cost).1 = (Sum.offer c.tr (s.E, s.t) key cost).1
        rw [h.E, h.t]
      · show (Sum.offer c.tr (m.E, m.t) key cost).2 = (Sum.offer c.tr (s.E, s.t) key cost).2
        rw [h.E, h.t]
    obtain ⟨t1, t2⟩ := hs.to (now := T) ht (by omega)
    have t3 := t1.offered hc.tr.1 key cost
    have hC := cells_in t3 hc (d := (D : Int)) (by omega)
    obtain ⟨g1, g2, g3, g4, g5, g6⟩ := hO.settle hl hw (show Shape c _ from ⟨h1.len, h1.lenN, h1.each⟩) (show Shape c _ from ⟨h2.len, h2.lenN, h2.each⟩) hp hC (T : Int) key
    obtain ⟨u1, u2, u3⟩ := t3.settle hc hf key hK
    have hpl := settle_place (c := c) (s := (s.to (T : Int)).offered c key cost) (now := (T : Int)) (key := key) hp hk
    have hrk := rk_settle c ((s.to (T : Int)).offered c key cost) (T : Int) key
    rw [show (((s.to (T : Int)).offered c key cost).ring.now : Int) = (T : Int) by rw [show ((s.to (T : Int)).offered c key cost).ring.now = T from t2]] at u1 u2 u3
    unfold Lim.rk at hrk
    simp only [Prod.mk.injEq] at hrk
    have hp2 : PoolOk (Lim.settle c ((s.to (T : Int)).offered c key cost) (T : Int) key).2.2.pool := by
      unfold Lim.settle
      cases hpo : placeOf ((s.to (T : Int)).offered c key cost).pool.S key with
      | some i => exact hp
      | none =>
        simp only
        split
        · split
          · exact hp
          · exact (hp.rem _).put _ _
        · exact hp.put _ _
    have hC2 := cells_in u1 hc (d := (D : Int)) (by omega)
    rw [g1]
    obtain ⟨a1, a2⟩ := g3.answer g4 (by rw [hrk.1]; exact hw) g5 g6 hp2 hC2 hpl (T : Int) cost
    rw [a1]
    exact ⟨rfl, g2, a2.count _⟩
theorem LShift.peek {D : Nat} (h : LShift c sh (D : Int) s m) (hD : D = sh * s.ring.width) (hc : c.Ok) {K : Nat} (hs : Inv c s K) (hw : 1 ≤ s.ring.width) (hp : PoolOk s.pool) {T : Nat} (ht : s.ring.now ≤ T) (ht2 : m.ring.now ≤ T + D) (hT : T + D < 281474976710656) (key : List UInt8) (cost : Int) :
    (peek c m ((T : Int) + (D : Int)) 0 key cost).1 = (peek c s (T : Int) 0 key cost).1 ∧ LShift c sh (D : Int) (Lim.peek c s (T : Int) 0 key cost).2 (Lim.peek c m ((T : Int) + (D : Int)) 0 key cost).2 := by
  unfold Lim.peek
  rw [refuse_later (by omega)]
  cases hf' : refuse c.r (T : Int) 0 cost with
  | some a => exact ⟨rfl, h⟩
  | none =>
    simp only
    have hTD : ((T : Int) + (D : Int)) = ((T + D : Nat) : Int) := by omega
    have hl : Later sh (s.to (T : Int)).ring (m.to ((T : Int) + (D : Int))).ring := by
      rw [hTD]
      show Later sh (Ring.to s.ring T) (Ring.to m.ring (T + D))
      rw [hD]
      exact later_to (c := c) ht (by rw [← hD]; exact ht2)
    have hO : LShift c sh (D : Int) (s.to (T : Int)) (m.to ((T : Int) + (D : Int))) := ⟨h.pool, h.ring.tos _ _, h.E, h.t, h.al, h.de, h.bad⟩
    obtain ⟨t1, t2⟩ := hs.to (now := T) ht (by omega)
    have hC := cells_in t1 hc (d := (D : Int)) (by omega)
    refine ⟨?_, hO⟩
    have hw' : 1 ≤ (s.to (T : Int)).ring.width := hw
    unfold peekA
    have key1 : (peekC c (s.to (T : Int)) T key = none ∧ peekC c (m.to ((T : Int) + (D : Int))) ((T : Int) + (D : Int)) key = none) ∨ ∃ q, peekC c (s.to (T : Int)) T key = some q ∧ peekC c (m.to ((T : Int) + (D : Int))) ((T : Int) + (D : Int)) key = some (Cell.up q D) ∧ I64 (q.since + c.r.pace.window) ∧ I64 (q.since + D + c.r.pace.window) := by
      unfold peekC
      rw [hO.pool.S, hO.pool.fl]
      cases hpo : placeOf (s.to (T : Int)).pool.S key with
      | some i =>
        have hg := placeOf_get hpo
        have hil : i < s.pool.C.length := by rw [hp.len]; exact (List.getElem?_eq_some_iff.1 hg).1
        have hq := hC _ (getD_in hil)
        exact .inr ⟨_, rfl, by simp only; rw [hO.pool.cell i key hg], hq.1, hq.2⟩
      | none =>
        simp only
        have hpr : pairs (s.to (T : Int)).pool.S (m.to ((T : Int) + (D : Int))).pool.C = (pairs (s.to (T : Int)).pool.S (s.to (T : Int)).pool.C).map (upX D) := pairs_up _ _ _ hp.len hO.pool.len hO.pool.cell
        have e1 : idleK c.r ((T : Int) + (D : Int)) (pairs (s.to (T : Int)).pool.S (m.to ((T : Int) + (D : Int))).pool.C) = idleK c.r T (pairs (s.to (T : Int)).pool.S (s.to (T : Int)).pool.C) := by
          rw [hpr]
          unfold idleK
          exact find_up _ (fun x hx => hC _ (pairs_cell hx))
        rw [e1, hO.ring.est hl hw', up_fresh]
        split
        · exact .inl ⟨rfl, rfl⟩
        · have h3 := hc.window
          have e : c.r.pace.window = c.r.window := rfl
          refine .inr ⟨_, rfl, rfl, ?_, ?_⟩
          · rw [e]; show I64 ((T : Int) + c.r.window); unfold I64; omega
          · rw [e]; show I64 ((T : Int) + (D : Int) + c.r.window); unfold I64; omega
    rcases key1 with ⟨k1, k2⟩ | ⟨q, k1, k2, k3, k4⟩
    · rw [k1, k2, hO.ring.est hl hw', hO.ring.wait hl hw']
    · rw [k1, k2]
      have e1 := up_room k3 k4 (now := (T : Int))
      have e2 := up_wait k3 k4 (now := (T : Int)) (cost := cost)
      simp only [e1, e2]
end
theorem lshift_new (c : Cf) (sh : Nat) (d : Int) : LShift c sh d (new0 c) (new0 c) := by
  refine ⟨⟨rfl, rfl, rfl, fun i k hk => absurd hk (emp_no _ _ _)⟩, ⟨rfl, rfl, rfl, rfl, fun n => ?_⟩, rfl, rfl, rfl, rfl, rfl⟩
  have hz : ∀ n : Int, ctn (new0 c).ring n = none := fun n => by
    unfold ctn slotNo
    rw [if_neg]
    · rfl
    · rintro ⟨h0, h1⟩
      have : (new0 c).ring.st.getD (n.toNat % (new0 c).ring.st.length) 0 = 0 := by
        show (List.replicate (c.r.slots.toNat + 1) (0 : Int)).getD _ 0 = 0
        rw [List.getD_eq_getElem?_getD, List.getElem?_replicate]
        split <;> rfl
      omega
  rw [hz, hz]
end Go.Proofs.Ytndekdafiaogmaa.Lim
end
