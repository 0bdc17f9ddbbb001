/- limiter's laws: plain facts: waits and rooms, rows and estimates. | limiter's laws: plain facts: what answers tell. | limiter's laws: what their loops keep of a limiter. -/
import Derived.Test.YtndekdafiaogmaaZLimB
import Derived.Deep.Cut
section
namespace Go.Proofs.Ytndekdafiaogmaa.Lim
open Go Go.RowKit Go.YtndekdafiaogmaaMem Go.YtndekdafiaogmaaLex Go.Proofs.Ytndekdafiaogmaa.Hash Go.Proofs.Ytndekdafiaogmaa.Arith Go.Proofs.Ytndekdafiaogmaa.Index Go.Proofs.Ytndekdafiaogmaa.Cell Go.Proofs.Ytndekdafiaogmaa.Slot
open Go.Proofs.Ytndekdafiaogmaa.Pool (PS putP remP pairs PB PoolAt firstIdle)
open Go.Proofs.Ytndekdafiaogmaa.Ring (Rs RiB RingAt estS addR waitS waitK massS massTo fromTo fromS eldestS slotNo leastV countV Small)
open Go.Proofs.Ytndekdafiaogmaa.Sum (Ent OkE SB SumAt countE leastOf)
set_option linter.unusedVariables false
set_option linter.unusedSimpArgs false

/-- A cell's room, and its wait: nothing is to be waited for just where there is room. -/
theorem room_in {x : Cell} {p : Pace} {now : Int} (hx : Mild x) (hp : Tame p now) : 0 ≤ x.room p now ∧ x.room p now ≤ p.burst := by
  have hf := free_in hx hp
  unfold Cell.room
  split <;> omega
theorem lag_room {x : Cell} {p : Pace} {now cost : Int} (hp : Tame p now) (hc : 1 ≤ cost ∧ cost ≤ p.burst) : x.lag p now cost = 0 ↔ cost ≤ x.free p now := by
  have hu := hp.unit
  have hn := hp.now
  have hm : (p.burst - cost) * p.unit = p.burst * p.unit - cost * p.unit := Int.sub_mul _ _ _
  have h0 : 0 ≤ (p.burst - cost) * p.unit := Int.mul_nonneg (by omega) (by omega)
  unfold Cell.lag Cell.free
  split
  · rename_i ha
    split
    · rename_i hb
      have hcu : 0 ≤ cost * p.unit := Int.mul_nonneg (by omega) (by omega)
      constructor
      · intro h; omega
      · intro h; omega
    · rename_i hb
      rw [Int.tdiv_eq_ediv_of_nonneg (by omega), Int.le_ediv_iff_mul_le (by omega)]
      omega
  · rename_i ha
    constructor
    · intro _; omega
    · intro _; omega
theorem wait_room {x : Cell} {p : Pace} {now cost : Int} (hx : Mild x) (hp : Tame p now) (hc : 1 ≤ cost ∧ cost ≤ p.burst) : x.wait p now cost = 0 ↔ cost ≤ x.room p now := by
  have hl := lag_room (x := x) hp hc
  have hl0 : 0 ≤ x.lag p now cost := by unfold Cell.lag; omega
  have hs : sum x.carry x.used = x.carry + x.used := sum_in (by have := hx.carry; have := hx.used; unfold I64; omega)
  have hsi : sum x.since p.window = x.since + p.window := sum_in (by have := hx.since; have := hp.window; unfold I64; omega)
  unfold Cell.wait Cell.room
  rw [hs]
  by_cases hy : x.young p now = true
  · have hyo : now < x.since + p.window := by unfold Cell.young at hy; rw [hsi] at hy; simpa using hy
    rw [if_pos hy]
    by_cases hq : p.limit < x.carry + x.used + cost
    · rw [if_pos ⟨hy, hq⟩]
      constructor
      · intro h; omega
      · intro h; omega
    · rw [if_neg (fun h => hq h.2)]
      rw [hl]
      have := hp.limit
      constructor
      · intro h; omega
      · intro h; omega
  · rw [if_neg hy, if_neg (fun h => hy h.1)]
    exact hl
theorem wait_nonneg {x : Cell} {p : Pace} {now cost : Int} : 0 ≤ x.wait p now cost := by
  have hl0 : 0 ≤ x.lag p now cost := by unfold Cell.lag; omega
  unfold Cell.wait
  split <;> omega
theorem waitK_pos {R : List Row} {wd : Nat} {x : Rs} {key : List UInt8} {cost : Int} {n : Nat} (hs : 1 ≤ x.st.length) : ∀ f k, 1 ≤ k → 1 ≤ waitK R wd x key cost n f k
  | 0, k, _ => hs
  | f + 1, k, hk => by
    unfold waitK
    split
    · exact hk
    · exact waitK_pos hs f (k + 1) (by omega)
/-- The ring's wait is 0 just where there is room now. -/
theorem waitS_room {R : List Row} {wd : Nat} {x : Rs} {key : List UInt8} {cost : Int} (hw : 1 ≤ x.width) (hs : 1 ≤ x.st.length) : 0 ≤ waitS R wd x key cost ∧ (waitS R wd x key cost = 0 ↔ sum (estS R wd x key) cost ≤ x.lim) := by
  unfold waitS
  split
  · rename_i h; exact ⟨by omega, by simp [h]⟩
  · rename_i h
    have hk := waitK_pos (R := R) (wd := wd) (x := x) (key := key) (cost := cost) (n := x.now / x.width) hs x.st.length 1 (Nat.le_refl _)
    have h1 : (x.now / x.width + 1) * x.width ≤ (x.now / x.width + waitK R wd x key cost (x.now / x.width) x.st.length 1) * x.width := Nat.mul_le_mul_right _ (by omega)
    have h2 : x.now < (x.now / x.width + 1) * x.width := by
      have h3 := Nat.div_add_mod x.now x.width
      have h4 := Nat.mod_lt x.now (show 0 < x.width by omega)
      rw [Nat.add_mul, Nat.one_mul, Nat.mul_comm]; omega
    refine ⟨by omega, ⟨fun hz => by omega, fun hz => absurd hz h⟩⟩
/-- A row's counters are no less than the estimate. -/
theorem least_le {R : List Row} {wd : Nat} {N : List Int} {key : List UInt8} {row : Nat} : ∀ k, row ≤ k → leastTo R wd N key k ≤ cntS R wd N row key
  | 0, h => by obtain rfl : row = 0 := by omega
               exact Int.le_refl _
  | k + 1, h => by
    unfold leastTo
    by_cases hk : row = k + 1
    · subst hk; omega
    · have := least_le (R := R) (wd := wd) (N := N) (key := key) (row := row) k (by omega); omega
theorem leastV_le {R : List Row} {wd : Nat} {x : Rs} {key : List UInt8} {row : Nat} (hr : row < R.length) (o : Option Nat) : leastV R wd x key o ≤ countV R wd x row key o := by
  cases o with
  | none => exact Int.le_refl _
  | some i => exact least_le _ (by omega)
theorem countV_upto {R : List Row} {wd K : Nat} {x : Rs} (h : ∀ N ∈ x.N, Upto K N) (row : Nat) (key : List UInt8) (o : Option Nat) : 0 ≤ countV R wd x row key o ∧ countV R wd x row key o ≤ K := by
  cases o with
  | none => simp [countV]
  | some i => exact (Upto.getD h i).cnt row key
theorem massTo_upto {R : List Row} {wd K : Nat} {x : Rs} (h : ∀ N ∈ x.N, Upto K N) (hK : K ≤ 1000000000000) (row : Nat) (key : List UInt8) (n : Nat) : ∀ k, k ≤ 1000 → 0 ≤ massTo R wd x row key n k ∧ massTo R wd x row key n k ≤ ((k * K : Nat) : Int)
  | 0, _ => by unfold massTo; simp
  | k + 1, hk => by
    have ih := massTo_upto (R := R) (wd := wd) h hK row key n k (by omega)
    have hc := countV_upto (R := R) (wd := wd) h row key (slotNo x ((n : Int) - (x.st.length : Int) + 1 + (k : Int)))
    have hm : k * K ≤ 1000 * 1000000000000 := Nat.mul_le_mul (by omega) hK
    unfold massTo
    rw [Nat.add_mul, Nat.one_mul, sum_in (by unfold I64; omega)]
    omega
theorem fromTo_le {R : List Row} {wd K : Nat} {x : Rs} (h : ∀ N ∈ x.N, Upto K N) (hK : K ≤ 1000000000000) {row : Nat} (hr : row < R.length) (key : List UInt8) (n into : Nat) : ∀ k, k ≤ 1000 → fromTo R wd x key n into k ≤ massTo R wd x row key n k
  | 0, _ => by unfold fromTo massTo; omega
  | k + 1, hk => by
    have ih := fromTo_le (wd := wd) h hK hr key n into k (by omega)
    have i1 := fromTo_upto (R := R) (wd := wd) h hK key n into k (by omega)
    have i2 := massTo_upto (R := R) (wd := wd) h hK row key n k (by omega)
    have hl := leastV_upto (R := R) (wd := wd) h key (slotNo x ((n : Int) - (x.st.length : Int) + 1 + (k : Int)))
    have hle := leastV_le (wd := wd) (x := x) (key := key) hr (slotNo x ((n : Int) - (x.st.length : Int) + 1 + (k : Int)))
    have hc := countV_upto (R := R) (wd := wd) h row key (slotNo x ((n : Int) - (x.st.length : Int) + 1 + (k : Int)))
    have he := eldestS_upto (x := x) hl.1 into
    have hm : k * K ≤ 1000 * 1000000000000 := Nat.mul_le_mul (by omega) hK
    unfold fromTo massTo
    simp only
    rw [sum_in (a := massTo R wd x row key n k) (by unfold I64; omega)]
    split
    · rw [sum_in (by unfold I64; omega)]; omega
    · rw [sum_in (by unfold I64; omega)]; omega
theorem est_le_mass {R : List Row} {wd K : Nat} {x : Rs} (h : ∀ N ∈ x.N, Upto K N) (hK : K ≤ 1000000000000) (hf : x.st.length ≤ 65) {row : Nat} (hr : row < R.length) (key : List UInt8) : estS R wd x key ≤ massS R wd x row key :=
  fromTo_le h hK hr key _ _ _ (by omega)
end Go.Proofs.Ytndekdafiaogmaa.Lim
end

section
namespace Go.Proofs.Ytndekdafiaogmaa.Lim
open Go Go.RowKit Go.YtndekdafiaogmaaMem Go.YtndekdafiaogmaaLex Go.Proofs.Ytndekdafiaogmaa.Hash Go.Proofs.Ytndekdafiaogmaa.Arith Go.Proofs.Ytndekdafiaogmaa.Index Go.Proofs.Ytndekdafiaogmaa.Cell Go.Proofs.Ytndekdafiaogmaa.Slot
open Go.Proofs.Ytndekdafiaogmaa.Pool (PS putP remP pairs PB PoolAt firstIdle)
open Go.Proofs.Ytndekdafiaogmaa.Ring (Rs RiB RingAt estS addR waitS waitK massS massTo fromTo fromS eldestS slotNo leastV countV Small)
open Go.Proofs.Ytndekdafiaogmaa.Sum (Ent OkE SB SumAt countE leastOf)
set_option linter.unusedVariables false
set_option linter.unusedSimpArgs false

/-- What stays of a ring. -/
def rk (x : Rs) : Nat × Int × Bool × Nat := (x.width, x.lim, x.part, x.st.length)
theorem rk_add (R : List Row) (wd : Nat) (x : Rs) (key : List UInt8) (cost : Int) : rk (addR R wd x key cost) = rk x := by
  unfold rk addR
  simp only
  split
  · rfl
  · simp
theorem rk_settle (c : Cf) (s : Lm) (now : Int) (key : List UInt8) : rk (settle c s now key).2.2.ring = rk s.ring := by
  unfold settle
  split
  · rfl
  · split
    · split
      · rfl
      · exact rk_add _ _ _ _ _
    · rfl
theorem rk_answer (c : Cf) (o : Option Nat) (s : Lm) (now : Int) (key : List UInt8) (cost : Int) : rk (answer c o s now key cost).2.ring = rk s.ring := by
  unfold answer
  cases o with
  | some i => rfl
  | none =>
    unfold ringAsk
    simp only
    split
    · exact rk_add _ _ _ _ _
    · rfl
theorem rk_check (c : Cf) (s : Lm) (now held : Int) (key : List UInt8) (cost : Int) : rk (check c s now held key cost).2.2.ring = rk s.ring := by
  unfold check
  split
  · simp only; rw [(count_facts _ _).2.1]
  · simp only
    rw [(count_facts _ _).2.1, rk_answer, rk_settle]
    rfl
/-- A ring of a rule. -/
def RingOf (c : Cf) (x : Rs) : Prop := 1 ≤ x.width ∧ x.lim = c.r.limit ∧ 1 ≤ x.st.length ∧ x.st.length ≤ 65
theorem RingOf.rk {c : Cf} {x y : Rs} (h : RingOf c x) (e : rk y = rk x) : RingOf c y := by
  unfold Lim.rk at e
  simp only [Prod.mk.injEq] at e
  obtain ⟨e1, e2, e3, e4⟩ := e
  unfold RingOf at *
  omega
theorem bounded_in {r : Rule} {n : Int} (hb : 0 ≤ r.burst) : 0 ≤ bounded r n ∧ bounded r n ≤ r.burst := by unfold bounded; omega
/-- What an answer tells: a cost is allowed just where nothing is to be waited for; what is denied is more than what remains. -/
structure Tells (r : Rule) (cost : Int) (a : Ans) : Prop where
  v : a.verdict = 1 ∨ a.verdict = 2
  rem : 0 ≤ a.remaining ∧ a.remaining ≤ r.burst
  ret : 0 ≤ a.retry
  iff_ : a.verdict = 1 ↔ a.retry = 0
  deny : a.verdict = 2 → a.remaining < cost
section
variable {c : Cf} {s : Lm} {K : Nat}
theorem cellAsk_tells {x : Cell} {cost : Int} (hc : c.Ok) {now : Nat} (hn : now < 4611686018427387904) (hx : CellIn c.r.pace K now x) (hcost : 1 ≤ cost ∧ cost ≤ c.r.burst) (hK : K + c.r.limit.toNat ≤ 4194304) : Tells c.r cost (cellAsk c.r x now cost).1 := by
  have ht := hc.tame (now := (now : Int)) (by omega)
  have hm := hx.mild ht (by omega)
  have hy := cellAsk_in hc hn hx hcost (by omega)
  have hym := hy.mild ht (by omega)
  have hwr := wait_room hm ht (cost := cost) hcost
  have hw0 := wait_nonneg (x := x) (p := c.r.pace) (now := (now : Int)) (cost := cost)
  have hb : c.r.pace.burst = c.r.burst := rfl
  unfold cellAsk at *
  split
  · rename_i h
    rw [if_pos h] at hym
    have := room_in hym ht
    exact ⟨.inl rfl, this, by simp, by simp, fun h => by simp at h⟩
  · rename_i h
    have := room_in hm ht
    exact ⟨.inr rfl, this, hw0, ⟨fun h => by simp at h, fun h2 => absurd (hwr.1 h2) h⟩, fun _ => by simp only; omega⟩
theorem ringAsk_tells {x : Rs} {key : List UInt8} {cost : Int} (hc : c.Ok) (h : ∀ N ∈ x.N, Upto K N) (hr : RingOf c x) (hcost : 1 ≤ cost ∧ cost ≤ c.r.burst) (hK : K ≤ 4194304) : Tells c.r cost (ringAsk c x key cost).1 := by
  obtain ⟨r1, r2, r3, r4⟩ := hr
  have hb := hc.burst
  have hl := hc.limit
  have hw := waitS_room (R := c.R) (wd := c.wd) (x := x) (key := key) (cost := cost) r1 r3
  have he := estS_upto (R := c.R) (wd := c.wd) h (by omega) r4 key
  have hs : sum (estS c.R c.wd x key) cost = estS c.R c.wd x key + cost := sum_in (by unfold I64; omega)
  rw [hs, r2] at hw
  unfold ringAsk
  rw [hs]
  split
  · rename_i hle
    have := bounded_in (r := c.r) (n := c.r.limit - estS c.R c.wd (addR c.R c.wd x key cost) key) (by omega)
    exact ⟨.inl rfl, this, by simp, by simp, fun h => by simp at h⟩
  · rename_i hle
    have h1 := bounded_in (r := c.r) (n := c.r.limit - estS c.R c.wd x key) (by omega)
    refine ⟨.inr rfl, h1, hw.1, ⟨fun h => by simp at h, fun h2 => absurd (hw.2.1 h2) hle⟩, fun _ => ?_⟩
    show bounded c.r (c.r.limit - estS c.R c.wd x key) < cost
    unfold bounded; omega
theorem check_tells (h : Inv c s K) (hc : c.Ok) (hr : RingOf c s.ring) {now : Nat} (hn : s.ring.now ≤ now) {held : Int} {key : List UInt8} {cost : Int} (hf : refuse c.r now held cost = none) (hK : K + c.step ≤ 4194304) : Tells c.r cost (check c s now held key cost).1 := by
  have hstep : c.step = 2 * c.r.limit.toNat + 1 := rfl
  obtain ⟨hcost, hnow, _⟩ := refuse_none hf
  have hnow' : now < 4611686018427387904 := by omega
  obtain ⟨t1, t2⟩ := h.to hn hnow'
  have t3 := t1.offered hc.tr.1 key cost
  have e0 : ((s.to (now : Int)).offered c key cost).ring.now = now := t2
  have e1 : ((s.to (now : Int)).offered c key cost).ring.st.length ≤ 65 := hr.2.2.2
  obtain ⟨u1, u2, u3⟩ := t3.settle hc e1 key (by omega)
  have hrq := rk_settle c ((s.to (now : Int)).offered c key cost) now key
  rw [e0] at u1 u2 u3
  have e : (check c s now held key cost).1 = (answer c (settle c ((s.to (now : Int)).offered c key cost) now key).1 (settle c ((s.to (now : Int)).offered c key cost) now key).2.2 now key cost).1 := by unfold check; rw [hf]
  rw [e]
  generalize settle c ((s.to (now : Int)).offered c key cost) now key = q at *
  obtain ⟨o, ev, s4⟩ := q
  simp only at *
  cases o with
  | some i =>
    refine cellAsk_tells hc hnow' (K := K + c.r.limit.toNat) ?_ hcost (by omega)
    rw [List.getD_eq_getElem?_getD]
    have hcl := u1.cells
    rw [u2] at hcl
    cases hcc : s4.pool.C[i]? with
    | none => exact zero_in (bu_pos hc) (by omega) (by omega)
    | some y => exact hcl y (List.mem_of_getElem? hcc)
  | none => exact ringAsk_tells hc u1.cnt (RingOf.rk (x := s.ring) hr (by rw [hrq]; rfl)) hcost (by omega)
/-- What a peek tells. -/
theorem peek_tells (h : Inv c s K) (hc : c.Ok) (hr : RingOf c s.ring) {now : Nat} (hn : s.ring.now ≤ now) {held : Int} {key : List UInt8} {cost : Int} (hf : refuse c.r now held cost = none) :
    Tells c.r cost (peek c s now held key cost).1 ∧ ((peek c s now held key cost).1.verdict = 1 ↔ cost ≤ (peek c s now held key cost).1.remaining) := by
  obtain ⟨hcost, hnow, _⟩ := refuse_none hf
  have hnow' : now < 4611686018427387904 := by omega
  have hbig := h.big
  obtain ⟨t1, t2⟩ := h.to hn hnow'
  have ht := hc.tame (now := (now : Int)) (by omega)
  have hb := hc.burst
  have hl := hc.limit
  have e : (peek c s now held key cost).1 = peekA c (s.to now) now key cost := by unfold peek; rw [hf]
  rw [e]
  have core : ∀ q : Int × Int, 0 ≤ q.1 ∧ q.1 ≤ c.r.burst → 0 ≤ q.2 → (q.2 = 0 ↔ cost ≤ q.1) → Tells c.r cost ⟨if 0 < q.2 then 2 else 1, q.1, q.2⟩ ∧ ((if 0 < q.2 then (2 : Int) else 1) = 1 ↔ cost ≤ q.1) := by
    rintro ⟨a, b⟩ h1 h2 h3
    simp only at *
    by_cases hb0 : 0 < b
    · rw [if_pos hb0]
      refine ⟨⟨.inr rfl, h1, h2, ⟨fun h => by simp at h, fun h => by simp only at h; omega⟩, fun _ => ?_⟩, ⟨fun h => by simp at h, fun h => by have := h3.2 h; omega⟩⟩
      simp only
      have : ¬ cost ≤ a := fun h => by have := h3.2 h; omega
      omega
    · rw [if_neg hb0]
      have hz : b = 0 := by omega
      exact ⟨⟨.inl rfl, h1, h2, ⟨fun _ => hz, fun _ => rfl⟩, fun h => by simp at h⟩, ⟨fun _ => h3.1 hz, fun _ => rfl⟩⟩
  unfold peekA
  cases hq : peekC c (s.to (now : Int)) now key with
  | some x =>
    have hm : Mild x := by
      unfold peekC at hq
      split at hq
      · cases hq
        rename_i i hp
        have hx : CellIn c.r.pace K now ((s.to (now : Int)).pool.C.getD i .zero) := by
          rw [List.getD_eq_getElem?_getD]
          have hcl := t1.cells
          rw [t2] at hcl
          cases hcc : (s.to (now : Int)).pool.C[i]? with
          | none => exact zero_in (bu_pos hc) (by omega) (by omega)
          | some y => exact hcl y (List.mem_of_getElem? hcc)
        exact hx.mild ht (by omega)
      · split at hq
        · cases hq
        · cases hq
          have := fresh_in t1 hc hr.2.2.2 key
          rw [t2] at this
          exact this.mild ht (by omega)
    exact core (x.room c.r.pace now, x.wait c.r.pace now cost) (room_in hm ht) wait_nonneg (wait_room hm ht hcost)
  | none =>
    have hr' : RingOf c (s.to (now : Int)).ring := RingOf.rk (x := s.ring) hr rfl
    obtain ⟨r1, r2, r3, r4⟩ := hr'
    have hw := waitS_room (R := c.R) (wd := c.wd) (x := (s.to (now : Int)).ring) (key := key) (cost := cost) r1 r3
    have he := estS_upto (R := c.R) (wd := c.wd) t1.cnt (by omega) r4 key
    have hs : sum (estS c.R c.wd (s.to (now : Int)).ring key) cost = estS c.R c.wd (s.to (now : Int)).ring key + cost := sum_in (by unfold I64; omega)
    rw [hs, r2] at hw
    refine core (bounded c.r (c.r.limit - estS c.R c.wd (s.to (now : Int)).ring key), waitS c.R c.wd (s.to (now : Int)).ring key cost) (bounded_in (by omega)) hw.1 ?_
    simp only
    rw [hw.2]
    unfold bounded
    omega
end
end Go.Proofs.Ytndekdafiaogmaa.Lim
end

section
namespace Go.Proofs.Ytndekdafiaogmaa.Lim
open Go Go.RowKit Go.YtndekdafiaogmaaMem Go.YtndekdafiaogmaaLex Go.Proofs.Ytndekdafiaogmaa.Hash Go.Proofs.Ytndekdafiaogmaa.Arith Go.Proofs.Ytndekdafiaogmaa.Index Go.Proofs.Ytndekdafiaogmaa.Cell Go.Proofs.Ytndekdafiaogmaa.Slot
open Go.Proofs.Ytndekdafiaogmaa.Pool (PS putP remP pairs PB PoolAt firstIdle)
open Go.Proofs.Ytndekdafiaogmaa.Ring (Rs RiB RingAt estS addR waitS massS Small small_get leastV leastV_small ring0)
open Go.Proofs.Ytndekdafiaogmaa.Sum (Ent OkE SB SumAt countE leastOf)
set_option linter.unusedVariables false
set_option linter.unusedSimpArgs false

theorem inrow_mod {α : Type} {w w' : World} {a : Option Addr} {k : Nat} {enc : α → List Value} {l : List α} (h : InRow w a k enc l) (hm : Mod [] w w') : InRow w' a k enc l := by
  intro i x hx
  obtain ⟨b, off, ha, hb, hc⟩ := h i x hx
  exact ⟨b, off, ha, hm.lt hb, fun j u hu => (hm.cell (a := ⟨b, off + i * k + j, none⟩) hb (by simp)).trans (hc j u hu)⟩
theorem inrow_get {w : World} {a : Option Addr} {l : List Call} (h : InRow w a 4 Call.cells l) {j : Nat} {q : Call} (hq : l[j]? = some q) :
    ∃ b off, a = some ⟨b, off, none⟩ ∧ ∀ W, Mod [] w W → W.cell? ⟨b, off + j * 4, none⟩ = some (.int .i64 q.gap) ∧ W.cell? ⟨b, off + j * 4 + 1, none⟩ = some (.int .i64 q.cost) ∧ W.cell? ⟨b, off + j * 4 + 2, none⟩ = some (.string ⟨q.key.toArray⟩) ∧ W.cell? ⟨b, off + j * 4 + 3, none⟩ = some (.bool q.peek) := by
  obtain ⟨b, off, ha, hb, hc⟩ := h j q hq
  exact ⟨b, off, ha, fun W hM => ⟨(hM.cell (a := ⟨b, off + j * 4, none⟩) hb (by simp)).trans (hc 0 _ rfl), (hM.cell (a := ⟨b, off + j * 4 + 1, none⟩) hb (by simp)).trans (hc 1 _ rfl), (hM.cell (a := ⟨b, off + j * 4 + 2, none⟩) hb (by simp)).trans (hc 2 _ rfl), (hM.cell (a := ⟨b, off + j * 4 + 3, none⟩) hb (by simp)).trans (hc 3 _ rfl)⟩⟩
theorem light_spec {l : List Call} (h : lightB l = true) : l.length ≤ 150 ∧ ∀ q ∈ l, q.key.length ≤ 64 := by
  unfold lightB at h
  simp only [Bool.and_eq_true, decide_eq_true_eq, List.all_eq_true] at h
  exact h
/-- What a law's loop keeps of a limiter. -/
structure Kept (c : Cf) (s : Lm) (k now : Nat) : Prop where
  inv : Inv c s (65 * k)
  time : s.ring.now ≤ now ∧ now ≤ 1023 * k
  t : 0 ≤ s.t ∧ s.t ≤ 63 * k
  len : s.pool.S.length = c.r.cells.toNat
theorem kept0 (c : Cf) (hc : c.Ok) : Kept c (new0 c) 0 0 := by
  refine ⟨new0_inv c hc, ⟨Nat.le_refl _, Nat.le_refl _⟩, by simp [new0], by simp [new0, emp]⟩
theorem Kept.check {c : Cf} {s : Lm} {k now : Nat} (h : Kept c s k now) (hc : c.Ok) (hl : c.r.limit ≤ 32) (hk : k < 150) (hf : s.ring.st.length ≤ 65) {g : Nat} (hg : g ≤ 1023) (held : Int) {key : List UInt8} (hkey : key.length ≤ 64) {n : Nat} (hn : n ≤ 63) :
    Kept c (check c s ((now + g : Nat) : Int) held key n).2.2 (k + 1) (now + g) := by
  have hstep : c.step = 2 * c.r.limit.toNat + 1 := rfl
  have h1 := h.time
  obtain ⟨i1, i2, i3⟩ := h.inv.check hc hf (now := now + g) (by omega) held key n (by omega)
  refine ⟨i1.mono (by omega) (by omega), ⟨i3, by omega⟩, ?_, ?_⟩
  · rw [check_t]
    have ht := h.t
    split
    · rename_i hr
      cases hr2 : refuse c.r ((now + g : Nat) : Int) held n with
      | some a => rw [hr2] at hr; simp at hr
      | none =>
        have := (refuse_none hr2).1
        rw [offer_t (key := key) (cost := (n : Int)) (by omega) hkey (by omega)]
        omega
    · omega
  · rw [check_slen]; exact h.len
theorem wrap_small {z : Int} (h0 : -4611686018427387904 ≤ z) (h1 : z ≤ 4611686018427387904) : wrap64 z = z := by unfold wrap64; omega
theorem mod7 {k m : Nat} (h : k % 7 = m) : (k : Int) % 7 = (m : Int) := by omega
theorem tmod7 {k m : Nat} (h : k % 7 = m) : (k : Int).tmod 7 = (m : Int) := by rw [Int.tmod_eq_emod_of_nonneg (Int.natCast_nonneg k)]; exact mod7 h
theorem small_all {k t : Nat} {al de bad st : Int} (hk : k ≤ 149) (ht : t ≤ 1023 * k) (h1 : 0 ≤ al ∧ al ≤ ((65 * k : Nat) : Int)) (h2 : 0 ≤ de ∧ de ≤ ((65 * k : Nat) : Int)) (h3 : 0 ≤ bad ∧ bad ≤ ((65 * k : Nat) : Int)) (h4 : 0 ≤ st ∧ st ≤ 63 * (k : Int)) :
    k ≤ 149 ∧ t ≤ 200000 ∧ (0 ≤ al ∧ al ≤ 10000) ∧ (0 ≤ de ∧ de ≤ 10000) ∧ (0 ≤ bad ∧ bad ≤ 10000) ∧ 0 ≤ st ∧ st ≤ 10000 := by omega
theorem sl_slice {w : World} {v : Value} {xs : List Value} (h : Sl w v xs) : ∃ a c, v = .slice a xs.length c := by
  rcases h with ⟨rfl, a, c, rfl⟩ | ⟨b, off, cap, rfl, _⟩
  · exact ⟨a, c, rfl⟩
  · exact ⟨_, cap, rfl⟩
theorem Kept.skip {c : Cf} {s : Lm} {k now : Nat} (h : Kept c s k now) (hk : k < 150) {g : Nat} (hg : g ≤ 1023) : Kept c s (k + 1) (now + g) := by
  have h1 := h.time
  have h2 := h.t
  exact ⟨h.inv.mono (by omega) (by omega), by omega, by omega, h.len⟩
theorem Kept.both {c : Cf} {s : Lm} {k now : Nat} (h : Kept c s k now) (hc : c.Ok) (hl : c.r.limit ≤ 32) (hk : k < 150) (hf : s.ring.st.length ≤ 65) {g : Nat} (hg : g ≤ 1023) {key : List UInt8} (hkey : key.length ≤ 64) {n : Nat} (hn : n ≤ 63) :
    Kept c (Lim.check c (s.to ((now + g : Nat) : Int)) ((now + g : Nat) : Int) 0 key n).2.2 (k + 1) (now + g) := by
  have h1 := h.time
  have hstep : c.step = 2 * c.r.limit.toNat + 1 := rfl
  obtain ⟨j1, j2⟩ := h.inv.to (now := now + g) (by omega) (by omega)
  obtain ⟨i1, i2, i3⟩ := j1.check hc (by exact hf) (now := now + g) (by omega) 0 key n (by omega)
  refine ⟨i1.mono (by omega) (by omega), ⟨i3, by omega⟩, ?_, ?_⟩
  · rw [check_t]
    have ht := h.t
    have e1 : (s.to ((now + g : Nat) : Int)).t = s.t := rfl
    have e2 : (s.to ((now + g : Nat) : Int)).E = s.E := rfl
    rw [e1, e2]
    split
    · rename_i hr
      cases hr2 : refuse c.r ((now + g : Nat) : Int) 0 n with
      | some a => rw [hr2] at hr; simp at hr
      | none =>
        have := (refuse_none hr2).1
        rw [offer_t (key := key) (cost := (n : Int)) (by omega) hkey (by omega)]
        omega
    · omega
  · rw [check_slen]; exact h.len
theorem hbig0 {c : Cf} {s : Lm} {K : Nat} (h : Inv c s K) : K ≤ 4194304 := h.big
theorem small_kt {k t : Nat} (hk : k ≤ 149) (ht : t ≤ 1023 * k) : k ≤ 149 ∧ t ≤ 200000 := by omega
theorem ring_of0 {r : Rule} {ds : List Nat} (hr : RuleOk r) : RingOf (cfOf r ds) (new0 (cfOf r ds)).ring := by
  have h1 := hr.slots
  have h2 := hr.window
  refine ⟨?_, rfl, ?_, ?_⟩
  · show 1 ≤ r.window.toNat / r.slots.toNat
    exact Nat.div_pos (by omega) (by omega)
  · show 1 ≤ (List.replicate (r.slots.toNat + 1) (0 : Int)).length
    rw [List.length_replicate]; omega
  · show (List.replicate (r.slots.toNat + 1) (0 : Int)).length ≤ 65
    rw [List.length_replicate]; omega
theorem u64s {zs : List Int} (hw : ∀ z ∈ zs, (Lit.int .u64 z).wf = true) : ∃ ds : List Nat, zs.map (Value.int .u64) = v64 ds ∧ ∀ x, x ∈ ds → x < 18446744073709551616 := by
  refine ⟨zs.map Int.toNat, ?_, fun x hx => ?_⟩
  · unfold v64
    rw [List.map_map]
    refine List.map_congr_left fun z hz => ?_
    have : 0 ≤ z ∧ z ≤ 18446744073709551615 := by simpa [Lit.wf, IntKind.min, IntKind.max, IntKind.signed, IntKind.bits] using hw z hz
    show Value.int .u64 z = Value.int .u64 (z.toNat : Int)
    rw [Int.toNat_of_nonneg (by omega)]
  · obtain ⟨z, hz, rfl⟩ := List.mem_map.1 hx
    have : 0 ≤ z ∧ z ≤ 18446744073709551615 := by simpa [Lit.wf, IntKind.min, IntKind.max, IntKind.signed, IntKind.bits] using hw z hz
    omega
end Go.Proofs.Ytndekdafiaogmaa.Lim
end
