/- limiter's laws: plain facts: each key has a cell of its own while there are cells (LimiterExact). -/
import Derived.Test.YtndekdafiaogmaaZLimE
set_option linter.unusedSimpArgs false
set_option linter.unusedVariables false
section
namespace Go.Proofs.Ytndekdafiaogmaa.Lim
open Go Go.RowKit Go.YtndekdafiaogmaaMem Go.YtndekdafiaogmaaLex Go.Proofs.Ytndekdafiaogmaa.Hash Go.Proofs.Ytndekdafiaogmaa.Arith Go.Proofs.Ytndekdafiaogmaa.Index Go.Proofs.Ytndekdafiaogmaa.Cell Go.Proofs.Ytndekdafiaogmaa.Slot
open Go.Proofs.Ytndekdafiaogmaa.Pool (PS putP remP pairs PB PoolAt firstIdle)
open Go.Proofs.Ytndekdafiaogmaa.Ring (Rs RiB RingAt estS addR waitS waitK massS massTo fromTo fromS eldestS slotNo leastV countV Small ring0)
open Go.Proofs.Ytndekdafiaogmaa.Sum (Ent OkE SB SumAt countE leastOf)
structure Bare (x : Cell) (p : Pace) (now : Int) : Prop where
 carry : x.carry = 0
 used : 0 ≤ x.used
 since : x.since ≤ now
 full : x.since + x.used * p.unit ≤ x.full
theorem Bare.later {x : Cell} {p : Pace} {now now' : Int} (h : Bare x p now) (hn : now ≤ now') : Bare x p now' := ⟨h.carry, h.used, by have := h.since; omega, h.full⟩
theorem lt_of_mul_lt {a b u : Int} (hu : 1 ≤ u) (h : a * u < b * u) : a < b := by
 rcases Int.lt_or_le a b with h1 | h1
 ·exact h1
 ·have := Int.mul_le_mul_of_nonneg_right h1 (show 0 ≤ u by omega)
  omega
section
variable {x : Cell} {p : Pace} {now cost : Int}
theorem Bare.room (h : Bare x p now) (hx : Mild x) (hp : Tame p now) (hb : 1 ≤ p.burst) (hw : p.window ≤ p.unit * (p.limit + 1 - p.burst)) : x.room p now = x.free p now := by
 have hf := free_in hx hp
 have hs : sum x.carry x.used = x.carry + x.used := sum_in (by have := hx.carry; have := hx.used; unfold I64; omega)
 have hsi : sum x.since p.window = x.since + p.window := sum_in (by have := hx.since; have := hp.window; unfold I64; omega)
 have y1 : x.young p now = true ↔ now < x.since + p.window := by unfold Cell.young; rw [hsi]; simp
 obtain ⟨c1, c2, c3, c4⟩ := h
 have hu := hp.unit
 have hl := hp.limit
 unfold Cell.room
 rw [hs, c1]
 by_cases hy : x.young p now = true
 ·rw [if_pos hy]
  have hyo := y1.1 hy
  have e1 : p.unit * (p.limit + 1 - p.burst) = (p.limit + 1 - p.burst) * p.unit := Int.mul_comm _ _
  rw [e1] at hw
  have key : x.free p now = 0 ∨ x.used + x.free p now < p.limit + 1 := by
   unfold Cell.free
   split
   ·split
    ·exact .inl rfl
    ·rename_i ha hbb
     right
     refine lt_of_mul_lt (u := p.unit) (by omega) ?_
     rw [Int.tdiv_eq_ediv_of_nonneg (by omega), Int.add_mul]
     have hd : (p.burst * p.unit - (x.full - now)) / p.unit * p.unit ≤ p.burst * p.unit - (x.full - now) := Int.ediv_mul_le _ (by omega)
     have e2 : (p.limit + 1 - p.burst) * p.unit = (p.limit + 1) * p.unit - p.burst * p.unit := Int.sub_mul _ _ _
     omega
   ·right
    have h3 : x.used < p.limit + 1 - p.burst := by
     refine lt_of_mul_lt (u := p.unit) (by omega) ?_
     omega
    omega
  omega
 ·rw [if_neg hy]
theorem Bare.wait (h : Bare x p now) (hx : Mild x) (hp : Tame p now) (hw : p.window ≤ p.unit * (p.limit + 1 - p.burst)) : x.wait p now cost = x.lag p now cost := by
 obtain ⟨c1, c2, c3, c4⟩ := h
 have hu := hp.unit
 unfold Cell.wait
 split
 ·rename_i hq
  obtain ⟨_, hq⟩ := hq
  have e1 : p.unit * (p.limit + 1 - p.burst) = (p.limit + 1 - p.burst) * p.unit := Int.mul_comm _ _
  rw [e1] at hw
  have h2 : (p.limit + 1 - p.burst) * p.unit ≤ (x.used + (cost - p.burst)) * p.unit := Int.mul_le_mul_of_nonneg_right (by omega) (by omega)
  have e2 : (x.used + (cost - p.burst)) * p.unit = x.used * p.unit + (cost - p.burst) * p.unit := Int.add_mul _ _ _
  have e3 : (cost - p.burst) * p.unit = -((p.burst - cost) * p.unit) := by rw [← Int.neg_mul]; congr 1; omega
  have hlg : x.lag p now cost = max (max x.full now - (now + (p.burst - cost) * p.unit)) 0 := rfl
  omega
 ·rfl
theorem Bare.took (h : Bare x p now) (hp : Tame p now) (hc : 0 ≤ cost) : Bare { x with full := max x.full now + cost * p.unit, used := x.used + cost } p now := by
 obtain ⟨c1, c2, c3, c4⟩ := h
 refine ⟨c1, by show 0 ≤ x.used + cost; omega, c3, ?_⟩
 show x.since + (x.used + cost) * p.unit ≤ max x.full now + cost * p.unit
 rw [Int.add_mul]; omega
theorem Bare.fresh {p : Pace} {now : Int} : Bare (fresh now 0) p now := ⟨rfl, Int.le_refl _, Int.le_refl _, by show now + 0 * p.unit ≤ now; omega⟩
end
def only (f : Int) : Cell := ⟨f, 0, 0, 0⟩
theorem free_only (x : Cell) (p : Pace) (now : Int) : x.free p now = (only x.full).free p now := rfl
theorem lag_only (x : Cell) (p : Pace) (now cost : Int) : x.lag p now cost = (only x.full).lag p now cost := rfl
theorem free_now (p : Pace) (now : Int) : (only now).free p now = p.burst := by unfold Cell.free; rw [if_neg (by show ¬ 0 < now - now; omega)]
theorem lag_now {p : Pace} {now cost : Int} (hu : 0 ≤ p.unit) (hc : cost ≤ p.burst) : (only now).lag p now cost = 0 := by
 have hB : 0 ≤ (p.burst - cost) * p.unit := Int.mul_nonneg (by omega) hu
 show max (max now now - (now + (p.burst - cost) * p.unit)) 0 = 0
 omega
def tookF (p : Pace) (f now cost : Int) : Int := if cost ≤ (only f).free p now then max f now + cost * p.unit else f
def ansV (r w : Int) : Ans := ⟨if 0 < w then 2 else 1, r, w⟩
def ownA (p : Pace) (f now cost : Int) : Ans := ansV ((only f).free p now) ((only f).lag p now cost)
def ownC (p : Pace) (f now cost : Int) : Ans := ansV ((only (tookF p f now cost)).free p now) ((only f).lag p now cost)
structure ExJ (c : Cf) (s : Lm) (now : Int) (f : List UInt8 → Option Int) (m : Nat) : Prop where
 zero : ZeroN s.ring
 no : ∀ k, f k = none → placeOf s.pool.S k = none
 has : ∀ k z, f k = some z → ∃ i, placeOf s.pool.S k = some i ∧ (s.pool.C.getD i .zero).full = z ∧ Bare (s.pool.C.getD i .zero) c.r.pace now
 free : s.pool.fl.length + m = c.r.cells.toNat
theorem exj_new (c : Cf) (hc : c.Ok) : ExJ c (new0 c) 0 (fun _ => none) 0 := by
 refine ⟨zero_new c hc, fun k _ => placeOf_none fun q hq => emp_no _ _ _ hq, fun k z h => (by simp at h), ?_⟩
 simp [new0]
theorem ExJ.later {c : Cf} {s : Lm} {now now' : Int} {f : List UInt8 → Option Int} {m : Nat} (h : ExJ c s now f m) (hn : now ≤ now') : ExJ c s now' f m :=
 ⟨h.zero, h.no, fun k z hz => by obtain ⟨i, a, b, d⟩ := h.has k z hz; exact ⟨i, a, b, d.later hn⟩, h.free⟩
theorem ExJ.to {c : Cf} {s : Lm} {now : Int} {f : List UInt8 → Option Int} {m : Nat} (h : ExJ c s now f m) (t : Int) : ExJ c (s.to t) now f m := ⟨h.zero, h.no, h.has, h.free⟩
section
variable {c : Cf} {s : Lm} {f : List UInt8 → Option Int} {m K : Nat}
theorem refuse_free {r : Rule} {T : Nat} (hT : T < 4611686018427387904) {cost : Int} (hcost : 1 ≤ cost ∧ cost ≤ r.burst) : refuse r (T : Int) 0 cost = none := by
 unfold refuse
 rw [if_neg (by omega), if_neg (by omega), if_neg (by omega)]
theorem bare_mild (hi : Inv c s K) (hc : c.Ok) {T : Nat} (hT : s.ring.now ≤ T) (hTb : T < 4611686018427387904) (i : Nat) : Mild (s.pool.C.getD i .zero) := by
 have hbig := hi.big
 exact ((hi.cell hc i).mono (Int.le_refl _) (show ((s.ring.now : Nat) : Int) ≤ (T : Int) by omega)).mild (hc.tame (now := (T : Int)) (by omega)) (by omega)
theorem fresh_mild {T : Nat} (hTb : T < 4611686018427387904) : Mild (fresh (T : Int) 0) := by
 unfold fresh
 refine ⟨?_, ?_, ?_, ?_⟩ <;> simp only <;> omega
theorem ExJ.peek {T : Nat} (h : ExJ c s (T : Int) f m) (hi : Inv c s K) (hc : c.Ok) (hf : s.ring.st.length ≤ 65) (hw1 : 1 ≤ s.ring.width) (hlim : s.ring.lim = c.r.limit) (hst : 1 ≤ s.ring.st.length) (hwin : c.r.window ≤ c.r.pace.unit * (c.r.limit + 1 - c.r.burst)) (hT : s.ring.now ≤ T) (hTb : T < 4611686018427387904) (key : List UInt8) {cost : Int} (hcost : 1 ≤ cost ∧ cost ≤ c.r.burst) :
  peek c s (T : Int) 0 key cost = (ownA c.r.pace ((f key).getD T) T cost, s.to T) := by
 have ht := hc.tame (now := (T : Int)) (by omega)
 have hb := hc.burst
 have hlm := hc.limit
 have hpa := hc.pace
 unfold Lim.peek
 rw [refuse_free hTb hcost]
 simp only
 congr 1
 have he : estS c.R c.wd (s.to (T : Int)).ring key = 0 := est_zero (x := (s.to (T : Int)).ring) h.zero hf key
 have fr : (fresh (T : Int) 0).room c.r.pace T = (only (T : Int)).free c.r.pace T ∧ (fresh (T : Int) 0).wait c.r.pace T cost = (only (T : Int)).lag c.r.pace T cost :=
  ⟨Bare.fresh.room (fresh_mild hTb) ht hb.1 hwin, Bare.fresh.wait (fresh_mild hTb) ht hwin⟩
 have ps : ∀ x, peekC c (s.to (T : Int)) T key = some x → peekA c (s.to (T : Int)) T key cost = ansV (x.room c.r.pace T) (x.wait c.r.pace T cost) := fun x hx => by unfold peekA; rw [hx]; rfl
 have pn : peekC c (s.to (T : Int)) T key = none → peekA c (s.to (T : Int)) T key cost = ansV (bounded c.r (c.r.limit - estS c.R c.wd (s.to (T : Int)).ring key)) (waitS c.R c.wd (s.to (T : Int)).ring key cost) := fun hx => by unfold peekA; rw [hx]; rfl
 unfold ownA
 cases hk : f key with
 | some z =>
   obtain ⟨i, hpl, hfu, hba⟩ := h.has key z hk
   have hm := bare_mild hi hc hT hTb i
   have hq : peekC c (s.to (T : Int)) T key = some (s.pool.C.getD i .zero) := by
    unfold peekC
    rw [show placeOf (s.to (T : Int)).pool.S key = some i from hpl]
    rfl
   rw [ps _ hq]
   simp only [Option.getD_some]
   rw [hba.room hm ht hb.1 hwin, hba.wait hm ht hwin, free_only, lag_only, hfu]
 | none =>
   have hpl := h.no key hk
   simp only [Option.getD_none]
   by_cases hfl : (s.to (T : Int)).pool.fl = [] ∧ (idleK c.r T (pairs (s.to (T : Int)).pool.S (s.to (T : Int)).pool.C)).isNone
   ·have hq : peekC c (s.to (T : Int)) T key = none := by
     unfold peekC
     rw [show placeOf (s.to (T : Int)).pool.S key = none from hpl]
     simp only
     rw [if_pos hfl]
    rw [pn hq]
    have hws := waitS_room (R := c.R) (wd := c.wd) (x := (s.to (T : Int)).ring) (key := key) (cost := cost) hw1 hst
    have hsum : sum (estS c.R c.wd (s.to (T : Int)).ring key) cost = cost := by rw [he, sum_in (by unfold I64; omega)]; omega
    rw [hsum] at hws
    have hw0 : waitS c.R c.wd (s.to (T : Int)).ring key cost = 0 := hws.2.2 (by show cost ≤ s.ring.lim; omega)
    rw [hw0, he, free_now, lag_now (by omega) hcost.2]
    have : bounded c.r (c.r.limit - 0) = c.r.pace.burst := by unfold bounded; show _ = c.r.burst; omega
    rw [this]
   ·have hq : peekC c (s.to (T : Int)) T key = some (fresh T 0) := by
     unfold peekC
     rw [show placeOf (s.to (T : Int)).pool.S key = none from hpl]
     simp only
     rw [if_neg hfl, he]
    rw [ps _ hq, fr.1, fr.2]
theorem own_ask {x : Cell} {r : Rule} {T cost : Int} (h : Bare x r.pace T) (hm : Mild x) (ht : Tame r.pace T) (hb : 1 ≤ r.burst) (hcost : 1 ≤ cost ∧ cost ≤ r.burst) (hwin : r.window ≤ r.pace.unit * (r.limit + 1 - r.burst))
  (hm2 : cost ≤ x.room r.pace T → Mild { x with full := max x.full T + cost * r.pace.unit, used := x.used + cost }) :
  (cellAsk r x T cost).1 = ownC r.pace x.full T cost ∧ (cellAsk r x T cost).2.full = tookF r.pace x.full T cost ∧ Bare (cellAsk r x T cost).2 r.pace T := by
 have hr := h.room hm ht hb hwin
 have hwt := h.wait (cost := cost) hm ht hwin
 have hwr := wait_room hm ht (cost := cost) hcost
 have hw0 := wait_nonneg (x := x) (p := r.pace) (now := T) (cost := cost)
 unfold cellAsk ownC tookF
 rw [← free_only, ← lag_only, ← hr, ← hwt]
 by_cases hle : cost ≤ x.room r.pace T
 ·rw [if_pos hle, if_pos hle]
  have hz := hwr.2 hle
  have hb2 := h.took (cost := cost) ht (by omega)
  have hr2 := hb2.room (hm2 hle) ht hb hwin
  refine ⟨?_, rfl, hb2⟩
  show (⟨1, _, 0⟩ : Ans) = ansV _ _
  rw [hr2, hz]
  rfl
 ·rw [if_neg hle, if_neg hle]
  have hz : ¬ x.wait r.pace T cost = 0 := fun hh => hle (hwr.1 hh)
  refine ⟨?_, rfl, h⟩
  unfold ansV
  rw [if_pos (by omega), ← free_only, ← hr]
theorem took_mild {x : Cell} {c : Cf} (hc : c.Ok) {K T : Nat} (hK : K ≤ 4194304) (hT : T < 4611686018427387904) (h : CellIn c.r.pace K T x) {cost : Int} (hcost : 1 ≤ cost ∧ cost ≤ c.r.burst) (hle : cost ≤ x.free c.r.pace T) : Mild { x with full := max x.full T + cost * c.r.pace.unit, used := x.used + cost } := by
 have ht := hc.tame (now := (T : Int)) (by omega)
 have hl := (lag_room (x := x) ht (cost := cost) hcost).2 hle
 have hlg : x.lag c.r.pace T cost = max (max x.full T - (T + (c.r.pace.burst - cost) * c.r.pace.unit)) 0 := rfl
 have e := Int.sub_mul c.r.pace.burst cost c.r.pace.unit
 have hcu : 0 ≤ cost * c.r.pace.unit := Int.mul_nonneg (by omega) (by have := ht.unit; omega)
 have hal := ht.all
 have hlm := hc.limit
 have hbu := hc.burst
 obtain ⟨h1, h2, h3, h4⟩ := h
 refine ⟨?_, ?_, ?_, ?_⟩ <;> simp only <;> omega
def putF (f : List UInt8 → Option Int) (key : List UInt8) (z : Int) : List UInt8 → Option Int := fun k => if k = key then some z else f k
theorem putF_own (f : List UInt8 → Option Int) (key : List UInt8) (z : Int) : putF f key z key = some z := by unfold putF; rw [if_pos rfl]
theorem putF_other (f : List UInt8 → Option Int) {key k : List UInt8} (h : k ≠ key) (z : Int) : putF f key z k = f k := by unfold putF; rw [if_neg h]
theorem place_ne {S : List (Option (List UInt8))} {key k : List UInt8} {i j : Nat} (h1 : placeOf S key = some i) (h2 : placeOf S k = some j) (h : k ≠ key) : ¬ i = j := fun hh => by
 subst hh
 have e1 := placeOf_get h1
 have e2 := placeOf_get h2
 rw [e1] at e2
 simp at e2
 exact h e2.symm
theorem getD_set_ne {C : List Cell} {i j : Nat} (h : ¬ i = j) (x : Cell) : (C.set i x).getD j .zero = C.getD j .zero := by
 rw [List.getD_eq_getElem?_getD, List.getD_eq_getElem?_getD, List.getElem?_set, if_neg h]
theorem placeOf_put_other {S : List (Option (List UInt8))} {key k : List UInt8} {j i : Nat} (hu : Uniq S) (hn : placeOf S key = none) (hj : S[j]? = some none) (hk : k ≠ key) (hi : placeOf S k = some i) : placeOf (S.set j (some key)) k = some i ∧ ¬ j = i := by
 have hjl : j < S.length := (List.getElem?_eq_some_iff.1 hj).1
 have hget : ∀ p, (S.set j (some key))[p]? = if j = p then some (some key) else S[p]? := fun p => by
  rw [List.getElem?_set]
  by_cases hip : j = p
  ·subst hip; simp [hjl]
  ·simp [hip]
 have hgi := placeOf_get hi
 have hij : ¬ j = i := fun hh => by subst hh; rw [hj] at hgi; simp at hgi
 refine ⟨placeOf_there (fun p q a hpa hqa => ?_) (by rw [hget, if_neg hij]; exact hgi), hij⟩
 rw [hget] at hpa hqa
 split at hpa
 ·split at hqa
  ·omega
  ·simp at hpa; subst hpa; exact absurd hqa (placeOf_no hn q)
 ·split at hqa
  ·simp at hqa; subst hqa; exact absurd hpa (placeOf_no hn p)
  ·exact hu p q a hpa hqa
theorem placeOf_put_none {S : List (Option (List UInt8))} {key k : List UInt8} {j : Nat} (hj : S[j]? = some none) (hk : k ≠ key) (hi : placeOf S k = none) : placeOf (S.set j (some key)) k = none := by
 refine placeOf_none fun q hq => ?_
 rw [List.getElem?_set] at hq
 split at hq
 ·split at hq
  ·simp at hq; exact hk hq.symm
  ·cases hq
 ·exact placeOf_no hi q hq
theorem ExJ.check {T : Nat} (h : ExJ c s (T : Int) f m) (hi : Inv c s K) (hp : PoolOk s.pool) (hc : c.Ok) (hf : s.ring.st.length ≤ 65) (hwin : c.r.window ≤ c.r.pace.unit * (c.r.limit + 1 - c.r.burst)) (hT : s.ring.now ≤ T) (hTb : T < 4611686018427387904) {key : List UInt8} (hk64 : key.length ≤ 64) {cost : Int} (hcost : 1 ≤ cost ∧ cost ≤ c.r.burst)
  (hm : f key = none → m < c.r.cells.toNat) :
  (check c s (T : Int) 0 key cost).1 = ownC c.r.pace ((f key).getD T) T cost ∧ ExJ c (check c s (T : Int) 0 key cost).2.2 (T : Int) (putF f key (tookF c.r.pace ((f key).getD T) T cost)) (if (f key).isSome then m else m + 1) := by
 have ht := hc.tame (now := (T : Int)) (by omega)
 have hb := hc.burst
 have hK := hi.big
 have hrf := refuse_free (r := c.r) hTb hcost
 cases hk : f key with
 | some z =>
   obtain ⟨i, hpl, hfu, hba⟩ := h.has key z hk
   have hcin := (hi.cell hc i).mono (Int.le_refl _) (show ((s.ring.now : Nat) : Int) ≤ (T : Int) by omega)
   have hmi := bare_mild hi hc hT hTb i
   have hil : i < s.pool.C.length := by rw [hp.len]; exact (List.getElem?_eq_some_iff.1 (placeOf_get hpl)).1
   have hroom := hba.room hmi ht hb.1 hwin
   obtain ⟨a1, a2, a3⟩ := own_ask hba hmi ht hb.1 hcost hwin (fun hle => took_mild hc hK hTb hcin hcost (by rw [← hroom]; exact hle))
   rw [hfu] at a1 a2
   rw [check_has hrf hpl]
   simp only [Option.getD_some, Option.isSome_some, if_true]
   refine ⟨a1, ?_⟩
   generalize hcv : (cellAsk c.r (s.pool.C.getD i .zero) T cost).1.verdict = v
   generalize (cellAsk c.r (s.pool.C.getD i .zero) T cost).2 = y at *
   have cf := count_facts ({ (s.to (T : Int)).offered c key cost with pool := { s.pool with C := s.pool.C.set i y } } : Lm) v
   refine ⟨by rw [cf.2.1]; exact h.zero, fun k hkn => ?_, fun k z2 hkz => ?_, by rw [cf.1]; exact h.free⟩
   ·rw [cf.1]
    by_cases hkk : k = key
    ·subst hkk; rw [putF_own] at hkn; cases hkn
    ·rw [putF_other f hkk] at hkn; exact h.no k hkn
   ·rw [cf.1]
    by_cases hkk : k = key
    ·subst hkk
     rw [putF_own] at hkz
     simp only [Option.some.injEq] at hkz
     subst hkz
     refine ⟨i, hpl, ?_⟩
     simp only
     rw [getD_set hil]
     exact ⟨a2, a3⟩
    ·rw [putF_other f hkk] at hkz
     obtain ⟨j, j1, j2, j3⟩ := h.has k z2 hkz
     refine ⟨j, j1, ?_⟩
     simp only
     rw [getD_set_ne (place_ne hpl j1 hkk)]
     exact ⟨j2, j3⟩
 | none =>
   have hpl := h.no key hk
   have hfl : s.pool.fl ≠ [] := fun h3 => by
    have := h.free
    have := hm hk
    rw [h3] at *
    simp at *
    omega
   obtain ⟨j, fl, hjf⟩ := List.exists_cons_of_ne_nil hfl
   have hj := hp.free j (by rw [hjf]; simp)
   have hjl : j < s.pool.C.length := by rw [hp.len]; exact (List.getElem?_eq_some_iff.1 hj).1
   have he : fresh (T : Int) (estS c.R c.wd (s.to (T : Int)).ring key) = fresh T 0 := by rw [est_zero (x := (s.to (T : Int)).ring) h.zero hf]
   have hmi := fresh_mild hTb
   have hba : Bare (fresh (T : Int) 0) c.r.pace T := Bare.fresh
   have hcin : CellIn c.r.pace K T (fresh (T : Int) 0) := by
    have := bu_pos hc
    refine ⟨?_, ?_, ?_, ?_⟩ <;> simp only [fresh] <;> omega
   have hroom := hba.room hmi ht hb.1 hwin
   obtain ⟨a1, a2, a3⟩ := own_ask hba hmi ht hb.1 hcost hwin (fun hle => took_mild hc hK hTb hcin hcost (by rw [← hroom]; exact hle))
   rw [show (fresh (T : Int) 0).full = T from rfl] at a1 a2
   rw [check_free hrf hpl hjf hk64 hjl he]
   simp only [Option.getD_none, Option.isSome_none]
   refine ⟨a1, ?_⟩
   generalize hcv : (cellAsk c.r (fresh (T : Int) 0) T cost).1.verdict = v
   generalize (cellAsk c.r (fresh (T : Int) 0) T cost).2 = y at *
   have cf := count_facts ({ (s.to (T : Int)).offered c key cost with pool := ⟨s.pool.S.set j (some key), fl, s.pool.C.set j y⟩ } : Lm) v
   refine ⟨by rw [cf.2.1]; exact h.zero, fun k hkn => ?_, fun k z2 hkz => ?_, ?_⟩
   ·rw [cf.1]
    by_cases hkk : k = key
    ·subst hkk; rw [putF_own] at hkn; cases hkn
    ·rw [putF_other f hkk] at hkn
     exact placeOf_put_none hj hkk (h.no k hkn)
   ·rw [cf.1]
    by_cases hkk : k = key
    ·subst hkk
     rw [putF_own] at hkz
     simp only [Option.some.injEq] at hkz
     subst hkz
     refine ⟨j, placeOf_put hpl hj, ?_⟩
     simp only
     rw [getD_set hjl]
     exact ⟨a2, a3⟩
    ·rw [putF_other f hkk] at hkz
     obtain ⟨i, j1, j2, j3⟩ := h.has k z2 hkz
     obtain ⟨q1, q2⟩ := placeOf_put_other hp.uniq hpl hj hkk j1
     refine ⟨i, q1, ?_⟩
     simp only
     rw [getD_set_ne q2]
     exact ⟨j2, j3⟩
   ·rw [cf.1]
    have h1 := h.free
    rw [hjf] at h1
    simp only [List.length_cons] at h1
    show fl.length + (if false = true then m else m + 1) = _
    simp
    omega
end
end Go.Proofs.Ytndekdafiaogmaa.Lim
end
