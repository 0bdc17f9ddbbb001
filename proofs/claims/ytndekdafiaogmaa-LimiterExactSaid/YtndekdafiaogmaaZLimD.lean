/- limiter's laws: plain facts: peeks beside checks; a key without a cell; how long it is to be waited. | limiter's laws: plain facts: checks of keys that have a cell or find a free one; rings that hold nothing. -/
import Derived.Test.YtndekdafiaogmaaZLimC
set_option linter.unusedSimpArgs false
set_option linter.unusedVariables false
section
namespace Go.Proofs.Ytndekdafiaogmaa.Lim
open Go Go.RowKit Go.YtndekdafiaogmaaMem Go.YtndekdafiaogmaaLex Go.Proofs.Ytndekdafiaogmaa.Hash Go.Proofs.Ytndekdafiaogmaa.Arith Go.Proofs.Ytndekdafiaogmaa.Index Go.Proofs.Ytndekdafiaogmaa.Cell Go.Proofs.Ytndekdafiaogmaa.Slot
open Go.Proofs.Ytndekdafiaogmaa.Pool (PS putP remP pairs PB PoolAt firstIdle)
open Go.Proofs.Ytndekdafiaogmaa.Ring (Rs RiB RingAt estS addR waitS waitK massS massTo fromTo fromS eldestS slotNo leastV countV Small)
open Go.Proofs.Ytndekdafiaogmaa.Sum (Ent OkE SB SumAt countE leastOf)
def Near (s m : Lm) (now : Nat) : Prop := ∃ t : Nat, t ≤ now ∧ s = m.to (t : Int)
theorem lm_to_zero (m : Lm) : m.to ((0 : Nat) : Int) = m := by
 show { m with ring := { m.ring with now := max m.ring.now ((0 : Nat) : Int).toNat } } = m
 rw [show max m.ring.now ((0 : Nat) : Int).toNat = m.ring.now by omega]
theorem lm_to_to (m : Lm) {t u : Nat} (h : t ≤ u) : (m.to (t : Int)).to (u : Int) = m.to (u : Int) := by
 show ({ m with ring := { m.ring with now := max (max m.ring.now ((t : Int).toNat)) ((u : Int).toNat) } } : Lm) = { m with ring := { m.ring with now := max m.ring.now ((u : Int).toNat) } }
 rw [show max (max m.ring.now ((t : Int).toNat)) ((u : Int).toNat) = max m.ring.now ((u : Int).toNat) by omega]
theorem lm_to_count (m : Lm) (t v : Int) : (m.to t).count v = (m.count v).to t := by
 unfold Lm.count
 split
 ·rfl
 ·split <;> rfl
theorem Near.refl (s : Lm) (now : Nat) : Near s s now := ⟨0, Nat.zero_le _, (lm_to_zero s).symm⟩
theorem Near.later {s m : Lm} {now u : Nat} (h : Near s m now) (hu : now ≤ u) : Near s m u := by
 obtain ⟨t, ht, e⟩ := h
 exact ⟨t, by omega, e⟩
theorem Near.peek {c : Cf} {s m : Lm} {now : Nat} (h : Near s m now) (held : Int) (key : List UInt8) (cost : Int) : Near (peek c s (now : Int) held key cost).2 m now := by
 obtain ⟨t, ht, rfl⟩ := h
 unfold Lim.peek
 split
 ·exact ⟨t, ht, rfl⟩
 ·exact ⟨now, Nat.le_refl _, lm_to_to m ht⟩
theorem Near.check {c : Cf} {s m : Lm} {now : Nat} (h : Near s m now) (held : Int) (key : List UInt8) (cost : Int) :
  (check c s (now : Int) held key cost).1 = (check c m (now : Int) held key cost).1 ∧ (check c s (now : Int) held key cost).2.1 = (check c m (now : Int) held key cost).2.1 ∧ Near (check c s (now : Int) held key cost).2.2 (check c m (now : Int) held key cost).2.2 now := by
 obtain ⟨t, ht, rfl⟩ := h
 unfold Lim.check
 split
 ·exact ⟨rfl, rfl, t, ht, lm_to_count m _ _⟩
 ·rw [lm_to_to m ht]
  exact ⟨rfl, rfl, Near.refl _ _⟩
theorem Near.pool {s m : Lm} {now : Nat} (h : Near s m now) : s.pool = m.pool ∧ s.E = m.E ∧ s.t = m.t ∧ s.al = m.al ∧ s.de = m.de ∧ s.bad = m.bad := by
 obtain ⟨t, _, rfl⟩ := h
 exact ⟨rfl, rfl, rfl, rfl, rfl, rfl⟩
section
variable {c : Cf} {s : Lm} {K : Nat}
theorem Inv.cell (h : Inv c s K) (hc : c.Ok) (i : Nat) : CellIn c.r.pace K s.ring.now (s.pool.C.getD i .zero) := by
 rw [List.getD_eq_getElem?_getD]
 cases hcc : s.pool.C[i]? with
 | none => exact zero_in (bu_pos hc) (by omega) (by omega)
 | some y => exact h.cells y (List.mem_of_getElem? hcc)
end
end Go.Proofs.Ytndekdafiaogmaa.Lim
end
section
namespace Go.Proofs.Ytndekdafiaogmaa.Lim
open Go Go.RowKit Go.YtndekdafiaogmaaMem Go.YtndekdafiaogmaaLex Go.Proofs.Ytndekdafiaogmaa.Hash Go.Proofs.Ytndekdafiaogmaa.Arith Go.Proofs.Ytndekdafiaogmaa.Index Go.Proofs.Ytndekdafiaogmaa.Cell Go.Proofs.Ytndekdafiaogmaa.Slot
open Go.Proofs.Ytndekdafiaogmaa.Pool (PS putP remP pairs PB PoolAt firstIdle)
open Go.Proofs.Ytndekdafiaogmaa.Ring (Rs RiB RingAt estS addR waitS waitK massS massTo fromTo fromS eldestS slotNo leastV countV Small)
open Go.Proofs.Ytndekdafiaogmaa.Sum (Ent OkE SB SumAt countE leastOf)
structure PoolOk (s : PS) : Prop where
 free : ∀ j ∈ s.fl, s.S[j]? = some none
 uniq : Uniq s.S
 len : s.C.length = s.S.length
 whole : Whole s.S.length s.S s.fl
 nd : s.fl.Nodup
theorem LimAt.pok {w : World} {B : LB} {c : Cf} {s : Lm} (h : LimAt w B c s) : PoolOk s.pool := by
 refine ⟨fun j hj => ?_, h.pool.idx.uniq, h.pool.len, h.pool.whole, ?_⟩
 ·obtain ⟨k, hk⟩ := List.getElem?_of_mem hj
  obtain ⟨b1, b2, b3, t, bs, nx, T, _, hI⟩ := h.pool.idx
  exact (hI.sto.free k j hk).1
 ·obtain ⟨b1, b2, b3, t, bs, nx, T, _, hI⟩ := h.pool.idx
  exact hI.sto.nodup
theorem placeOf_put {S : List (Option (List UInt8))} {key : List UInt8} {j : Nat} (hn : placeOf S key = none) (hj : S[j]? = some none) : placeOf (S.set j (some key)) key = some j := by
 have hlt : j < S.length := (List.getElem?_eq_some_iff.1 hj).1
 cases hp : placeOf (S.set j (some key)) key with
 | none => exact absurd (by rw [List.getElem?_set]; simp [hlt]) (placeOf_no hp j)
 | some p =>
   have hg := placeOf_get hp
   rw [List.getElem?_set] at hg
   by_cases hjp : j = p
   ·rw [hjp]
   ·rw [if_neg hjp] at hg
    exact absurd hg (placeOf_no hn p)
section
variable {c : Cf} {s : Lm} {now held cost : Int} {key : List UInt8}
theorem settle_has {i : Nat} (hp : placeOf s.pool.S key = some i) : settle c s now key = (some i, [], s) := by unfold settle; rw [hp]
theorem settle_frees {j : Nat} {fl : List Nat} (hp : placeOf s.pool.S key = none) (hfl : s.pool.fl = j :: fl) (hk : key.length ≤ 64) :
  settle c s now key = (some j, [⟨key, true, now⟩], { s with pool := ⟨s.pool.S.set j (some key), fl, s.pool.C.set j (fresh now (estS c.R c.wd s.ring key))⟩ }) := by
 unfold settle settleNew putP
 rw [hp]
 simp only [hfl]
 rw [if_neg (by simp), if_pos hk]
theorem check_has {i : Nat} (hf : refuse c.r now held cost = none) (hp : placeOf s.pool.S key = some i) :
  check c s now held key cost = ((cellAsk c.r (s.pool.C.getD i .zero) now cost).1, [], ({ (s.to now).offered c key cost with pool := { s.pool with C := s.pool.C.set i (cellAsk c.r (s.pool.C.getD i .zero) now cost).2 } } : Lm).count (cellAsk c.r (s.pool.C.getD i .zero) now cost).1.verdict) := by
 unfold check
 rw [hf, settle_has (s := (s.to now).offered c key cost) hp]
 rfl
theorem getD_set {C : List Cell} {j : Nat} (h : j < C.length) (x : Cell) : (C.set j x).getD j .zero = x := by
 rw [List.getD_eq_getElem?_getD, List.getElem?_set]; simp [h]
theorem check_free {j : Nat} {fl : List Nat} (hf : refuse c.r now held cost = none) (hp : placeOf s.pool.S key = none) (hfl : s.pool.fl = j :: fl) (hk : key.length ≤ 64) (hj : j < s.pool.C.length) {x : Cell} (hx : fresh now (estS c.R c.wd (s.to now).ring key) = x) :
  check c s now held key cost = ((cellAsk c.r x now cost).1, [⟨key, true, now⟩], ({ (s.to now).offered c key cost with pool := ⟨s.pool.S.set j (some key), fl, s.pool.C.set j (cellAsk c.r x now cost).2⟩ } : Lm).count (cellAsk c.r x now cost).1.verdict) := by
 unfold check
 rw [hf, settle_frees (s := (s.to now).offered c key cost) hp hfl hk]
 simp only
 rw [show estS c.R c.wd ((s.to now).offered c key cost).ring key = estS c.R c.wd (s.to now).ring key from rfl, hx]
 unfold answer
 simp only
 rw [show ((s.to now).offered c key cost).pool.C = s.pool.C from rfl, show ((s.to now).offered c key cost).pool.S = s.pool.S from rfl, getD_set hj, List.set_set]
end
def ZeroN (x : Rs) : Prop := ∀ N ∈ x.N, Upto 0 N
theorem est_zero {R : List Row} {wd : Nat} {x : Rs} (h : ZeroN x) (hf : x.st.length ≤ 65) (key : List UInt8) : estS R wd x key = 0 := by
 have := estS_upto (R := R) (wd := wd) (K := 0) h (by omega) hf key
 omega
theorem zero_new (c : Cf) (hc : c.Ok) : ZeroN (new0 c).ring := (new0_inv c hc).cnt
section
variable {c : Cf} {s : Lm} {now held cost : Int} {key : List UInt8}
def Room1 (s : PS) (key : List UInt8) : Prop := (∃ i, placeOf s.S key = some i) ∨ (placeOf s.S key = none ∧ s.fl ≠ [])
end
structure Twin (s m : Lm) : Prop where
 pool : s.pool = m.pool
 E : s.E = m.E
 t : s.t = m.t
 al : s.al = m.al
 de : s.de = m.de
 bad : s.bad = m.bad
 z1 : ZeroN s.ring
 z2 : ZeroN m.ring
structure Alike (c d : Cf) : Prop where
 pace : c.r.pace = d.r.pace
 burst : c.r.burst = d.r.burst
 limit : c.r.limit = d.r.limit
 tr : c.tr = d.tr
theorem Twin.count {s m : Lm} (h : Twin s m) (v : Int) : Twin (s.count v) (m.count v) := by
 obtain ⟨h1, h2, h3, h4, h5, h6, h7, h8⟩ := h
 unfold Lm.count
 split
 ·exact ⟨h1, h2, h3, by simp only; omega, h5, h6, h7, h8⟩
 ·split
  ·exact ⟨h1, h2, h3, h4, by simp only; omega, h6, h7, h8⟩
  ·exact ⟨h1, h2, h3, h4, h5, by simp only; omega, h7, h8⟩
theorem cellAsk_alike {c d : Cf} (h : Alike c d) (x : Cell) (now cost : Int) : cellAsk c.r x now cost = cellAsk d.r x now cost := by
 unfold cellAsk; rw [h.pace]
theorem refuse_alike {c d : Cf} (h : Alike c d) (now held cost : Int) : refuse c.r now held cost = refuse d.r now held cost := by
 unfold refuse; rw [h.burst]
theorem Twin.check {c d : Cf} {s m : Lm} (h : Twin s m) (ha : Alike c d) (h1 : s.ring.st.length ≤ 65) (h2 : m.ring.st.length ≤ 65) {now held cost : Int} {key : List UInt8} (hr : Room1 s.pool key) (hk : key.length ≤ 64) (hp : PoolOk s.pool) :
  (check c s now held key cost).1 = (check d m now held key cost).1 ∧ (check c s now held key cost).2.1 = (check d m now held key cost).2.1 ∧ Twin (check c s now held key cost).2.2 (check d m now held key cost).2.2 := by
 have e := refuse_alike ha now held cost
 cases hf : refuse c.r now held cost with
 | some a =>
   have hf2 : refuse d.r now held cost = some a := by rw [← e]; exact hf
   unfold Lim.check
   rw [hf, hf2]
   exact ⟨rfl, rfl, h.count _⟩
 | none =>
   have hf2 : refuse d.r now held cost = none := by rw [← e]; exact hf
   have eo : ((s.to now).offered c key cost).E = ((m.to now).offered d key cost).E ∧ ((s.to now).offered c key cost).t = ((m.to now).offered d key cost).t := by
    show (Sum.offer c.tr (s.E, s.t) key cost).1 = (Sum.offer d.tr (m.E, m.t) key cost).1 ∧ (Sum.offer c.tr (s.E, s.t) key cost).2 = (Sum.offer d.tr (m.E, m.t) key cost).2
    rw [h.E, h.t, ha.tr]; exact ⟨rfl, rfl⟩
   rcases hr with ⟨i, hi⟩ | ⟨hn, hfl⟩
   ·have hi2 : placeOf m.pool.S key = some i := by rw [← h.pool]; exact hi
    rw [check_has hf hi, check_has hf2 hi2, h.pool, cellAsk_alike ha]
    refine ⟨rfl, rfl, ?_⟩
    show Twin (Lm.count _ _) (Lm.count _ _)
    refine Twin.count ?_ _
    exact ⟨rfl, eo.1, eo.2, h.al, h.de, h.bad, h.z1, h.z2⟩
   ·obtain ⟨j, fl, hjf⟩ := List.exists_cons_of_ne_nil hfl
    have hj := hp.free j (by rw [hjf]; simp)
    have hjl : j < s.pool.C.length := by rw [hp.len]; exact (List.getElem?_eq_some_iff.1 hj).1
    have hz1 : fresh now (estS c.R c.wd (s.to now).ring key) = fresh now 0 := by rw [est_zero (x := (s.to now).ring) h.z1 h1]
    have hz2 : fresh now (estS d.R d.wd (m.to now).ring key) = fresh now 0 := by rw [est_zero (x := (m.to now).ring) h.z2 h2]
    rw [check_free hf hn hjf hk hjl hz1, check_free hf2 (by rw [← h.pool]; exact hn) (by rw [← h.pool]; exact hjf) hk (by rw [← h.pool]; exact hjl) hz2, h.pool, cellAsk_alike ha]
    refine ⟨rfl, rfl, ?_⟩
    show Twin (Lm.count _ _) (Lm.count _ _)
    refine Twin.count ?_ _
    exact ⟨rfl, eo.1, eo.2, h.al, h.de, h.bad, h.z1, h.z2⟩
theorem Twin.peek {c d : Cf} {s m : Lm} (h : Twin s m) (ha : Alike c d) (h1 : s.ring.st.length ≤ 65) (h2 : m.ring.st.length ≤ 65) {now held cost : Int} {key : List UInt8} (hr : Room1 s.pool key) :
  (peek c s now held key cost).1 = (peek d m now held key cost).1 := by
 have e := refuse_alike ha now held cost
 unfold Lim.peek
 cases hf : refuse c.r now held cost with
 | some a =>
   have hf2 : refuse d.r now held cost = some a := by rw [← e]; exact hf
   rw [hf2]
 | none =>
   have hf2 : refuse d.r now held cost = none := by rw [← e]; exact hf
   rw [hf2]
   have hz1 : estS c.R c.wd (s.to now).ring key = 0 := est_zero (x := (s.to now).ring) h.z1 h1 key
   have hz2 : estS d.R d.wd (m.to now).ring key = 0 := est_zero (x := (m.to now).ring) h.z2 h2 key
   have hc : peekC c (s.to now) now key = peekC d (m.to now) now key := by
    unfold peekC
    rw [hz1, hz2, show (s.to now).pool = s.pool from rfl, show (m.to now).pool = m.pool from rfl, ← h.pool]
    rcases hr with ⟨i, hi⟩ | ⟨hn, hfl⟩
    ·rw [hi]
    ·rw [hn]
     simp only
     rw [if_neg (fun hh => hfl hh.1), if_neg (fun hh => hfl hh.1)]
   have hs : ∃ x, peekC c (s.to now) now key = some x := by
    unfold peekC
    rw [show (s.to now).pool = s.pool from rfl]
    rcases hr with ⟨i, hi⟩ | ⟨hn, hfl⟩
    ·rw [hi]; exact ⟨_, rfl⟩
    ·rw [hn]; simp only; rw [if_neg (fun hh => hfl hh.1)]; exact ⟨_, rfl⟩
   obtain ⟨x, hx⟩ := hs
   show peekA c (s.to now) now key cost = peekA d (m.to now) now key cost
   unfold peekA
   rw [← hc, hx, ha.pace]
def Lone (c : Cf) (s : PS) (key : List UInt8) : Prop := ((∃ i, placeOf s.S key = some i) ∧ s.fl.length + 1 = c.r.cells.toNat) ∨ (placeOf s.S key = none ∧ s.fl.length = c.r.cells.toNat)
theorem Lone.room {c : Cf} {s : PS} {key : List UInt8} (h : Lone c s key) (hc : 1 ≤ c.r.cells) : Room1 s key := by
 rcases h with ⟨h1, _⟩ | ⟨h1, h2⟩
 ·exact .inl h1
 ·exact .inr ⟨h1, fun h3 => by rw [h3] at h2; simp at h2; omega⟩
theorem Lone.other {c : Cf} {s : PS} {key : List UInt8} (h : Lone c s key) (hc : 2 ≤ c.r.cells) (k2 : List UInt8) : Room1 s k2 := by
 have hfl : s.fl ≠ [] := fun h3 => by
  rcases h with ⟨_, h2⟩ | ⟨_, h2⟩ <;> rw [h3] at h2 <;> simp at h2 <;> omega
 cases hp : placeOf s.S k2 with
 | some i => exact .inl ⟨i, hp⟩
 | none => exact .inr ⟨hp, hfl⟩
theorem Lone.check {c : Cf} {s : Lm} {key : List UInt8} (h : Lone c s.pool key) (hc : 1 ≤ c.r.cells) (hk : key.length ≤ 64) (hp : PoolOk s.pool) (now held cost : Int) : Lone c (check c s now held key cost).2.2.pool key := by
 cases hf : refuse c.r now held cost with
 | some a =>
   have e : (Lim.check c s now held key cost).2.2.pool = s.pool := by unfold Lim.check; rw [hf]; exact (count_facts _ _).1
   rw [e]; exact h
 | none =>
   rcases h with ⟨⟨i, hi⟩, h2⟩ | ⟨hn, h2⟩
   ·rw [check_has hf hi]
    simp only
    rw [(count_facts _ _).1]
    exact .inl ⟨⟨i, hi⟩, h2⟩
   ·have hfl : s.pool.fl ≠ [] := fun h3 => by rw [h3] at h2; simp at h2; omega
    obtain ⟨j, fl, hjf⟩ := List.exists_cons_of_ne_nil hfl
    have hj := hp.free j (by rw [hjf]; simp)
    have hjl : j < s.pool.C.length := by rw [hp.len]; exact (List.getElem?_eq_some_iff.1 hj).1
    rw [check_free hf hn hjf hk hjl rfl]
    simp only
    rw [(count_facts _ _).1]
    refine .inl ⟨⟨j, placeOf_put hn hj⟩, ?_⟩
    rw [hjf] at h2
    exact h2
end Go.Proofs.Ytndekdafiaogmaa.Lim
end
