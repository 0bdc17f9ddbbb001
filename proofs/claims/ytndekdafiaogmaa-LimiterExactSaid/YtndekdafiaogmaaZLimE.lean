/- limiter's laws: plain facts: what a ring tells of a key at a later time, and how it grows. | limiter's laws: plain facts: of each key no more than the limit in any stretch. -/
import Derived.Test.YtndekdafiaogmaaZLimD
set_option linter.unusedSimpArgs false
set_option linter.unusedVariables false
section
namespace Go.Proofs.Ytndekdafiaogmaa.Lim
open Go Go.RowKit Go.YtndekdafiaogmaaMem Go.YtndekdafiaogmaaLex Go.Proofs.Ytndekdafiaogmaa.Hash Go.Proofs.Ytndekdafiaogmaa.Arith Go.Proofs.Ytndekdafiaogmaa.Index Go.Proofs.Ytndekdafiaogmaa.Cell Go.Proofs.Ytndekdafiaogmaa.Slot
open Go.Proofs.Ytndekdafiaogmaa.Pool (PS putP remP pairs PB PoolAt firstIdle)
open Go.Proofs.Ytndekdafiaogmaa.Ring (Rs RiB RingAt estS addR waitS waitK massS massTo fromTo fromS eldestS slotNo leastV countV Small ring0)
open Go.Proofs.Ytndekdafiaogmaa.Sum (Ent OkE SB SumAt countE leastOf)
section
variable {R : List Row} {wd : Nat}
theorem getD_set_int (N : List Int) (i p : Nat) (z : Int) : (N.set i z).getD p 0 = if i = p ∧ i < N.length then z else N.getD p 0 := by
 rw [List.getD_eq_getElem?_getD, List.getD_eq_getElem?_getD, List.getElem?_set]
 by_cases h : i = p
 ·subst h
  by_cases h2 : i < N.length
  ·simp [h2]
  ·simp [h2]
 ·simp [h]
theorem addTo_mono (key : List UInt8) (want : Int) (p : Nat) : ∀ k (N : List Int), N.getD p 0 ≤ (addTo R wd key want k N).getD p 0
 | 0, N => Int.le_refl _
 | k + 1, N => by
   have ih := addTo_mono key want p k N
   unfold addTo
   rw [getD_set_int]
   split
   ·rename_i h
    obtain ⟨rfl, _⟩ := h
    unfold cntS
    omega
   ·exact ih
theorem addTo_want (hw : 1 ≤ wd) (key : List UInt8) (want : Int) {row : Nat} (hr : row < R.length) : ∀ k (N : List Int), N.length = R.length * wd → row < k → want ≤ cntS R wd (addTo R wd key want k N) row key
 | 0, N, _, h => by omega
 | k + 1, N, hN, h => by
   unfold addTo
   unfold cntS
   rw [getD_set_int]
   split
   ·omega
   ·rename_i hne
    by_cases hk : row = k
    ·subst hk
     refine absurd ⟨rfl, ?_⟩ hne
     rw [addTo_length, hN]
     exact idx_lt hw hr key
    ·exact addTo_want hw key want hr k N hN (by omega)
theorem leastTo_mono {N N' : List Int} (h : ∀ p, N.getD p 0 ≤ N'.getD p 0) (key : List UInt8) : ∀ k, leastTo R wd N key k ≤ leastTo R wd N' key k
 | 0 => h _
 | k + 1 => by
   have ih := leastTo_mono h key k
   have h2 : cntS R wd N (k + 1) key ≤ cntS R wd N' (k + 1) key := h _
   unfold leastTo
   omega
theorem leastTo_want {N : List Int} {key : List UInt8} {want : Int} : ∀ k, (∀ row, row ≤ k → want ≤ cntS R wd N row key) → want ≤ leastTo R wd N key k
 | 0, h => h 0 (Nat.le_refl _)
 | k + 1, h => by
   have ih := leastTo_want k (fun row hr => h row (by omega))
   have h2 := h (k + 1) (Nat.le_refl _)
   unfold leastTo
   omega
theorem addC_mono (N : List Int) (key : List UInt8) (cost : Int) (k2 : List UInt8) : leastS R wd N k2 ≤ leastS R wd (addC R wd N key cost) k2 := by
 unfold addC
 split
 ·exact Int.le_refl _
 ·exact leastTo_mono (fun p => addTo_mono key _ p _ N) k2 _
theorem addC_more {K : Nat} {N : List Int} (hw : 1 ≤ wd) (hR : 1 ≤ R.length) (hN : N.length = R.length * wd) (hU : Upto K N) (hK : K ≤ 1000000000000) (key : List UInt8) {cost : Int} (h0 : 0 ≤ cost ∧ cost ≤ 1000000000000) : leastS R wd N key + cost ≤ leastS R wd (addC R wd N key cost) key := by
 unfold addC
 split
 ·omega
 ·have hl := hU.least (R := R) (wd := wd) key
  have hs : sum (leastS R wd N key) cost = leastS R wd N key + cost := sum_in (by unfold I64; omega)
  unfold addS
  rw [hs]
  refine leastTo_want _ fun row hrow => ?_
  exact addTo_want hw key _ (by omega) _ N hN (by omega)
end
def vw (c : Cf) (x : Rs) (key : List UInt8) (n : Int) : Int := leastV c.R c.wd x key (slotNo x n)
def tel (c : Cf) (x : Rs) (key : List UInt8) (T : Nat) : Int := fromS c.R c.wd x key (T / x.width) (T % x.width)
theorem tel_now (c : Cf) (x : Rs) (key : List UInt8) : tel c x key x.now = estS c.R c.wd x key := rfl
structure RInv (c : Cf) (x : Rs) (K : Nat) : Prop where
 width : 1 ≤ x.width
 len : 1 ≤ x.st.length ∧ x.st.length ≤ 65
 lenN : x.N.length = x.st.length
 each : ∀ N ∈ x.N, N.length = c.R.length * c.wd
 upto : ∀ N ∈ x.N, Upto K N
 big : K ≤ 4194304
 stamp : ∀ i, x.st.getD i 0 ≤ ((x.now / x.width : Nat) : Int) + 1
theorem stamp_later {x : Rs} {t : Nat} (h : ∀ i, x.st.getD i 0 ≤ ((x.now / x.width : Nat) : Int) + 1) : ∀ i, x.st.getD i 0 ≤ ((max x.now t / x.width : Nat) : Int) + 1 := fun i => by
 have h1 := h i
 have h2 : x.now / x.width ≤ max x.now t / x.width := Nat.div_le_div_right (by omega)
 omega
theorem RInv.to {c : Cf} {x : Rs} {K : Nat} (h : RInv c x K) (t : Nat) : RInv c (Ring.to x t) K := ⟨h.width, h.len, h.lenN, h.each, h.upto, h.big, stamp_later h.stamp⟩
theorem tel_to (c : Cf) (x : Rs) (t : Nat) (key : List UInt8) (T : Nat) : tel c (Ring.to x t) key T = tel c x key T := by
 unfold tel
 show fromTo c.R c.wd (Ring.to x t) key (T / x.width) (T % x.width) x.st.length = fromTo c.R c.wd x key (T / x.width) (T % x.width) x.st.length
 have : ∀ k, fromTo c.R c.wd (Ring.to x t) key (T / x.width) (T % x.width) k = fromTo c.R c.wd x key (T / x.width) (T % x.width) k := fun k => by
  induction k with
  | zero => rfl
  | succ k ih => unfold fromTo; rw [ih]; rfl
 exact this _
section
variable {c : Cf} {x : Rs} {K : Nat}
theorem vw_upto (h : RInv c x K) (key : List UInt8) (n : Int) : 0 ≤ vw c x key n ∧ vw c x key n ≤ K := leastV_upto h.upto key _
theorem slot_later (h : RInv c x K) {n : Int} (hn : ((x.now / x.width : Nat) : Int) < n) : slotNo x n = none := by
 unfold slotNo
 rw [if_neg]
 rintro ⟨h0, h1⟩
 have := h.stamp (n.toNat % x.st.length)
 omega
structure Grown (c : Cf) (x y : Rs) (key : List UInt8) (cost : Int) : Prop where
 rk : rk y = rk x
 now : y.now = x.now
 other : ∀ k2 (n : Int), ((x.now / x.width : Nat) : Int) - x.st.length < n → vw c x k2 n ≤ vw c y k2 n
 own : vw c x key ((x.now / x.width : Nat) : Int) + cost ≤ vw c y key ((x.now / x.width : Nat) : Int)
theorem mod_ne {n m L : Nat} (h1 : n < m) (h2 : m < n + L) : n % L ≠ m % L := fun e => by
 have h3 := Nat.div_add_mod n L
 have h4 := Nat.div_add_mod m L
 rw [e] at h3
 have h5 : n / L < m / L ∨ m / L ≤ n / L := by omega
 rcases h5 with h5 | h5
 ·have : L * (n / L + 1) ≤ L * (m / L) := Nat.mul_le_mul_left _ h5
  rw [Nat.mul_add] at this; omega
 ·have : L * (m / L) ≤ L * (n / L) := Nat.mul_le_mul_left _ h5
  omega
theorem getD_set_st (l : List Int) (i p : Nat) (z : Int) (hi : i < l.length) : (l.set i z).getD p 0 = if i = p then z else l.getD p 0 := by
 rw [getD_set_int]
 by_cases h : i = p <;> simp [h]
 intro h2; omega
theorem getD_set_N (l : List (List Int)) (i p : Nat) (z : List Int) (hi : i < l.length) : (l.set i z).getD p [] = if i = p then z else l.getD p [] := by
 rw [List.getD_eq_getElem?_getD, List.getD_eq_getElem?_getD, List.getElem?_set]
 by_cases h : i = p
 ·subst h; simp [hi]
 ·simp [h]
theorem RInv.add (h : RInv c x K) (hg : Slot.Good c.R c.wd) (key : List UInt8) {cost : Int} {M : Nat} (h0 : 0 ≤ cost ∧ cost ≤ M) (hK : K + M ≤ 4194304) :
  RInv c (addR c.R c.wd x key cost) (K + M) ∧ Grown c x (addR c.R c.wd x key cost) key cost := by
 have hlen := h.len
 have hbig := h.big
 obtain ⟨n0, hn0⟩ : ∃ n0, x.now / x.width = n0 := ⟨_, rfl⟩
 obtain ⟨i0, hi0⟩ : ∃ i0, n0 % x.st.length = i0 := ⟨_, rfl⟩
 have hil : i0 < x.st.length := by rw [← hi0]; exact Nat.mod_lt _ (by omega)
 obtain ⟨base, hbase⟩ : ∃ base, (if x.st.getD i0 0 = (n0 : Int) + 1 then x.N.getD i0 [] else List.replicate (x.N.getD i0 []).length 0) = base := ⟨_, rfl⟩
 have hNm : x.N.getD i0 [] ∈ x.N := by
  rw [List.getD_eq_getElem?_getD, List.getElem?_eq_getElem (by rw [h.lenN]; exact hil)]
  exact List.getElem_mem _
 have hNl : (x.N.getD i0 []).length = c.R.length * c.wd := h.each _ hNm
 have hbl : base.length = c.R.length * c.wd := by
  rw [← hbase]; split
  ·exact hNl
  ·rw [List.length_replicate]; exact hNl
 have hbu : Upto K base := by
  rw [← hbase]; split
  ·exact h.upto _ hNm
  ·exact Upto.zeros K _
 obtain ⟨y, hy⟩ : ∃ y, addR c.R c.wd x key cost = y := ⟨_, rfl⟩
 have hyst : y.st = if x.st.getD i0 0 = (n0 : Int) + 1 then x.st else x.st.set i0 ((n0 : Int) + 1) := by
  rw [← hy]; unfold addR; simp only [hn0, hi0]; split <;> rfl
 have hyN : y.N = x.N.set i0 (addC c.R c.wd base key cost) := by
  rw [← hy, ← hbase]; unfold addR; simp only [hn0, hi0]; split <;> rfl
 have hyw : y.width = x.width ∧ y.now = x.now := by
  rw [← hy]; unfold addR; simp only; split <;> exact ⟨rfl, rfl⟩
 have hyl : y.st.length = x.st.length := by rw [hyst]; split <;> simp
 have hget : ∀ i, y.st.getD i 0 = if i0 = i then (n0 : Int) + 1 else x.st.getD i 0 := fun i => by
  rw [hyst]
  split
  ·rename_i he
   by_cases hii : i0 = i
   ·subst hii; rw [if_pos rfl]; exact he
   ·rw [if_neg hii]
  ·exact getD_set_st _ _ _ _ hil
 have hst := h.stamp
 rw [hn0] at hst
 rw [hy]
 have hNi : i0 < x.N.length := by rw [h.lenN]; exact hil
 have hR : RInv c y (K + M) := by
  refine ⟨by rw [hyw.1]; exact h.width, by rw [hyl]; exact hlen, by rw [hyN, hyl, List.length_set]; exact h.lenN, fun N hN => ?_, fun N hN => ?_, hK, fun i => ?_⟩
  ·rw [hyN] at hN
   rcases List.mem_or_eq_of_mem_set hN with hN | rfl
   ·exact h.each N hN
   ·rw [addC_length]; exact hbl
  ·rw [hyN] at hN
   rcases List.mem_or_eq_of_mem_set hN with hN | rfl
   ·exact (h.upto N hN).mono (by omega)
   ·exact hbu.addC key (by omega) (by omega)
  ·rw [hget, hyw.1, hyw.2, hn0]
   split
   ·omega
   ·exact hst i
 have hsl : slotNo y (n0 : Int) = some i0 := by
  unfold slotNo
  rw [hyl, show (n0 : Int).toNat = n0 by omega, hi0, hget, if_pos rfl, if_pos ⟨by omega, rfl⟩]
 have hvy : ∀ k2, vw c y k2 (n0 : Int) = leastS c.R c.wd (addC c.R c.wd base key cost) k2 := fun k2 => by
  unfold vw
  rw [hsl]
  show leastS c.R c.wd (y.N.getD i0 []) k2 = _
  rw [hyN, getD_set_N _ _ _ _ hNi, if_pos rfl]
 have hzero : ∀ m k2, leastS c.R c.wd (List.replicate m 0) k2 = 0 := fun m k2 => by
  have := (Upto.zeros 0 m).least (R := c.R) (wd := c.wd) k2
  omega
 have hvx : ∀ k2, vw c x k2 (n0 : Int) = leastS c.R c.wd base k2 := fun k2 => by
  unfold vw slotNo
  rw [show (n0 : Int).toNat = n0 by omega, hi0, ← hbase]
  by_cases he : x.st.getD i0 0 = (n0 : Int) + 1
  ·rw [if_pos ⟨by omega, he⟩, if_pos he]; rfl
  ·rw [if_neg (fun hh => he hh.2), if_neg he, hzero]; rfl
 refine ⟨hR, ⟨?_, hyw.2, fun k2 n hn => ?_, ?_⟩⟩
 ·rw [← hy]; exact rk_add _ _ _ _ _
 ·rw [hn0] at hn
  rcases Int.lt_trichotomy n (n0 : Int) with hlt | rfl | hgt
  ·by_cases hneg : n < 0
   ·unfold vw slotNo
    rw [if_neg (by omega), if_neg (by omega)]; exact Int.le_refl _
   ·have hne : n.toNat % x.st.length ≠ n0 % x.st.length := mod_ne (by omega) (by omega)
    rw [hi0] at hne
    have e : slotNo y n = slotNo x n := by
     have hne' : ¬ i0 = n.toNat % x.st.length := fun hh => hne hh.symm
     unfold slotNo
     simp only [hyl, hget, if_neg hne']
    unfold vw
    rw [e]
    cases hs : slotNo x n with
    | none => exact Int.le_refl _
    | some i =>
      have hi : i = n.toNat % x.st.length := by
       unfold slotNo at hs; split at hs
       ·cases hs; rfl
       ·cases hs
      show leastS c.R c.wd (x.N.getD i []) k2 ≤ leastS c.R c.wd (y.N.getD i []) k2
      rw [hyN, getD_set_N _ _ _ _ hNi, if_neg (by rw [hi]; exact fun hh => hne hh.symm)]
      exact Int.le_refl _
  ·rw [hvx, hvy]; exact addC_mono _ _ _ _
  ·unfold vw
   rw [slot_later h (by omega), slot_later hR (by rw [hyw.1, hyw.2]; omega)]
   exact Int.le_refl _
 ·rw [hn0, hvx, hvy]
  exact addC_more hg.wide.1 hg.few.1 hbl hbu (by omega) key (by omega)
theorem up_mono {a b c : Nat} (h : a ≤ b) : up a c ≤ up b c := by
 unfold up
 rcases Nat.eq_zero_or_pos c with rfl | hc
 ·simp; split <;> split <;> omega
 ·have h1 := Nat.div_add_mod a c
  have h2 := Nat.div_add_mod b c
  have h3 : a / c ≤ b / c := Nat.div_le_div_right h
  rcases Nat.lt_or_eq_of_le h3 with h4 | h4
  ·split <;> split <;> omega
  ·rw [h4] at h1 ⊢
   split <;> split <;> omega
theorem eldest_mono {x y : Rs} (e : rk y = rk x) {a b : Int} (h : a ≤ b) (into : Nat) : eldestS x a into ≤ eldestS y b into := by
 unfold Lim.rk at e
 simp only [Prod.mk.injEq] at e
 obtain ⟨e1, e2, e3, e4⟩ := e
 unfold eldestS
 rw [e1, e3]
 split
 ·have h1 : a.toNat * (x.width - into) ≤ b.toNat * (x.width - into) := Nat.mul_le_mul_right _ (by omega)
  have := up_mono (c := x.width) h1
  omega
 ·exact h
theorem tel_grow {y : Rs} {K L : Nat} (h : RInv c x K) (hy : RInv c y L) {key : List UInt8} {cost : Int} (g : Grown c x y key cost) (h0 : 0 ≤ cost) {T : Nat} (hT : x.now ≤ T) :
  (∀ k2, tel c x k2 T ≤ tel c y k2 T) ∧ ((x.now / x.width : Nat) + x.st.length > T / x.width + (if x.part then 1 else 0) → tel c x key T + cost ≤ tel c y key T) := by
 have e := g.rk
 unfold Lim.rk at e
 simp only [Prod.mk.injEq] at e
 obtain ⟨e1, e2, e3, e4⟩ := e
 have hb1 := h.big
 have hb2 := hy.big
 have hl := h.len
 obtain ⟨n0, hn0⟩ : ∃ n0, x.now / x.width = n0 := ⟨_, rfl⟩
 have hnT : n0 ≤ T / x.width := by rw [← hn0]; exact Nat.div_le_div_right hT
 have go := g.other
 have gw := g.own
 rw [hn0] at go gw
 have hfx : ∀ k2 k, k ≤ 1000 → 0 ≤ fromTo c.R c.wd x k2 (T / x.width) (T % x.width) k ∧ fromTo c.R c.wd x k2 (T / x.width) (T % x.width) k ≤ ((k * K : Nat) : Int) := fun k2 k hk => fromTo_upto h.upto (by omega) k2 _ _ k hk
 have hfy : ∀ k2 k, k ≤ 1000 → 0 ≤ fromTo c.R c.wd y k2 (T / x.width) (T % x.width) k ∧ fromTo c.R c.wd y k2 (T / x.width) (T % x.width) k ≤ ((k * L : Nat) : Int) := fun k2 k hk => fromTo_upto hy.upto (by omega) k2 _ _ k hk
 have mono : ∀ k2 k, k ≤ 65 → fromTo c.R c.wd x k2 (T / x.width) (T % x.width) k ≤ fromTo c.R c.wd y k2 (T / x.width) (T % x.width) k := fun k2 k => by
  induction k with
  | zero => intro _; unfold fromTo; omega
  | succ k ih =>
    intro hk
    have ih := ih (by omega)
    have hv := go k2 (((T / x.width : Nat) : Int) - x.st.length + 1 + k) (by omega)
    unfold vw at hv
    unfold fromTo sum
    simp only
    rw [e4]
    split
    ·have := eldest_mono g.rk hv (T % x.width)
     omega
    ·omega
 refine ⟨fun k2 => ?_, fun hin => ?_⟩
 ·unfold tel fromS
  rw [e1, e4]
  exact mono k2 _ (by omega)
 ·rw [hn0] at hin
  unfold tel fromS
  rw [e1, e4]
  have more : ∀ k, k ≤ 65 → n0 + x.st.length < T / x.width + 1 + k → fromTo c.R c.wd x key (T / x.width) (T % x.width) k + cost ≤ fromTo c.R c.wd y key (T / x.width) (T % x.width) k := fun k => by
   induction k with
   | zero => intro _ hh; split at hin <;> omega
   | succ k ih =>
     intro hk hh
     have hk1 : k * K ≤ 65 * 4194304 := Nat.mul_le_mul (by omega) (by omega)
     have hk2 : k * L ≤ 65 * 4194304 := Nat.mul_le_mul (by omega) (by omega)
     have b1 := hfx key k (by omega)
     have b2 := hfy key k (by omega)
     have v1 := vw_upto h key (((T / x.width : Nat) : Int) - x.st.length + 1 + k)
     have v2 := vw_upto hy key (((T / x.width : Nat) : Int) - x.st.length + 1 + k)
     have hv := go key (((T / x.width : Nat) : Int) - x.st.length + 1 + k) (by omega)
     have m1 := mono key k (by omega)
     unfold vw at v1 v2 hv gw
     have d1 := eldestS_upto (x := x) v1.1 (T % x.width)
     have d2 := eldestS_upto (x := y) v2.1 (T % x.width)
     have d3 := eldest_mono g.rk hv (T % x.width)
     by_cases hcase : n0 + x.st.length = T / x.width + 1 + k
     ·have hcast : ((T / x.width : Nat) : Int) - x.st.length + 1 + k = (n0 : Int) := by omega
      have hk0 : k = 0 → x.part = false := fun h0 => by
       cases hp : x.part with
       | false => rfl
       | true => rw [hp] at hin; simp at hin; omega
      unfold fromTo
      simp only
      rw [e4]
      rw [hcast] at v1 v2 hv d1 d2 d3 ⊢
      by_cases hkz : k = 0
      ·rw [if_pos hkz, if_pos hkz]
       have hp := hk0 hkz
       unfold eldestS
       rw [e3, hp]
       simp only [Bool.false_eq_true, if_false]
       rw [sum_in (by unfold I64; omega), sum_in (by unfold I64; omega)]
       omega
      ·rw [if_neg hkz, if_neg hkz, sum_in (by unfold I64; omega), sum_in (by unfold I64; omega)]
       omega
     ·have ih := ih (by omega) (by omega)
      unfold fromTo
      simp only
      rw [e4]
      split
      ·rw [sum_in (by unfold I64; omega), sum_in (by unfold I64; omega)]; omega
      ·rw [sum_in (by unfold I64; omega), sum_in (by unfold I64; omega)]; omega
  exact more _ (by omega) (by split at hin <;> omega)
end
end Go.Proofs.Ytndekdafiaogmaa.Lim
end
section
namespace Go.Proofs.Ytndekdafiaogmaa.Lim
open Go Go.RowKit Go.YtndekdafiaogmaaMem Go.YtndekdafiaogmaaLex Go.Proofs.Ytndekdafiaogmaa.Hash Go.Proofs.Ytndekdafiaogmaa.Arith Go.Proofs.Ytndekdafiaogmaa.Index Go.Proofs.Ytndekdafiaogmaa.Cell Go.Proofs.Ytndekdafiaogmaa.Slot
open Go.Proofs.Ytndekdafiaogmaa.Pool (PS putP remP pairs PB PoolAt firstIdle)
open Go.Proofs.Ytndekdafiaogmaa.Ring (Rs RiB RingAt estS addR waitS waitK massS massTo fromTo fromS eldestS slotNo leastV countV Small ring0)
open Go.Proofs.Ytndekdafiaogmaa.Sum (Ent OkE SB SumAt countE leastOf)
def after (l : List (Nat × Int)) (u : Int) : Int := (l.map fun q => if u < (q.1 : Int) then q.2 else 0).sum
theorem after_app (a b : List (Nat × Int)) (u : Int) : after (a ++ b) u = after a u + after b u := by unfold after; simp
theorem after_one (t : Nat) (z u : Int) : after [(t, z)] u = if u < (t : Int) then z else 0 := by unfold after; simp
theorem after_nil (u : Int) : after [] u = 0 := rfl
theorem after_none {l : List (Nat × Int)} {u : Int} (h : ∀ q ∈ l, (q.1 : Int) ≤ u) : after l u = 0 := by
 induction l with
 | nil => rfl
 | cons q l ih =>
   have h1 := h q (by simp)
   have h2 := ih (fun q hq => h q (by simp [hq]))
   unfold after at *
   simp only [List.map_cons, List.sum_cons]
   rw [if_neg (by omega), h2]; rfl
theorem after_mono {l : List (Nat × Int)} (h : ∀ q ∈ l, 0 ≤ q.2) {u v : Int} (huv : u ≤ v) : after l v ≤ after l u ∧ 0 ≤ after l v := by
 induction l with
 | nil => exact ⟨Int.le_refl _, Int.le_refl _⟩
 | cons q l ih =>
   have h1 := h q (by simp)
   have h2 := ih (fun q hq => h q (by simp [hq]))
   unfold after at *
   simp only [List.map_cons, List.sum_cons]
   split <;> split <;> omega
def spanS (c : Cf) (x : Rs) : Int := c.r.window - (if x.part then (x.width : Int) else 0)
structure Fits (c : Cf) (x : Rs) : Prop where
 win : (((x.st.length - 1) * x.width : Nat) : Int) = c.r.window
 len : 2 ≤ x.st.length
 part : x.part = true → 3 ≤ x.st.length
 unit : c.r.window ≤ c.r.pace.unit * (c.r.limit + 1 - c.r.burst)
theorem Fits.rk {c : Cf} {x y : Rs} (h : Fits c x) (e : rk y = rk x) : Fits c y ∧ spanS c y = spanS c x := by
 unfold Lim.rk at e
 simp only [Prod.mk.injEq] at e
 obtain ⟨e1, e2, e3, e4⟩ := e
 refine ⟨⟨by rw [e1, e4]; exact h.win, by rw [e4]; exact h.len, by rw [e3, e4]; exact h.part, h.unit⟩, ?_⟩
 unfold spanS; rw [e1, e3]
theorem Fits.span {c : Cf} {x : Rs} (h : Fits c x) (hw : 1 ≤ x.width) : 1 ≤ spanS c x ∧ spanS c x ≤ c.r.window := by
 have h1 := h.win
 have h2 := h.len
 unfold spanS
 have h3 : 1 * x.width ≤ (x.st.length - 1) * x.width := Nat.mul_le_mul_right _ (by omega)
 split
 ·rename_i hp
  have h4 := h.part hp
  have h5 : 2 * x.width ≤ (x.st.length - 1) * x.width := Nat.mul_le_mul_right _ (by omega)
  omega
 ·omega
theorem Fits.whole {c : Cf} {x : Rs} (h : Fits c x) (hw : 1 ≤ x.width) {t T : Nat} (ht : (T : Int) - spanS c x < t) : t / x.width + x.st.length > T / x.width + (if x.part then 1 else 0) := by
 have h1 := h.win
 have h2 := h.len
 have h3 := Nat.div_add_mod t x.width
 have h4 := Nat.mod_lt t (show x.width > 0 by omega)
 have h5 := Nat.div_mul_le_self T x.width
 unfold spanS at ht
 have key : ∀ p : Nat, p ≤ 1 → t / x.width + x.st.length ≤ T / x.width + p → p + 1 ≤ x.st.length → (t / x.width + (x.st.length - p)) * x.width ≤ T := fun p hp hle hl => by
  have : (t / x.width + (x.st.length - p)) * x.width ≤ T / x.width * x.width := Nat.mul_le_mul_right _ (by omega)
  omega
 have e1 : x.width * (t / x.width) = t / x.width * x.width := Nat.mul_comm _ _
 rcases Nat.lt_or_ge (T / x.width + (if x.part then 1 else 0)) (t / x.width + x.st.length) with h6 | h6
 ·exact h6
 ·exfalso
  split at h6
  ·rename_i hp
   rw [if_pos hp] at ht
   have h7 := h.part hp
   have h8 := key 1 (by omega) h6 (by omega)
   rw [Nat.add_mul] at h8
   have h9 : (x.st.length - 1) * x.width = (x.st.length - 2) * x.width + x.width := by
    rw [show x.st.length - 1 = (x.st.length - 2) + 1 by omega, Nat.add_mul, Nat.one_mul]
   omega
  ·rename_i hp
   rw [if_neg hp] at ht
   have h8 := key 0 (by omega) h6 (by omega)
   rw [Nat.add_mul] at h8
   have h9 : (x.st.length - 0) * x.width = (x.st.length - 1) * x.width + x.width := by
    rw [show x.st.length - 0 = (x.st.length - 1) + 1 by omega, Nat.add_mul, Nat.one_mul]
   omega
structure Own1 (r : Rule) (now : Nat) (x : Cell) (own : List (Nat × Int)) : Prop where
 used : ∀ u, after own u ≤ x.used
 gcra : ∀ u, 0 < after own u → u + after own u * r.pace.unit < x.full
 lim : ∀ u, (now : Int) - r.window ≤ u → after own u ≤ r.limit
 young : (now : Int) < x.since + r.window → x.used ≤ r.limit
def Res (c : Cf) (x : Rs) (now : Nat) (key : List UInt8) (q : Cell) (l : List (Nat × Int)) : Prop :=
 ∃ pre own, l = pre ++ own ∧ (∀ T : Nat, now ≤ T → after pre ((T : Int) - spanS c x) ≤ tel c x key T) ∧ (∀ u, q.since - spanS c x ≤ u → after pre u ≤ q.carry) ∧ (∀ a ∈ pre, (a.1 : Int) ≤ q.since) ∧ Own1 c.r now q own
def Non (c : Cf) (x : Rs) (now : Nat) (key : List UInt8) (l : List (Nat × Int)) : Prop := ∀ T : Nat, now ≤ T → after l ((T : Int) - spanS c x) ≤ tel c x key T
def Each (c : Cf) (s : PS) (x : Rs) (now : Nat) (H : List UInt8 → List (Nat × Int)) (key : List UInt8) : Prop :=
 match placeOf s.S key with
 | some i => Res c x now key (s.C.getD i .zero) (H key)
 | none => Non c x now key (H key)
structure HJ (c : Cf) (s : PS) (x : Rs) (now : Nat) (H : List UInt8 → List (Nat × Int)) : Prop where
 all : ∀ k, ∀ q ∈ H k, 0 ≤ q.2 ∧ q.1 ≤ now
 each : ∀ k, Each c s x now H k
theorem Each.res {c : Cf} {s : PS} {x : Rs} {now : Nat} {H : List UInt8 → List (Nat × Int)} {key : List UInt8} {i : Nat} (h : Each c s x now H key) (hp : placeOf s.S key = some i) : Res c x now key (s.C.getD i .zero) (H key) := by
 unfold Each at h; rw [hp] at h; exact h
theorem Each.non {c : Cf} {s : PS} {x : Rs} {now : Nat} {H : List UInt8 → List (Nat × Int)} {key : List UInt8} (h : Each c s x now H key) (hp : placeOf s.S key = none) : Non c x now key (H key) := by
 unfold Each at h; rw [hp] at h; exact h
theorem each_some {c : Cf} {s : PS} {x : Rs} {now : Nat} {H : List UInt8 → List (Nat × Int)} {key : List UInt8} {i : Nat} (hp : placeOf s.S key = some i) (h : Res c x now key (s.C.getD i .zero) (H key)) : Each c s x now H key := by
 unfold Each; rw [hp]; exact h
theorem each_none {c : Cf} {s : PS} {x : Rs} {now : Nat} {H : List UInt8 → List (Nat × Int)} {key : List UInt8} (hp : placeOf s.S key = none) (h : Non c x now key (H key)) : Each c s x now H key := by
 unfold Each; rw [hp]; exact h
section
variable {c : Cf} {s : PS} {x y : Rs} {now : Nat} {H : List UInt8 → List (Nat × Int)}
theorem Own1.later {r : Rule} {q : Cell} {own : List (Nat × Int)} (h : Own1 r now q own) {t : Nat} (ht : now ≤ t) : Own1 r t q own :=
 ⟨h.used, h.gcra, fun u hu => h.lim u (by omega), fun hy => h.young (by omega)⟩
theorem HJ.grow (h : HJ c s x now H) (e : rk y = rk x) {t : Nat} (ht : now ≤ t) (hg : ∀ k (T : Nat), t ≤ T → tel c x k T ≤ tel c y k T) : HJ c s y t H := by
 have es : spanS c y = spanS c x := by
  unfold Lim.rk at e
  simp only [Prod.mk.injEq] at e
  obtain ⟨e1, e2, e3, e4⟩ := e
  unfold spanS; rw [e1, e3]
 refine ⟨fun k q hq => by have := h.all k q hq; omega, fun k => ?_⟩
 cases hp : placeOf s.S k with
 | none =>
   refine each_none hp fun T hT => ?_
   have h1 := (h.each k).non hp T (by omega)
   have h2 := hg k T hT
   rw [es]; omega
 | some i =>
   obtain ⟨pre, own, e0, p1, p2, p3, o⟩ := (h.each k).res hp
   refine each_some hp ⟨pre, own, e0, fun T hT => ?_, by rw [es]; exact p2, p3, o.later ht⟩
   have h1 := p1 T (by omega)
   have h2 := hg k T hT
   rw [es]; omega
theorem HJ.to (h : HJ c s x now H) {t : Nat} (ht : now ≤ t) : HJ c s (Ring.to x t) t H :=
 h.grow (y := Ring.to x t) rfl ht (fun k T _ => by rw [tel_to]; exact Int.le_refl _)
end
theorem Own1.bound {r : Rule} {now : Nat} {q : Cell} {own : List (Nat × Int)} (h : Own1 r now q own) (hu : 1 ≤ r.pace.unit) (hy : q.young r.pace now = true ↔ (now : Int) < q.since + r.window) {u : Int} (hu2 : (now : Int) - r.window ≤ u) : after own u ≤ q.bound r.pace now := by
 have h1 := h.used u
 have h2 := h.lim u hu2
 have h3 := h.gcra u
 unfold Cell.bound
 have e1 : r.pace.limit = r.limit := rfl
 have e2 : r.pace.window = r.window := rfl
 split
 ·omega
 ·rename_i hny
  rcases Int.lt_or_le 0 (after own u) with hp | hp
  ·have h4 := h3 hp
   have h6 : 0 < after own u * r.pace.unit := Int.mul_pos hp (by omega)
   have h5 : after own u ≤ (q.full - (now - r.pace.window)).tdiv r.pace.unit := by
    rw [Int.tdiv_eq_ediv_of_nonneg (by omega)]
    exact (Int.le_ediv_iff_mul_le (by omega)).2 (by omega)
   omega
  ·omega
theorem HJ.evict {c : Cf} {s : PS} {x y : Rs} {K L : Nat} {H : List UInt8 → List (Nat × Int)} (h : HJ c s x x.now H) (hF : Fits c x) (hx : RInv c x K) (hy : RInv c y L) (hu : 1 ≤ c.r.pace.unit) (hp : PoolOk s) (hsi : ∀ q ∈ s.C, sum q.since c.r.window = q.since + c.r.window) {out : List UInt8} {b : Int} (hb : b = (remP s out).1.bound c.r.pace x.now) (hb0 : 0 ≤ b) (g : Grown c x y out b) : HJ c (remP s out).2.2 y x.now H := by
 have gr := fun (T : Nat) (hT : x.now ≤ T) => tel_grow hx hy g hb0 hT
 have hgr := h.grow g.rk (Nat.le_refl _) (fun k T hT => (gr T hT).1 k)
 have es := (hF.rk g.rk).2
 cases hpo : placeOf s.S out with
 | none =>
   have e : remP s out = (.zero, false, s) := by unfold remP; rw [hpo]
   rw [e]; exact hgr
 | some i =>
   have e : remP s out = (s.C.getD i .zero, true, ⟨s.S.set i none, i :: s.fl, s.C⟩) := by unfold remP; rw [hpo]
   rw [e] at hb ⊢
   simp only at hb ⊢
   have hgo := placeOf_get hpo
   have hil : i < s.S.length := (List.getElem?_eq_some_iff.1 hgo).1
   have hget : ∀ p, (s.S.set i none)[p]? = if i = p then some none else s.S[p]? := fun p => by
    rw [List.getElem?_set]
    by_cases hip : i = p
    ·subst hip; simp [hil]
    ·simp [hip]
   refine ⟨h.all, fun k => ?_⟩
   by_cases hk : k = out
   ·subst hk
    have hno : placeOf (s.S.set i none) k = none := placeOf_none fun q hq => by
     rw [hget] at hq
     split at hq
     ·cases hq
     ·rename_i hne
      exact hne (hp.uniq i q k hgo hq)
    refine each_none hno fun T hT => ?_
    obtain ⟨pre, own, e0, p1, p2, p3, o⟩ := (h.each k).res hpo
    rw [es, e0, after_app]
    have h1 := p1 T hT
    have hnn : ∀ a ∈ own, 0 ≤ a.2 := fun a ha => (h.all k a (by rw [e0]; simp [ha])).1
    have hat : ∀ a ∈ own, a.1 ≤ x.now := fun a ha => (h.all k a (by rw [e0]; simp [ha])).2
    have hxm : s.C.getD i .zero ∈ s.C := by
     rw [List.getD_eq_getElem?_getD, List.getElem?_eq_getElem (by rw [hp.len]; exact hil)]
     exact List.getElem_mem _
    have hyo : (s.C.getD i .zero).young c.r.pace x.now = true ↔ (x.now : Int) < (s.C.getD i .zero).since + c.r.window := by
     unfold Cell.young
     rw [show c.r.pace.window = c.r.window from rfl, hsi _ hxm]; simp
    have hsp := hF.span hx.width
    rcases Int.lt_or_le ((T : Int) - spanS c x) (x.now : Int) with hin | hin
    ·have hw := hF.whole hx.width hin
     have h2 := (gr T hT).2 hw
     have h3 := o.bound hu hyo (u := (T : Int) - spanS c x) (by omega)
     rw [← hb] at h3
     omega
    ·have h2 := (gr T hT).1 k
     rw [after_none (l := own) (fun a ha => by have := hat a ha; omega)]
     omega
   ·have hkp : placeOf (s.S.set i none) k = placeOf s.S k := by
     cases hpk : placeOf s.S k with
     | none =>
       refine placeOf_none fun q hq => ?_
       rw [hget] at hq
       split at hq
       ·cases hq
       ·exact placeOf_no hpk q hq
     | some j =>
       have hgj := placeOf_get hpk
       have hij : ¬ i = j := fun hh => by subst hh; rw [hgo] at hgj; simp at hgj; exact hk hgj.symm
       refine placeOf_there (fun p q a hpa hqa => ?_) (by rw [hget, if_neg hij]; exact hgj)
       rw [hget] at hpa hqa
       split at hpa
       ·cases hpa
       ·split at hqa
        ·cases hqa
        ·exact hp.uniq p q a hpa hqa
    have := hgr.each k
    unfold Each at this ⊢
    simp only
    rw [hkp]; exact this
theorem HJ.fresh {c : Cf} {s : PS} {x : Rs} {K : Nat} {H : List UInt8 → List (Nat × Int)} (h : HJ c s x x.now H) (hx : RInv c x K) (hl : 0 ≤ c.r.limit) (hf : Fits c x) (hp : PoolOk s) (key : List UInt8) : HJ c (putP s key (Cell.fresh x.now (estS c.R c.wd x key))).2 x x.now H := by
 cases hpo : placeOf s.S key with
 | some i =>
   have e : putP s key (Cell.fresh x.now (estS c.R c.wd x key)) = (none, s) := by unfold putP; rw [hpo]
   rw [e]; exact h
 | none =>
   cases hfl : s.fl with
   | nil =>
     have e : putP s key (Cell.fresh x.now (estS c.R c.wd x key)) = (none, s) := by unfold putP; rw [hpo, hfl]
     rw [e]; exact h
   | cons j fl' =>
     by_cases hk : key.length ≤ 64
     ·have e : putP s key (Cell.fresh x.now (estS c.R c.wd x key)) = (some j, ⟨s.S.set j (some key), fl', s.C.set j (Cell.fresh x.now (estS c.R c.wd x key))⟩) := by
       unfold putP; rw [hpo, hfl]; simp only; rw [if_pos hk]
      rw [e]
      simp only
      have hj := hp.free j (by rw [hfl]; simp)
      have hjl : j < s.S.length := (List.getElem?_eq_some_iff.1 hj).1
      have hjc : j < s.C.length := by rw [hp.len]; exact hjl
      refine ⟨h.all, fun k => ?_⟩
      by_cases hkk : k = key
      ·subst hkk
       refine each_some (placeOf_put hpo hj) ?_
       simp only
       rw [getD_set hjc]
       have hn := (h.each k).non hpo
       refine ⟨H k, [], by simp, hn, fun u hu => ?_, fun a ha => ?_, ⟨fun u => by rw [after_nil]; exact Int.le_refl _, fun u hu => by rw [after_nil] at hu; omega, fun u _ => by rw [after_nil]; exact hl, fun _ => hl⟩⟩
       ·have h1 := hn x.now (Nat.le_refl _)
        rw [tel_now] at h1
        have h2 := (after_mono (l := H k) (fun q hq => (h.all k q hq).1) (u := (x.now : Int) - spanS c x) (v := u) hu).1
        show after (H k) u ≤ estS c.R c.wd x k
        omega
       ·have := (h.all k a ha).2
        show (a.1 : Int) ≤ (x.now : Int)
        omega
      ·have hget : ∀ p, (s.S.set j (some key))[p]? = if j = p then some (some key) else s.S[p]? := fun p => by
        rw [List.getElem?_set]
        by_cases hip : j = p
        ·subst hip; simp [hjl]
        ·simp [hip]
       have hEk := h.each k
       cases hpk : placeOf s.S k with
       | none =>
         refine each_none (placeOf_none fun q hq => ?_) (hEk.non hpk)
         rw [hget] at hq
         split at hq
         ·simp at hq; exact hkk hq.symm
         ·exact placeOf_no hpk q hq
       | some i =>
         have hgi := placeOf_get hpk
         have hij : ¬ j = i := fun hh => by subst hh; rw [hj] at hgi; simp at hgi
         refine each_some (i := i) (placeOf_there (fun p q a hpa hqa => ?_) (by rw [hget, if_neg hij]; exact hgi)) ?_
         ·rw [hget] at hpa hqa
          split at hpa
          ·split at hqa
           ·omega
           ·simp at hpa; subst hpa; exact absurd hqa (placeOf_no hpo q)
          ·split at hqa
           ·simp at hqa; subst hqa; exact absurd hpa (placeOf_no hpo p)
           ·exact hp.uniq p q a hpa hqa
         ·simp only
          have : (s.C.set j (Cell.fresh x.now (estS c.R c.wd x key))).getD i .zero = s.C.getD i .zero := by
           rw [List.getD_eq_getElem?_getD, List.getD_eq_getElem?_getD, List.getElem?_set, if_neg hij]
          rw [this]; exact hEk.res hpk
     ·have e : putP s key (Cell.fresh x.now (estS c.R c.wd x key)) = (none, s) := by unfold putP; rw [hpo, hfl]; simp only; rw [if_neg hk]
      rw [e]; exact h
def more (H : List UInt8 → List (Nat × Int)) (key : List UInt8) (t : Nat) (z : Int) : List UInt8 → List (Nat × Int) := fun k => if k = key then H k ++ [(t, z)] else H k
theorem more_own (H : List UInt8 → List (Nat × Int)) (key : List UInt8) (t : Nat) (z : Int) : more H key t z key = H key ++ [(t, z)] := by unfold more; simp
theorem more_other (H : List UInt8 → List (Nat × Int)) {key k : List UInt8} (h : k ≠ key) (t : Nat) (z : Int) : more H key t z k = H k := by unfold more; simp [h]
theorem more_all {now : Nat} {H : List UInt8 → List (Nat × Int)} (h : ∀ k, ∀ q ∈ H k, 0 ≤ q.2 ∧ q.1 ≤ now) {key : List UInt8} {z : Int} (hz : 0 ≤ z) : ∀ k, ∀ q ∈ more H key now z k, 0 ≤ q.2 ∧ q.1 ≤ now := fun k q hq => by
 by_cases hk : k = key
 ·subst hk
  rw [more_own] at hq
  simp only [List.mem_append, List.mem_singleton] at hq
  rcases hq with hq | rfl
  ·exact h k q hq
  ·exact ⟨hz, Nat.le_refl _⟩
 ·rw [more_other H hk] at hq; exact h k q hq
theorem HJ.ring {c : Cf} {s : PS} {x y : Rs} {K L : Nat} {H : List UInt8 → List (Nat × Int)} (h : HJ c s x x.now H) (hF : Fits c x) (hx : RInv c x K) (hy : RInv c y L) {key : List UInt8} {cost : Int} (hc : 0 ≤ cost) (g : Grown c x y key cost) (hno : placeOf s.S key = none) (hle : estS c.R c.wd x key + cost ≤ c.r.limit) :
  HJ c s y x.now (more H key x.now cost) ∧ after (more H key x.now cost key) ((x.now : Int) - spanS c x) ≤ c.r.limit := by
 have gr := fun (T : Nat) (hT : x.now ≤ T) => tel_grow hx hy g hc hT
 have hgr := h.grow g.rk (Nat.le_refl _) (fun k T hT => (gr T hT).1 k)
 have es := (hF.rk g.rk).2
 have hsp := hF.span hx.width
 have hn := (h.each key).non hno
 refine ⟨⟨more_all h.all hc, fun k => ?_⟩, ?_⟩
 ·by_cases hk : k = key
  ·subst hk
   refine each_none hno fun T hT => ?_
   rw [es, more_own, after_app, after_one]
   have h1 := hn T hT
   split
   ·rename_i hin
    have h2 := (gr T hT).2 (hF.whole hx.width hin)
    omega
   ·have h2 := (gr T hT).1 k
    omega
  ·have := hgr.each k
   unfold Each at this ⊢
   rw [more_other H hk]
   exact this
 ·rw [more_own, after_app, after_one, if_pos (by omega)]
  have h1 := hn x.now (Nat.le_refl _)
  rw [tel_now] at h1
  omega
theorem HJ.cell {c : Cf} {s : PS} {x : Rs} {K : Nat} {H : List UInt8 → List (Nat × Int)} (h : HJ c s x x.now H) (hF : Fits c x) (hx : RInv c x K) (hc : c.Ok) (hp : PoolOk s) {key : List UInt8} {cost : Int} (hcost : 1 ≤ cost ∧ cost ≤ c.r.burst) {i : Nat} (hpo : placeOf s.S key = some i) {q q' : Cell} (hq : s.C.getD i .zero = q)
  (hq' : q' = { q with full := max q.full x.now + cost * c.r.pace.unit, used := q.used + cost }) (hfull : q'.full ≤ x.now + c.r.burst * c.r.pace.unit) (hsn : q.since ≤ (x.now : Int)) (hcar : 0 ≤ q.carry) (hus : 0 ≤ q.used) (hys : q.young c.r.pace x.now = true ↔ (x.now : Int) < q.since + c.r.window)
  (hroom : (x.now : Int) < q.since + c.r.window → q.carry + q.used + cost ≤ c.r.limit) :
  HJ c { s with C := s.C.set i q' } x x.now (more H key x.now cost) ∧ after (more H key x.now cost key) ((x.now : Int) - spanS c x) ≤ c.r.limit := by
 have hsp := hF.span hx.width
 have hl := hc.limit
 have hb := hc.burst
 have hu := hc.pace
 have hunit := hF.unit
 obtain ⟨pre, own, e0, p1, p2, p3, o⟩ := (h.each key).res hpo
 rw [hq] at p2 p3 o
 have hnn : ∀ a ∈ own, 0 ≤ a.2 := fun a ha => (h.all key a (by rw [e0]; simp [ha])).1
 have hat : ∀ a ∈ own, a.1 ≤ x.now := fun a ha => (h.all key a (by rw [e0]; simp [ha])).2
 have hil : i < s.C.length := by rw [hp.len]; exact (List.getElem?_eq_some_iff.1 (placeOf_get hpo)).1
 have hfe : q'.full = max q.full x.now + cost * c.r.pace.unit := by rw [hq']
 have hue : q'.used = q.used + cost := by rw [hq']
 have hse : q'.since = q.since := by rw [hq']
 have hce : q'.carry = q.carry := by rw [hq']
 have hcu : 0 < cost * c.r.pace.unit := Int.mul_pos (by omega) (by omega)
 have haf : ∀ u, after (own ++ [(x.now, cost)]) u = after own u + if u < (x.now : Int) then cost else 0 := fun u => by rw [after_app, after_one]
 have hO : Own1 c.r x.now q' (own ++ [(x.now, cost)]) := by
  have gc : ∀ u, 0 < after (own ++ [(x.now, cost)]) u → u + after (own ++ [(x.now, cost)]) u * c.r.pace.unit < q'.full := fun u h0 => by
   rw [haf] at h0 ⊢
   by_cases hin : u < (x.now : Int)
   ·rw [if_pos hin] at h0 ⊢
    rw [Int.add_mul]
    rcases Int.lt_or_le 0 (after own u) with hpo2 | hpo2
    ·have := o.gcra u hpo2
     omega
    ·have h1 := (after_mono hnn (u := u) (v := u) (Int.le_refl _)).2
     rw [show after own u = 0 by omega, Int.zero_mul]
     omega
   ·rw [if_neg hin, Int.add_zero] at h0 ⊢
    have := o.gcra u h0
    omega
  refine ⟨fun u => ?_, gc, fun u hu2 => ?_, fun hy => ?_⟩
  ·rw [haf]
   have := o.used u
   split <;> omega
  ·rcases Int.lt_or_le 0 (after (own ++ [(x.now, cost)]) u) with h0 | h0
   ·have h1 := gc u h0
    generalize after (own ++ [(x.now, cost)]) u = sm at *
    have h2 : (sm - c.r.burst) * c.r.pace.unit < (c.r.limit + 1 - c.r.burst) * c.r.pace.unit := by
     rw [Int.sub_mul]
     rw [Int.mul_comm] at hunit
     omega
    have h3 : sm - c.r.burst < c.r.limit + 1 - c.r.burst := by
     rcases Int.lt_or_le (sm - c.r.burst) (c.r.limit + 1 - c.r.burst) with h4 | h4
     ·exact h4
     ·have := Int.mul_le_mul_of_nonneg_right h4 (show 0 ≤ c.r.pace.unit by omega)
      omega
    omega
   ·omega
  ·rw [hse] at hy
   have := hroom hy
   rw [hue]; omega
 refine ⟨⟨more_all h.all (by omega), fun k => ?_⟩, ?_⟩
 ·by_cases hk : k = key
  ·subst hk
   refine each_some (i := i) hpo ?_
   simp only
   rw [getD_set hil, more_own]
   refine ⟨pre, own ++ [(x.now, cost)], by rw [e0, List.append_assoc], p1, by rw [hse, hce]; exact p2, by rw [hse]; exact p3, hO⟩
  ·have hEk := h.each k
   cases hpk : placeOf s.S k with
   | none => exact each_none hpk (by rw [more_other H hk]; exact hEk.non hpk)
   | some j =>
     have hij : ¬ i = j := fun hh => by
      subst hh
      have h1 := placeOf_get hpo
      have h2 := placeOf_get hpk
      rw [h1] at h2; simp at h2; exact hk h2.symm
     refine each_some (i := j) hpk ?_
     simp only
     have : (s.C.set i q').getD j .zero = s.C.getD j .zero := by
      rw [List.getD_eq_getElem?_getD, List.getD_eq_getElem?_getD, List.getElem?_set, if_neg hij]
     rw [this, more_other H hk]; exact hEk.res hpk
 ·rw [more_own, e0, List.append_assoc, after_app]
  rcases Int.lt_or_le (x.now : Int) (q.since + c.r.window) with hy | hy
  ·have h1 := p2 ((x.now : Int) - spanS c x) (by omega)
   have h2 := hO.used ((x.now : Int) - spanS c x)
   have h3 := hroom hy
   omega
  ·have h1 := hO.lim ((x.now : Int) - spanS c x) (by omega)
   rw [after_none (l := pre) (fun a ha => by have := p3 a ha; omega)]
   omega
end Go.Proofs.Ytndekdafiaogmaa.Lim
end
