/- limiter's laws: plain facts: waits and rooms, rows and estimates. | limiter's laws: plain facts: what answers tell. | limiter's laws: what their loops keep of a limiter. -/
import Derived.Test.YtndekdafiaogmaaZLimB
import Derived.Deep.Cut
set_option linter.unusedSimpArgs false
set_option linter.unusedVariables false
section
namespace Go.Proofs.Ytndekdafiaogmaa.Lim
open Go Go.RowKit Go.YtndekdafiaogmaaMem Go.YtndekdafiaogmaaLex Go.Proofs.Ytndekdafiaogmaa.Hash Go.Proofs.Ytndekdafiaogmaa.Arith Go.Proofs.Ytndekdafiaogmaa.Index Go.Proofs.Ytndekdafiaogmaa.Cell Go.Proofs.Ytndekdafiaogmaa.Slot
open Go.Proofs.Ytndekdafiaogmaa.Pool (PS putP remP pairs PB PoolAt firstIdle)
open Go.Proofs.Ytndekdafiaogmaa.Ring (Rs RiB RingAt estS addR waitS waitK massS massTo fromTo fromS eldestS slotNo leastV countV Small)
open Go.Proofs.Ytndekdafiaogmaa.Sum (Ent OkE SB SumAt countE leastOf)
theorem lag_room {x : Cell} {p : Pace} {now cost : Int} (hp : Tame p now) (hc : 1 ≤ cost ∧ cost ≤ p.burst) : x.lag p now cost = 0 ↔ cost ≤ x.free p now := by
 have hu := hp.unit
 have hn := hp.now
 have hm : (p.burst - cost) * p.unit = p.burst * p.unit - cost * p.unit := Int.sub_mul _ _ _
 have h0 : 0 ≤ (p.burst - cost) * p.unit := Int.mul_nonneg (by omega) (by omega)
 unfold Cell.lag Cell.free
 split
 ·rename_i ha
  split
  ·rename_i hb
   have hcu : 0 ≤ cost * p.unit := Int.mul_nonneg (by omega) (by omega)
   constructor
   ·intro h; omega
   ·intro h; omega
  ·rename_i hb
   rw [Int.tdiv_eq_ediv_of_nonneg (by omega), Int.le_ediv_iff_mul_le (by omega)]
   omega
 ·rename_i ha
  constructor
  ·intro _; omega
  ·intro _; omega
theorem wait_room {x : Cell} {p : Pace} {now cost : Int} (hx : Mild x) (hp : Tame p now) (hc : 1 ≤ cost ∧ cost ≤ p.burst) : x.wait p now cost = 0 ↔ cost ≤ x.room p now := by
 have hl := lag_room (x := x) hp hc
 have hl0 : 0 ≤ x.lag p now cost := by unfold Cell.lag; omega
 have hs : sum x.carry x.used = x.carry + x.used := sum_in (by have := hx.carry; have := hx.used; unfold I64; omega)
 have hsi : sum x.since p.window = x.since + p.window := sum_in (by have := hx.since; have := hp.window; unfold I64; omega)
 unfold Cell.wait Cell.room
 rw [hs]
 by_cases hy : x.young p now = true
 ·have hyo : now < x.since + p.window := by unfold Cell.young at hy; rw [hsi] at hy; simpa using hy
  rw [if_pos hy]
  by_cases hq : p.limit < x.carry + x.used + cost
  ·rw [if_pos ⟨hy, hq⟩]
   constructor
   ·intro h; omega
   ·intro h; omega
  ·rw [if_neg (fun h => hq h.2)]
   rw [hl]
   have := hp.limit
   constructor
   ·intro h; omega
   ·intro h; omega
 ·rw [if_neg hy, if_neg (fun h => hy h.1)]
  exact hl
theorem wait_nonneg {x : Cell} {p : Pace} {now cost : Int} : 0 ≤ x.wait p now cost := by
 have hl0 : 0 ≤ x.lag p now cost := by unfold Cell.lag; omega
 unfold Cell.wait
 split <;> omega
theorem waitK_pos {R : List Row} {wd : Nat} {x : Rs} {key : List UInt8} {cost : Int} {n : Nat} (hs : 1 ≤ x.st.length) : ∀ f k, 1 ≤ k → 1 ≤ waitK R wd x key cost n f k
 | 0, k, _ => hs
 | f + 1, k, hk => by
   unfold waitK
   split
   ·exact hk
   ·exact waitK_pos hs f (k + 1) (by omega)
theorem waitS_room {R : List Row} {wd : Nat} {x : Rs} {key : List UInt8} {cost : Int} (hw : 1 ≤ x.width) (hs : 1 ≤ x.st.length) : 0 ≤ waitS R wd x key cost ∧ (waitS R wd x key cost = 0 ↔ sum (estS R wd x key) cost ≤ x.lim) := by
 unfold waitS
 split
 ·rename_i h; exact ⟨by omega, by simp [h]⟩
 ·rename_i h
  have hk := waitK_pos (R := R) (wd := wd) (x := x) (key := key) (cost := cost) (n := x.now / x.width) hs x.st.length 1 (Nat.le_refl _)
  have h1 : (x.now / x.width + 1) * x.width ≤ (x.now / x.width + waitK R wd x key cost (x.now / x.width) x.st.length 1) * x.width := Nat.mul_le_mul_right _ (by omega)
  have h2 : x.now < (x.now / x.width + 1) * x.width := by
   have h3 := Nat.div_add_mod x.now x.width
   have h4 := Nat.mod_lt x.now (show 0 < x.width by omega)
   rw [Nat.add_mul, Nat.one_mul, Nat.mul_comm]; omega
  refine ⟨by omega, ⟨fun hz => by omega, fun hz => absurd hz h⟩⟩
end Go.Proofs.Ytndekdafiaogmaa.Lim
end
section
namespace Go.Proofs.Ytndekdafiaogmaa.Lim
open Go Go.RowKit Go.YtndekdafiaogmaaMem Go.YtndekdafiaogmaaLex Go.Proofs.Ytndekdafiaogmaa.Hash Go.Proofs.Ytndekdafiaogmaa.Arith Go.Proofs.Ytndekdafiaogmaa.Index Go.Proofs.Ytndekdafiaogmaa.Cell Go.Proofs.Ytndekdafiaogmaa.Slot
open Go.Proofs.Ytndekdafiaogmaa.Pool (PS putP remP pairs PB PoolAt firstIdle)
open Go.Proofs.Ytndekdafiaogmaa.Ring (Rs RiB RingAt estS addR waitS waitK massS massTo fromTo fromS eldestS slotNo leastV countV Small)
open Go.Proofs.Ytndekdafiaogmaa.Sum (Ent OkE SB SumAt countE leastOf)
def rk (x : Rs) : Nat × Int × Bool × Nat := (x.width, x.lim, x.part, x.st.length)
theorem rk_add (R : List Row) (wd : Nat) (x : Rs) (key : List UInt8) (cost : Int) : rk (addR R wd x key cost) = rk x := by
 unfold rk addR
 simp only
 split
 ·rfl
 ·simp
theorem rk_settle (c : Cf) (s : Lm) (now : Int) (key : List UInt8) : rk (settle c s now key).2.2.ring = rk s.ring := by
 unfold settle
 split
 ·rfl
 ·split
  ·split
   ·rfl
   ·exact rk_add _ _ _ _ _
  ·rfl
theorem rk_answer (c : Cf) (o : Option Nat) (s : Lm) (now : Int) (key : List UInt8) (cost : Int) : rk (answer c o s now key cost).2.ring = rk s.ring := by
 unfold answer
 cases o with
 | some i => rfl
 | none =>
   unfold ringAsk
   simp only
   split
   ·exact rk_add _ _ _ _ _
   ·rfl
theorem rk_check (c : Cf) (s : Lm) (now held : Int) (key : List UInt8) (cost : Int) : rk (check c s now held key cost).2.2.ring = rk s.ring := by
 unfold check
 split
 ·simp only; rw [(count_facts _ _).2.1]
 ·simp only
  rw [(count_facts _ _).2.1, rk_answer, rk_settle]
  rfl
def RingOf (c : Cf) (x : Rs) : Prop := 1 ≤ x.width ∧ x.lim = c.r.limit ∧ 1 ≤ x.st.length ∧ x.st.length ≤ 65
theorem RingOf.rk {c : Cf} {x y : Rs} (h : RingOf c x) (e : rk y = rk x) : RingOf c y := by
 unfold Lim.rk at e
 simp only [Prod.mk.injEq] at e
 obtain ⟨e1, e2, e3, e4⟩ := e
 unfold RingOf at *
 omega
structure Tells (r : Rule) (cost : Int) (a : Ans) : Prop where
 v : a.verdict = 1 ∨ a.verdict = 2
 rem : 0 ≤ a.remaining ∧ a.remaining ≤ r.burst
 ret : 0 ≤ a.retry
 iff_ : a.verdict = 1 ↔ a.retry = 0
 deny : a.verdict = 2 → a.remaining < cost
section
variable {c : Cf} {s : Lm} {K : Nat}
end
end Go.Proofs.Ytndekdafiaogmaa.Lim
end
section
namespace Go.Proofs.Ytndekdafiaogmaa.Lim
open Go Go.RowKit Go.YtndekdafiaogmaaMem Go.YtndekdafiaogmaaLex Go.Proofs.Ytndekdafiaogmaa.Hash Go.Proofs.Ytndekdafiaogmaa.Arith Go.Proofs.Ytndekdafiaogmaa.Index Go.Proofs.Ytndekdafiaogmaa.Cell Go.Proofs.Ytndekdafiaogmaa.Slot
open Go.Proofs.Ytndekdafiaogmaa.Pool (PS putP remP pairs PB PoolAt firstIdle)
open Go.Proofs.Ytndekdafiaogmaa.Ring (Rs RiB RingAt estS addR waitS massS Small small_get leastV leastV_small ring0)
open Go.Proofs.Ytndekdafiaogmaa.Sum (Ent OkE SB SumAt countE leastOf)
theorem inrow_mod {α : Type} {w w' : World} {a : Option Addr} {k : Nat} {enc : α → List Value} {l : List α} (h : InRow w a k enc l) (hm : Mod [] w w') : InRow w' a k enc l := by
 intro i x hx
 obtain ⟨b, off, ha, hb, hc⟩ := h i x hx
 exact ⟨b, off, ha, hm.lt hb, fun j u hu => (hm.cell (a := ⟨b, off + i * k + j, none⟩) hb (by simp)).trans (hc j u hu)⟩
theorem inrow_get {w : World} {a : Option Addr} {l : List Call} (h : InRow w a 4 Call.cells l) {j : Nat} {q : Call} (hq : l[j]? = some q) :
  ∃ b off, a = some ⟨b, off, none⟩ ∧ ∀ W, Mod [] w W → W.cell? ⟨b, off + j * 4, none⟩ = some (.int .i64 q.gap) ∧ W.cell? ⟨b, off + j * 4 + 1, none⟩ = some (.int .i64 q.cost) ∧ W.cell? ⟨b, off + j * 4 + 2, none⟩ = some (.string ⟨q.key.toArray⟩) ∧ W.cell? ⟨b, off + j * 4 + 3, none⟩ = some (.bool q.peek) := by
 obtain ⟨b, off, ha, hb, hc⟩ := h j q hq
 exact ⟨b, off, ha, fun W hM => ⟨(hM.cell (a := ⟨b, off + j * 4, none⟩) hb (by simp)).trans (hc 0 _ rfl), (hM.cell (a := ⟨b, off + j * 4 + 1, none⟩) hb (by simp)).trans (hc 1 _ rfl), (hM.cell (a := ⟨b, off + j * 4 + 2, none⟩) hb (by simp)).trans (hc 2 _ rfl), (hM.cell (a := ⟨b, off + j * 4 + 3, none⟩) hb (by simp)).trans (hc 3 _ rfl)⟩⟩
theorem light_spec {l : List Call} (h : lightB l = true) : l.length ≤ 150 ∧ ∀ q ∈ l, q.key.length ≤ 64 := by
 unfold lightB at h
 simp only [Bool.and_eq_true, decide_eq_true_eq, List.all_eq_true] at h
 exact h
structure Kept (c : Cf) (s : Lm) (k now : Nat) : Prop where
 inv : Inv c s (65 * k)
 time : s.ring.now ≤ now ∧ now ≤ 1023 * k
 t : 0 ≤ s.t ∧ s.t ≤ 63 * k
 len : s.pool.S.length = c.r.cells.toNat
theorem kept0 (c : Cf) (hc : c.Ok) : Kept c (new0 c) 0 0 := by
 refine ⟨new0_inv c hc, ⟨Nat.le_refl _, Nat.le_refl _⟩, by simp [new0], by simp [new0, emp]⟩
theorem Kept.check {c : Cf} {s : Lm} {k now : Nat} (h : Kept c s k now) (hc : c.Ok) (hl : c.r.limit ≤ 32) (hk : k < 150) (hf : s.ring.st.length ≤ 65) {g : Nat} (hg : g ≤ 1023) (held : Int) {key : List UInt8} (hkey : key.length ≤ 64) {n : Nat} (hn : n ≤ 63) :
  Kept c (check c s ((now + g : Nat) : Int) held key n).2.2 (k + 1) (now + g) := by
 have hstep : c.step = 2 * c.r.limit.toNat + 1 := rfl
 have h1 := h.time
 obtain ⟨i1, i2, i3⟩ := h.inv.check hc hf (now := now + g) (by omega) held key n (by omega)
 refine ⟨i1.mono (by omega) (by omega), ⟨i3, by omega⟩, ?_, ?_⟩
 ·rw [check_t]
  have ht := h.t
  split
  ·rename_i hr
   cases hr2 : refuse c.r ((now + g : Nat) : Int) held n with
   | some a => rw [hr2] at hr; simp at hr
   | none =>
     have := (refuse_none hr2).1
     rw [offer_t (key := key) (cost := (n : Int)) (by omega) hkey (by omega)]
     omega
  ·omega
 ·rw [check_slen]; exact h.len
theorem sl_slice {w : World} {v : Value} {xs : List Value} (h : Sl w v xs) : ∃ a c, v = .slice a xs.length c := by
 rcases h with ⟨rfl, a, c, rfl⟩ | ⟨b, off, cap, rfl, _⟩
 ·exact ⟨a, c, rfl⟩
 ·exact ⟨_, cap, rfl⟩
theorem Kept.skip {c : Cf} {s : Lm} {k now : Nat} (h : Kept c s k now) (hk : k < 150) {g : Nat} (hg : g ≤ 1023) : Kept c s (k + 1) (now + g) := by
 have h1 := h.time
 have h2 := h.t
 exact ⟨h.inv.mono (by omega) (by omega), by omega, by omega, h.len⟩
theorem Kept.both {c : Cf} {s : Lm} {k now : Nat} (h : Kept c s k now) (hc : c.Ok) (hl : c.r.limit ≤ 32) (hk : k < 150) (hf : s.ring.st.length ≤ 65) {g : Nat} (hg : g ≤ 1023) {key : List UInt8} (hkey : key.length ≤ 64) {n : Nat} (hn : n ≤ 63) :
  Kept c (Lim.check c (s.to ((now + g : Nat) : Int)) ((now + g : Nat) : Int) 0 key n).2.2 (k + 1) (now + g) := by
 have h1 := h.time
 have hstep : c.step = 2 * c.r.limit.toNat + 1 := rfl
 obtain ⟨j1, j2⟩ := h.inv.to (now := now + g) (by omega) (by omega)
 obtain ⟨i1, i2, i3⟩ := j1.check hc (by exact hf) (now := now + g) (by omega) 0 key n (by omega)
 refine ⟨i1.mono (by omega) (by omega), ⟨i3, by omega⟩, ?_, ?_⟩
 ·rw [check_t]
  have ht := h.t
  have e1 : (s.to ((now + g : Nat) : Int)).t = s.t := rfl
  have e2 : (s.to ((now + g : Nat) : Int)).E = s.E := rfl
  rw [e1, e2]
  split
  ·rename_i hr
   cases hr2 : refuse c.r ((now + g : Nat) : Int) 0 n with
   | some a => rw [hr2] at hr; simp at hr
   | none =>
     have := (refuse_none hr2).1
     rw [offer_t (key := key) (cost := (n : Int)) (by omega) hkey (by omega)]
     omega
  ·omega
 ·rw [check_slen]; exact h.len
theorem small_kt {k t : Nat} (hk : k ≤ 149) (ht : t ≤ 1023 * k) : k ≤ 149 ∧ t ≤ 200000 := by omega
theorem ring_of0 {r : Rule} {ds : List Nat} (hr : RuleOk r) : RingOf (cfOf r ds) (new0 (cfOf r ds)).ring := by
 have h1 := hr.slots
 have h2 := hr.window
 refine ⟨?_, rfl, ?_, ?_⟩
 ·show 1 ≤ r.window.toNat / r.slots.toNat
  exact Nat.div_pos (by omega) (by omega)
 ·show 1 ≤ (List.replicate (r.slots.toNat + 1) (0 : Int)).length
  rw [List.length_replicate]; omega
 ·show (List.replicate (r.slots.toNat + 1) (0 : Int)).length ≤ 65
  rw [List.length_replicate]; omega
theorem u64s {zs : List Int} (hw : ∀ z ∈ zs, (Lit.int .u64 z).wf = true) : ∃ ds : List Nat, zs.map (Value.int .u64) = v64 ds ∧ ∀ x, x ∈ ds → x < 18446744073709551616 := by
 refine ⟨zs.map Int.toNat, ?_, fun x hx => ?_⟩
 ·unfold v64
  rw [List.map_map]
  refine List.map_congr_left fun z hz => ?_
  have : 0 ≤ z ∧ z ≤ 18446744073709551615 := by simpa [Lit.wf, IntKind.min, IntKind.max, IntKind.signed, IntKind.bits] using hw z hz
  show Value.int .u64 z = Value.int .u64 (z.toNat : Int)
  rw [Int.toNat_of_nonneg (by omega)]
 ·obtain ⟨z, hz, rfl⟩ := List.mem_map.1 hx
  have : 0 ≤ z ∧ z ≤ 18446744073709551615 := by simpa [Lit.wf, IntKind.min, IntKind.max, IntKind.signed, IntKind.bits] using hw z hz
  omega
end Go.Proofs.Ytndekdafiaogmaa.Lim
end
