/- limiter's laws: plain facts: that all is later by so many slots plays no part. -/
import Derived.Test.YtndekdafiaogmaaZLimD
import Derived.Test.YtndekdafiaogmaaZLimE
section
namespace Go.Proofs.Ytndekdafiaogmaa.Lim
open Go Go.RowKit Go.YtndekdafiaogmaaMem Go.YtndekdafiaogmaaLex Go.Proofs.Ytndekdafiaogmaa.Hash Go.Proofs.Ytndekdafiaogmaa.Arith Go.Proofs.Ytndekdafiaogmaa.Index Go.Proofs.Ytndekdafiaogmaa.Cell Go.Proofs.Ytndekdafiaogmaa.Slot
open Go.Proofs.Ytndekdafiaogmaa.Pool (PS putP remP pairs PB PoolAt firstIdle)
open Go.Proofs.Ytndekdafiaogmaa.Ring (Rs RiB RingAt estS addR waitS waitK massS massTo fromTo fromS eldestS slotNo leastV countV Small ring0)
open Go.Proofs.Ytndekdafiaogmaa.Sum (Ent OkE SB SumAt countE leastOf)
set_option linter.unusedVariables false
set_option linter.unusedSimpArgs false

/-- The counters of a number's slot. -/
def ctn (x : Rs) (n : Int) : Option (List Int) := (slotNo x n).map fun i => x.N.getD i []
theorem leastV_ctn (c : Cf) (x : Rs) (key : List UInt8) (n : Int) : leastV c.R c.wd x key (slotNo x n) = match ctn x n with | none => 0 | some N => leastS c.R c.wd N key := by
  unfold ctn
  cases slotNo x n <;> rfl
structure Shape (c : Cf) (x : Rs) : Prop where
  len : 1 ≤ x.st.length
  lenN : x.N.length = x.st.length
  each : ∀ N ∈ x.N, N.length = c.R.length * c.wd
theorem LimAt.shape {w : World} {B : LB} {c : Cf} {s : Lm} (h : LimAt w B c s) : Shape c s.ring := by
  refine ⟨h.ring.few.1, h.ring.lenN, fun N hN => ?_⟩
  obtain ⟨i, hi⟩ := List.getElem?_of_mem hN
  have hil : i < s.ring.st.length := by rw [← h.ring.lenN]; exact (List.getElem?_eq_some_iff.1 hi).1
  have := (h.ring.each i hil).len
  rw [List.getD_eq_getElem?_getD, hi] at this
  exact this
theorem ctn_add {c : Cf} {x : Rs} (h : Shape c x) (key : List UInt8) (cost : Int) (n : Int) :
    ctn (addR c.R c.wd x key cost) n = if n = ((x.now / x.width : Nat) : Int) then some (addC c.R c.wd ((ctn x n).getD (List.replicate (c.R.length * c.wd) 0)) key cost)
      else if 0 ≤ n ∧ n.toNat % x.st.length = x.now / x.width % x.st.length then none else ctn x n := by
  obtain ⟨n0, hn0⟩ : ∃ n0, x.now / x.width = n0 := ⟨_, rfl⟩
  obtain ⟨i0, hi0⟩ : ∃ i0, n0 % x.st.length = i0 := ⟨_, rfl⟩
  have hil : i0 < x.st.length := by rw [← hi0]; exact Nat.mod_lt _ h.len
  have hNi : i0 < x.N.length := by rw [h.lenN]; exact hil
  have hNl : (x.N.getD i0 []).length = c.R.length * c.wd := by
    rw [List.getD_eq_getElem?_getD, List.getElem?_eq_getElem hNi]
    exact h.each _ (List.getElem_mem _)
  obtain ⟨y, hy⟩ : ∃ y, addR c.R c.wd x key cost = y := ⟨_, rfl⟩
  have hyst : y.st = if x.st.getD i0 0 = (n0 : Int) + 1 then x.st else x.st.set i0 ((n0 : Int) + 1) := by
    rw [← hy]; unfold addR; simp only [hn0, hi0]; split <;> rfl
  have hyN : y.N = x.N.set i0 (addC c.R c.wd (if x.st.getD i0 0 = (n0 : Int) + 1 then x.N.getD i0 [] else List.replicate (c.R.length * c.wd) 0) key cost) := by
    rw [← hy, ← hNl]; unfold addR; simp only [hn0, hi0]; split <;> rfl
  have hyl : y.st.length = x.st.length := by rw [hyst]; split <;> simp
  have hget : ∀ i, y.st.getD i 0 = if i0 = i then (n0 : Int) + 1 else x.st.getD i 0 := fun i => by
    rw [hyst]
    split
    · rename_i he
      by_cases hii : i0 = i
      · subst hii; rw [if_pos rfl]; exact he
      · rw [if_neg hii]
    · exact getD_set_st _ _ _ _ hil
  rw [hy, hn0, hi0]
  by_cases hn : n = (n0 : Int)
  · subst hn
    rw [if_pos rfl]
    have hs : slotNo y (n0 : Int) = some i0 := by
      unfold slotNo
      rw [hyl, show (n0 : Int).toNat = n0 by omega, hi0, hget, if_pos rfl, if_pos ⟨by omega, rfl⟩]
    have hx : (ctn x (n0 : Int)).getD (List.replicate (c.R.length * c.wd) 0) = if x.st.getD i0 0 = (n0 : Int) + 1 then x.N.getD i0 [] else List.replicate (c.R.length * c.wd) 0 := by
      unfold ctn slotNo
      rw [show (n0 : Int).toNat = n0 by omega, hi0]
      by_cases he : x.st.getD i0 0 = (n0 : Int) + 1
      · rw [if_pos ⟨by omega, he⟩, if_pos he]; rfl
      · rw [if_neg (fun hh => he hh.2), if_neg he]; rfl
    rw [hx]
    unfold ctn
    rw [hs, hyN]
    show some ((x.N.set i0 _).getD i0 []) = _
    rw [getD_set_N _ _ _ _ hNi, if_pos rfl]
  · rw [if_neg hn]
    by_cases hr : 0 ≤ n ∧ n.toNat % x.st.length = i0
    · rw [if_pos hr]
      unfold ctn slotNo
      rw [hyl, hr.2, hget, if_pos rfl, if_neg (by rintro ⟨_, h2⟩; omega)]; rfl
    · rw [if_neg hr]
      by_cases h0 : 0 ≤ n
      · have hne : ¬ i0 = n.toNat % x.st.length := fun hh => hr ⟨h0, hh.symm⟩
        have e : slotNo y n = slotNo x n := by
          unfold slotNo
          simp only [hyl, hget, if_neg hne]
        unfold ctn
        rw [e]
        cases hs : slotNo x n with
        | none => rfl
        | some i =>
          have hi : i = n.toNat % x.st.length := by
            unfold slotNo at hs; split at hs
            · cases hs; rfl
            · cases hs
          show some (y.N.getD i []) = some (x.N.getD i [])
          rw [hyN, getD_set_N _ _ _ _ hNi, if_neg (by rw [hi]; exact hne)]
      · unfold ctn slotNo
        rw [if_neg (fun hh => h0 hh.1), if_neg (fun hh => h0 hh.1)]; rfl
theorem Shape.add {c : Cf} {x : Rs} (h : Shape c x) (key : List UInt8) (cost : Int) : Shape c (addR c.R c.wd x key cost) := by
  have hrk := rk_add c.R c.wd x key cost
  unfold Lim.rk at hrk
  simp only [Prod.mk.injEq] at hrk
  obtain ⟨_, _, _, e4⟩ := hrk
  have hl : x.now / x.width % x.st.length < x.N.length := by rw [h.lenN]; exact Nat.mod_lt _ h.len
  have hNl : (x.N.getD (x.now / x.width % x.st.length) []).length = c.R.length * c.wd := by
    rw [List.getD_eq_getElem?_getD, List.getElem?_eq_getElem hl]
    exact h.each _ (List.getElem_mem _)
  refine ⟨by rw [e4]; exact h.len, ?_, fun N hN => ?_⟩
  · rw [e4, ← h.lenN]
    unfold addR; simp only; split <;> simp
  · unfold addR at hN
    simp only at hN
    split at hN
    all_goals
      rcases List.mem_or_eq_of_mem_set hN with hN | rfl
      · exact h.each N hN
    · rw [addC_length]; exact hNl
    · rw [addC_length, List.length_replicate]; exact hNl
/-- Two rings, the one so many slots later. -/
structure RShift (c : Cf) (sh : Nat) (x y : Rs) : Prop where
  width : y.width = x.width
  lim : y.lim = x.lim
  part : y.part = x.part
  len : y.st.length = x.st.length
  ctn : ∀ n : Int, ctn y (n + sh) = ctn x n
section
variable {c : Cf} {sh : Nat} {x y : Rs}
theorem RShift.tos (h : RShift c sh x y) (t u : Nat) : RShift c sh (Ring.to x t) (Ring.to y u) := ⟨h.width, h.lim, h.part, h.len, h.ctn⟩
theorem RShift.from_ (h : RShift c sh x y) (key : List UInt8) (n into : Nat) : fromS c.R c.wd y key (n + sh) into = fromS c.R c.wd x key n into := by
  unfold fromS
  rw [h.len]
  have : ∀ k, fromTo c.R c.wd y key (n + sh) into k = fromTo c.R c.wd x key n into k := fun k => by
    induction k with
    | zero => rfl
    | succ k ih =>
      unfold fromTo
      rw [ih]
      have e : leastV c.R c.wd y key (slotNo y (((n + sh : Nat) : Int) - (y.st.length : Int) + 1 + (k : Int))) = leastV c.R c.wd x key (slotNo x ((n : Int) - (x.st.length : Int) + 1 + (k : Int))) := by
        rw [leastV_ctn, leastV_ctn, h.len, show ((n + sh : Nat) : Int) - (x.st.length : Int) + 1 + (k : Int) = ((n : Int) - (x.st.length : Int) + 1 + (k : Int)) + sh by omega, h.ctn]
      have e2 : ∀ m, eldestS y m into = eldestS x m into := fun m => by unfold eldestS; rw [h.part, h.width]
      simp only [e, e2]
  exact this _
/-- .. and its time is later by as much. -/
def Later (sh : Nat) (x y : Rs) : Prop := y.now = x.now + sh * x.width
theorem later_div (h : RShift c sh x y) (hl : Later sh x y) (hw : 1 ≤ x.width) : y.now / y.width = x.now / x.width + sh ∧ y.now % y.width = x.now % x.width := by
  unfold Later at hl
  rw [hl, h.width]
  exact ⟨Nat.add_mul_div_right _ _ (by omega), Nat.add_mul_mod_self_right _ _ _⟩
theorem RShift.est (h : RShift c sh x y) (hl : Later sh x y) (hw : 1 ≤ x.width) (key : List UInt8) : estS c.R c.wd y key = estS c.R c.wd x key := by
  obtain ⟨e1, e2⟩ := later_div h hl hw
  unfold estS
  rw [e1, e2]
  exact h.from_ key _ _
theorem RShift.wait (h : RShift c sh x y) (hl : Later sh x y) (hw : 1 ≤ x.width) (key : List UInt8) (cost : Int) : waitS c.R c.wd y key cost = waitS c.R c.wd x key cost := by
  obtain ⟨e1, e2⟩ := later_div h hl hw
  have hk : ∀ f k, waitK c.R c.wd y key cost (x.now / x.width + sh) f k = waitK c.R c.wd x key cost (x.now / x.width) f k := fun f => by
    induction f with
    | zero => intro k; exact h.len
    | succ f ih =>
      intro k
      unfold waitK
      rw [ih, show x.now / x.width + sh + k = x.now / x.width + k + sh by omega, h.from_, h.lim]
  unfold waitS
  rw [h.est hl hw, h.lim, e1, hk, h.len, h.width]
  split
  · rfl
  · unfold Later at hl
    rw [hl, show x.now / x.width + sh + waitK c.R c.wd x key cost (x.now / x.width) x.st.length 1 = (x.now / x.width + waitK c.R c.wd x key cost (x.now / x.width) x.st.length 1) + sh by omega, Nat.add_mul]
    omega
theorem mod_shift {n : Int} {n0 L sh : Nat} (h0 : 0 ≤ n) : (n + sh).toNat % L = (n0 + sh) % L ↔ n.toNat % L = n0 % L := by
  obtain ⟨k, rfl⟩ : ∃ k : Nat, n = (k : Int) := ⟨n.toNat, by omega⟩
  rw [show ((k : Int) + (sh : Int)).toNat = k + sh by omega, show (k : Int).toNat = k by omega]
  have := Int.emod_add_cancel_right (m := (k : Int)) (n := (L : Int)) (k := (n0 : Int)) (sh : Int)
  rw [← Int.natCast_add, ← Int.natCast_add, ← Int.natCast_emod, ← Int.natCast_emod, ← Int.natCast_emod, ← Int.natCast_emod] at this
  omega
theorem RShift.add (h : RShift c sh x y) (hl : Later sh x y) (hw : 1 ≤ x.width) (hx : Shape c x) (hy : Shape c y) (key : List UInt8) (cost : Int) : RShift c sh (addR c.R c.wd x key cost) (addR c.R c.wd y key cost) ∧ Later sh (addR c.R c.wd x key cost) (addR c.R c.wd y key cost) := by
  obtain ⟨e1, e2⟩ := later_div h hl hw
  have k1 := rk_add c.R c.wd x key cost
  have k2 := rk_add c.R c.wd y key cost
  unfold Lim.rk at k1 k2
  simp only [Prod.mk.injEq] at k1 k2
  obtain ⟨a1, a2, a3, a4⟩ := k1
  obtain ⟨b1, b2, b3, b4⟩ := k2
  refine ⟨⟨by rw [a1, b1]; exact h.width, by rw [a2, b2]; exact h.lim, by rw [a3, b3]; exact h.part, by rw [a4, b4]; exact h.len, fun n => ?_⟩, ?_⟩
  · rw [ctn_add hx, ctn_add hy, e1, h.len]
    obtain ⟨n0, hn0⟩ : ∃ n0, x.now / x.width = n0 := ⟨_, rfl⟩
    rw [hn0]
    by_cases hn : n = (n0 : Int)
    · rw [if_pos (show n + (sh : Int) = ((n0 + sh : Nat) : Int) by omega), if_pos hn, h.ctn]
    · rw [if_neg (show ¬ n + (sh : Int) = ((n0 + sh : Nat) : Int) by omega), if_neg hn, h.ctn]
      by_cases h0 : 0 ≤ n
      · have hm := mod_shift (n := n) (n0 := n0) (L := x.st.length) (sh := sh) h0
        by_cases hc : n.toNat % x.st.length = n0 % x.st.length
        · rw [if_pos (show 0 ≤ n + (sh : Int) ∧ (n + sh).toNat % x.st.length = (n0 + sh) % x.st.length from ⟨by omega, hm.2 hc⟩), if_pos (show 0 ≤ n ∧ n.toNat % x.st.length = n0 % x.st.length from ⟨h0, hc⟩)]
        · rw [if_neg (show ¬ (0 ≤ n + (sh : Int) ∧ (n + sh).toNat % x.st.length = (n0 + sh) % x.st.length) from fun hh => hc (hm.1 hh.2)), if_neg (show ¬ (0 ≤ n ∧ n.toNat % x.st.length = n0 % x.st.length) from fun hh => hc hh.2)]
      · have hz : Lim.ctn x n = none := by unfold Lim.ctn slotNo; rw [if_neg (fun hh => h0 hh.1)]; rfl
        rw [if_neg (show ¬ (0 ≤ n ∧ n.toNat % x.st.length = n0 % x.st.length) from fun hh => h0 hh.1), hz]
        split <;> rfl
  · unfold Later at *
    rw [addR_now, addR_now, a1]; exact hl
end
/-- A cell that is so much later. -/
def Cell.up (q : Cell) (d : Int) : Cell := ⟨q.full + d, q.since + d, q.carry, q.used⟩
section
variable {p : Pace} {q : Cell} {now d cost : Int}
theorem up_young (h : I64 (q.since + p.window)) (h2 : I64 (q.since + d + p.window)) : (Cell.up q d).young p (now + d) = q.young p now := by
  unfold Cell.young Cell.up
  simp only
  rw [sum_in h, sum_in h2, decide_eq_decide]
  omega
theorem up_free : (Cell.up q d).free p (now + d) = q.free p now := by
  unfold Cell.free Cell.up
  simp only
  rw [show q.full + d - (now + d) = q.full - now by omega]
theorem up_room (h : I64 (q.since + p.window)) (h2 : I64 (q.since + d + p.window)) : (Cell.up q d).room p (now + d) = q.room p now := by
  unfold Cell.room
  rw [up_young h h2, up_free]
  rfl
theorem up_wait (h : I64 (q.since + p.window)) (h2 : I64 (q.since + d + p.window)) : (Cell.up q d).wait p (now + d) cost = q.wait p now cost := by
  unfold Cell.wait
  rw [up_young h h2]
  have e : (Cell.up q d).lag p (now + d) cost = q.lag p now cost := by unfold Cell.lag Cell.up; simp only; omega
  rw [e, show (Cell.up q d).since + p.window - (now + d) = q.since + p.window - now by unfold Cell.up; simp only; omega]
  rfl
theorem up_bound (h : I64 (q.since + p.window)) (h2 : I64 (q.since + d + p.window)) : (Cell.up q d).bound p (now + d) = q.bound p now := by
  unfold Cell.bound
  rw [up_young h h2, show (Cell.up q d).full - (now + d - p.window) = q.full - (now - p.window) by unfold Cell.up; simp only; omega]
  rfl
theorem up_idle (h : I64 (q.since + p.window)) (h2 : I64 (q.since + d + p.window)) : (Cell.up q d).idle p (now + d) = q.idle p now := by
  unfold Cell.idle
  rw [up_young h h2]
  have : decide ((Cell.up q d).full ≤ now + d - p.window) = decide (q.full ≤ now - p.window) := by
    rw [decide_eq_decide]; unfold Cell.up; simp only; omega
  rw [this]
theorem up_fresh (now carry d : Int) : fresh (now + d) carry = Cell.up (fresh now carry) d := rfl
end
/-- Two pools, the cells of the one later. -/
structure PShift (d : Int) (s m : PS) : Prop where
  S : m.S = s.S
  fl : m.fl = s.fl
  len : m.C.length = s.C.length
  cell : ∀ i k, s.S[i]? = some (some k) → m.C.getD i .zero = Cell.up (s.C.getD i .zero) d
/-- Two limiters. -/
structure LShift (c : Cf) (sh : Nat) (d : Int) (s m : Lm) : Prop where
  pool : PShift d s.pool m.pool
  ring : RShift c sh s.ring m.ring
  E : m.E = s.E
  t : m.t = s.t
  al : m.al = s.al
  de : m.de = s.de
  bad : m.bad = s.bad
theorem LShift.count {c : Cf} {sh : Nat} {d : Int} {s m : Lm} (h : LShift c sh d s m) (v : Int) : LShift c sh d (s.count v) (m.count v) := by
  obtain ⟨h1, h2, h3, h4, h5, h6, h7⟩ := h
  unfold Lm.count
  split
  · exact ⟨h1, h2, h3, h4, by simp only; omega, h6, h7⟩
  · split
    · exact ⟨h1, h2, h3, h4, h5, by simp only; omega, h7⟩
    · exact ⟨h1, h2, h3, h4, h5, h6, by simp only; omega⟩
theorem getD_set_C (C : List Cell) (i j : Nat) (q : Cell) (hi : i < C.length) : (C.set i q).getD j .zero = if i = j then q else C.getD j .zero := by
  rw [List.getD_eq_getElem?_getD, List.getD_eq_getElem?_getD, List.getElem?_set]
  by_cases h : i = j
  · subst h; simp [hi]
  · simp [h]
theorem PShift.put {d : Int} {s m : PS} (h : PShift d s m) (hp : PoolOk s) (key : List UInt8) (q : Cell) : (putP m key (Cell.up q d)).1 = (putP s key q).1 ∧ PShift d (putP s key q).2 (putP m key (Cell.up q d)).2 := by
  unfold putP
  rw [h.S, h.fl]
  split
  · rename_i j fl' hpo hfl
    split
    · refine ⟨rfl, ⟨rfl, rfl, by simp [h.len], fun i k hk => ?_⟩⟩
      simp only at hk ⊢
      have hj := hp.free j (by rw [hfl]; simp)
      have hjs : j < s.S.length := (List.getElem?_eq_some_iff.1 hj).1
      have hjl : j < s.C.length := by rw [hp.len]; exact hjs
      rw [getD_set_C _ _ _ _ hjl, getD_set_C _ _ _ _ (by rw [h.len]; exact hjl)]
      by_cases hji : j = i
      · rw [if_pos hji, if_pos hji]
      · rw [if_neg hji, if_neg hji]
        rw [List.getElem?_set, if_neg hji] at hk
        exact h.cell i k hk
    · exact ⟨rfl, h⟩
  · exact ⟨rfl, h⟩
theorem PShift.rem {d : Int} {s m : PS} (h : PShift d s m) (key : List UInt8) : PShift d (remP s key).2.2 (remP m key).2.2 ∧ ((∃ i, placeOf s.S key = some i) → (remP m key).1 = Cell.up (remP s key).1 d) := by
  unfold remP
  rw [h.S]
  cases hpo : placeOf s.S key with
  | none => exact ⟨h, fun ⟨i, hi⟩ => by cases hi⟩
  | some i =>
    simp only
    refine ⟨⟨rfl, by simp only; rw [h.fl], h.len, fun j k hk => ?_⟩, fun _ => h.cell i key (placeOf_get hpo)⟩
    simp only at hk ⊢
    rw [List.getElem?_set] at hk
    by_cases hij : i = j
    · subst hij
      by_cases hl : i < s.S.length
      · simp [hl] at hk
      · simp [hl] at hk
    · rw [if_neg hij] at hk
      exact h.cell j k hk
end Go.Proofs.Ytndekdafiaogmaa.Lim
end
