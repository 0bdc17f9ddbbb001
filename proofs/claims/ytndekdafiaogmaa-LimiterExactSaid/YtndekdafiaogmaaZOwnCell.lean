/- limiter's laws: keys' cells of their own, in memory (LimiterExact); what the document's cell says of an old one. -/
import Derived.Test.YtndekdafiaogmaaZRefCell3
import Derived.Test.YtndekdafiaogmaaZLow
set_option linter.unusedSimpArgs false
set_option linter.unusedVariables false
section
namespace Go.Proofs.Ytndekdafiaogmaa.Lim
open Go Go.RowKit Go.YtndekdafiaogmaaMem Go.YtndekdafiaogmaaLex Go.Proofs.Ytndekdafiaogmaa.Hash Go.Proofs.Ytndekdafiaogmaa.Arith Go.Proofs.Ytndekdafiaogmaa.Index Go.Proofs.Ytndekdafiaogmaa.Cell Go.Proofs.Ytndekdafiaogmaa.Slot
theorem text_keyX (k : List UInt8) (hl : k.length ≤ maxLen) : keyOf Try.prog 9 (.string ⟨k.toArray⟩) = some (.string k) := key_str Try.underlying9 hl
theorem zero_cellp (w : World) : (zeroValue 61).run Try.prog w = .ok (.pointer none) w := by kernel_rfl
abbrev SKX := Maps.string_keyed Try.underlying9
def ptrs (P : List UInt8 → Option Nat) : Lit → Option Value
 | .string k => (P k).map fun b => .pointer (some ⟨b, 0, none⟩)
 | _ => none
theorem ptrs_some {P : List UInt8 → Option Nat} {key : List UInt8} {b : Nat} (h : P key = some b) : ptrs P (.string key) = some (.pointer (some ⟨b, 0, none⟩)) := by
 show (P key).map _ = _
 rw [h]; rfl
theorem ptrs_none {P : List UInt8 → Option Nat} {key : List UInt8} (h : P key = none) : ptrs P (.string key) = none := by
 show (P key).map _ = _
 rw [h]; rfl
def putB (P : List UInt8 → Option Nat) (key : List UInt8) (b : Nat) : List UInt8 → Option Nat := fun k => if k = key then some b else P k
theorem ptrs_put (P : List UInt8 → Option Nat) (key : List UInt8) (b : Nat) : ∀ k, updG (ptrs P) (.string key) (some (.pointer (some ⟨b, 0, none⟩))) k = ptrs (putB P key b) k := fun k => by
 by_cases h : k = .string key
 ·subst h; rw [updG_same]; unfold ptrs putB; simp
 ·rw [updG_other h]
  cases k <;> try rfl
  rename_i s
  have hs : s ≠ key := fun hh => h (by rw [hh])
  show (P s).map _ = (putB P key b s).map _
  unfold putB
  rw [if_neg hs]
structure OwnC (w : World) (tb nn : Nat) (P : List UInt8 → Option Nat) (F : List UInt8 → Option Int) (m : Nat) : Prop where
 map : MapG Try.prog 9 w tb nn (ptrs P) m
 no : ∀ k, P k = none → F k = none
 yes : ∀ k b, P k = some b → ∃ z s u, F k = some z ∧ Blk w b 62 [.int .i64 z, .int .i64 s, .int .i64 0, .int .i64 u] ∧ tb < b
 inj : ∀ k1 k2 b, P k1 = some b → P k2 = some b → k1 = k2
section
variable {w : World} {tb nn m : Nat} {P : List UInt8 → Option Nat} {F : List UInt8 → Option Int}
theorem OwnC.mod {S : List Nat} {w' : World} (h : OwnC w tb nn P F m) (hm : Mod S w w') (hS : ∀ b, b ∈ S → b < tb ∨ w.heap.size ≤ b) : OwnC w' tb nn P F m := by
 have htl := h.map.lt
 refine ⟨h.map.mod hm (fun hb => by have := hS _ hb; omega), h.no, fun k b hb => ?_, h.inj⟩
 obtain ⟨z, s, u, h1, h2, h3⟩ := h.yes k b hb
 exact ⟨z, s, u, h1, hm.blk h2 (fun hb2 => by have := hS _ hb2; have := h2.lt; omega), h3⟩
theorem OwnC.mod0 {w' : World} (h : OwnC w tb nn P F m) (hm : Mod [] w w') : OwnC w' tb nn P F m := h.mod hm (by simp)
theorem OwnC.blkX {w' : World} (h : OwnC w tb nn P F m) {ab : Nat} {T : TypeId} {cs : List Value} (hT : T ≠ 62) (hab : Blk w ab T cs) (htb : tb < ab) (hm : Mod [ab] w w') : OwnC w' tb nn P F m := by
 refine ⟨h.map.mod hm (fun hx => by simp at hx; omega), h.no, fun k b hb => ?_, h.inj⟩
 obtain ⟨z, s, u, h1, h2, h3⟩ := h.yes k b hb
 refine ⟨z, s, u, h1, hm.blk h2 (fun hx => ?_), h3⟩
 simp only [List.mem_singleton] at hx
 subst hx
 unfold Blk at hab h2
 rw [h2] at hab
 simp only [Option.some.injEq, Obj.cells.injEq] at hab
 exact hT hab.2.1.symm
theorem OwnC.own {w' : World} (h : OwnC w tb nn P F m) {key : List UInt8} {b : Nat} (hb : P key = some b) (hm : Mod [b] w w') {z s u : Int} (hF : F key = some z) (hB : Blk w' b 62 [.int .i64 z, .int .i64 s, .int .i64 0, .int .i64 u]) : OwnC w' tb nn P F m := by
 obtain ⟨_, _, _, _, hb2, htb⟩ := h.yes key b hb
 refine ⟨h.map.mod hm (fun hx => by simp at hx; omega), h.no, fun k b2 hk => ?_, h.inj⟩
 obtain ⟨z2, s2, u2, h1, h2, h3⟩ := h.yes k b2 hk
 by_cases hkk : k = key
 ·subst hkk
  rw [hb] at hk; cases hk
  exact ⟨z, s, u, hF, hB, htb⟩
 ·exact ⟨z2, s2, u2, h1, hm.blk h2 (fun hx => by simp at hx; subst hx; exact hkk (h.inj k key b2 hk hb)), h3⟩
theorem OwnC.put {w2 : World} (h : OwnC w tb nn P F m) {key : List UInt8} {b : Nat} (hb : P key = some b ∨ (P key = none ∧ ∀ k b2, P k = some b2 → b2 ≠ b)) (htb : tb < b) (hm : Mod [tb, b] w w2) {nn' m' : Nat} (hp : MapG Try.prog 9 w2 tb nn' (updG (ptrs P) (.string key) (some (.pointer (some ⟨b, 0, none⟩)))) m') {z s u : Int}
  (hB : Blk w2 b 62 [.int .i64 z, .int .i64 s, .int .i64 0, .int .i64 u]) : OwnC w2 tb nn' (putB P key b) (putF F key z) m' := by
 have hne : ∀ k b2, k ≠ key → P k = some b2 → b2 ≠ b := fun k b2 hk hk2 hbb => by
  subst hbb
  rcases hb with hb | hb
  ·exact hk (h.inj k key b2 hk2 hb)
  ·exact hb.2 k b2 hk2 rfl
 refine ⟨hp.congr (ptrs_put P key b), fun k hk => ?_, fun k b2 hk => ?_, fun k1 k2 b2 h1 h2 => ?_⟩
 ·unfold putB at hk
  split at hk
  ·cases hk
  ·rename_i hkk; rw [putF_other F hkk]; exact h.no k hk
 ·unfold putB at hk
  split at hk
  ·rename_i hkk; subst hkk; cases hk
   exact ⟨z, s, u, putF_own _ _ _, hB, htb⟩
  ·rename_i hkk
   obtain ⟨z2, s2, u2, g1, g2, g3⟩ := h.yes k b2 hk
   exact ⟨z2, s2, u2, by rw [putF_other F hkk]; exact g1, hm.blk g2 (fun hx => by simp at hx; rcases hx with hx | hx; omega; exact hne k b2 hkk hk hx), g3⟩
 ·unfold putB at h1 h2
  split at h1 <;> split at h2
  ·rename_i a1 a2; rw [a1, a2]
  ·rename_i a1 a2; cases h1; exact absurd rfl (hne k2 b a2 h2)
  ·rename_i a1 a2; cases h2; exact absurd rfl (hne k1 b a1 h1)
  ·exact h.inj k1 k2 b2 h1 h2
end
theorem roomR_old {c : Cell} {r : Rule} {now : Int} (h : c.since = now - r.window) : roomR c r now = (only c.full).free r.pace now := by
 unfold roomR
 rw [if_neg (by omega), free_only]
theorem waitR_old {c : Cell} {r : Rule} {now cost : Int} (h : c.since = now - r.window) (hr : RuleOk r) (hn : 0 ≤ now ∧ now < 4611686018427387904) (hc : 1 ≤ cost ∧ cost ≤ r.burst) : waitR c r now cost = (only c.full).lag r.pace now cost := by
 have ht := hr.tame hn
 have hl := lag_room (x := only c.full) ht (cost := cost) hc
 have hB : 0 ≤ (r.burst - cost) * r.pace.unit := Int.mul_nonneg (by omega) (by have := hr.pace; omega)
 have e : (only c.full).lag r.pace now cost = max (max c.full now - (now + (r.burst - cost) * r.pace.unit)) 0 := rfl
 unfold waitR
 rw [roomR_old h]
 split
 ·rename_i hle; exact (hl.2 hle).symm
 ·rename_i hle
  have hge : now ≤ waitAt c r now cost := by unfold waitAt; omega
  rw [if_neg (fun hh => by omega), e]
  unfold waitAt
  omega
theorem takeR_old {c : Cell} {r : Rule} {now cost : Int} (h : c.since = now - r.window) (hu : c.used = 0) (hcar : c.carry = 0) (h0 : 0 ≤ cost) : ∃ u, 0 ≤ u ∧ u ≤ cost ∧ (if cost ≤ roomR c r now then ({ c with full := max c.full now + cost * r.pace.unit, used := c.used + cost } : Cell) else c).cells = [.int .i64 (tookF r.pace c.full now cost), .int .i64 (now - r.window), .int .i64 0, .int .i64 u] := by
 rw [roomR_old h]
 unfold tookF
 split
 ·exact ⟨c.used + cost, by omega, by omega, by unfold Cell.cells; simp only; rw [h, hcar]⟩
 ·exact ⟨c.used, by omega, by omega, by unfold Cell.cells; rw [h, hcar]⟩
theorem took_in {r : Rule} {z now : Int} {cost : Nat} (hr : RuleOk r) (hn : 0 ≤ now ∧ now < 4611686018427387904) (hz : 0 ≤ z ∧ z ≤ 4611690416473899008) (hc : (cost : Int) ≤ r.burst) (h1 : 1 ≤ cost) : 0 ≤ tookF r.pace z now cost ∧ tookF r.pace z now cost ≤ 4611690416473899008 := by
 have ht := hr.tame hn
 unfold tookF
 split
 ·rename_i hle
  have h := up_in (k := cost) ht hz hc (free_ok ht hle)
  unfold upF at h
  rw [if_neg (by omega)] at h
  exact h
 ·exact hz
theorem old_asks {r : Rule} {z T u : Int} (hr : RuleOk r) (hT : 0 ≤ T ∧ T ≤ 300000) (hz : 0 ≤ z ∧ z ≤ 4611690416473899008) (hu : 0 ≤ u ∧ u ≤ 100) : MildR ⟨z, T - r.window, 0, u⟩ := by
 have := hr.window
 refine ⟨hz, ?_, ?_, ?_⟩ <;> simp only <;> omega
theorem room_old {r : Rule} {z T u : Int} (hr : RuleOk r) (hT : 0 ≤ T ∧ T ≤ 300000) (hz : 0 ≤ z ∧ z ≤ 4611690416473899008) (hu : 0 ≤ u ∧ u ≤ 100) (w : World) :
  Calls Try.prog 23 #[(⟨z, T - r.window, 0, u⟩ : Cell).val, r.val, .int .i64 T] w fun e w' => e = .returned (.int .i64 ((only z).free r.pace T)) ∧ Mod [] w w' := by
 have h := roomR_any ⟨z, T - r.window, 0, u⟩ r T hr (by omega) (old_asks hr hT hz hu) w
 rw [roomR_old rfl] at h
 exact h
theorem wait_old {r : Rule} {z T u cost : Int} (hr : RuleOk r) (hT : 0 ≤ T ∧ T ≤ 300000) (hz : 0 ≤ z ∧ z ≤ 4611690416473899008) (hu : 0 ≤ u ∧ u ≤ 100) (hc : 1 ≤ cost ∧ cost ≤ r.burst) (w : World) :
  Calls Try.prog 24 #[(⟨z, T - r.window, 0, u⟩ : Cell).val, r.val, .int .i64 T, .int .i64 cost] w fun e w' => e = .returned (.int .i64 ((only z).lag r.pace T cost)) ∧ Mod [] w w' := by
 have h := waitR_any ⟨z, T - r.window, 0, u⟩ r T cost hr (by omega) (old_asks hr hT hz hu) hc.1 hc.2 w
 rw [waitR_old rfl hr (by omega) hc] at h
 exact h
def TookPost (g : Nat) (r : Rule) (z T cost : Int) (w : World) (e : Ending) (w' : World) : Prop :=
 (∃ b, e = .returned (.bool b)) ∧ (∃ u, 0 ≤ u ∧ u ≤ cost ∧ Blk w' g 62 [.int .i64 (tookF r.pace z T cost), .int .i64 (T - r.window), .int .i64 0, .int .i64 u]) ∧ Mod [g] w w'
theorem take_old {r : Rule} {z T : Int} {cost : Nat} (hr : RuleOk r) (hT : 0 ≤ T ∧ T ≤ 300000) (hz : 0 ≤ z ∧ z ≤ 4611690416473899008) (hc : 1 ≤ cost ∧ (cost : Int) ≤ r.burst) {w : World} {g : Nat} (hB : Blk w g 62 [.int .i64 z, .int .i64 (T - r.window), .int .i64 0, .int .i64 0]) :
  Calls Try.prog 26 #[.pointer (some ⟨g, 0, none⟩), r.val, .int .i64 T, .int .i64 (cost : Int)] w (TookPost g r z T (cost : Int) w) := by
 have h := takeR_any ⟨z, T - r.window, 0, 0⟩ r T cost hr (by omega) (old_asks hr hT hz (by omega)) hc.1 hc.2 (w := w) (g := g) hB
 refine h.mono ?_
 rintro e w' ⟨h1, h2, h3⟩
 obtain ⟨u, u0, u1, hu⟩ := takeR_old (c := ⟨z, T - r.window, 0, 0⟩) (r := r) (now := T) (cost := (cost : Int)) rfl rfl rfl (by omega)
 rw [hu] at h2
 exact ⟨⟨_, h1⟩, ⟨u, u0, u1, h2⟩, h3⟩
end Go.Proofs.Ytndekdafiaogmaa.Lim
end
