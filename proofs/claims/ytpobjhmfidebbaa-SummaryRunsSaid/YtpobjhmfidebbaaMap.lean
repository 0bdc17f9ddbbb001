/- A map from texts to whole numbers that a call has made, as a function: look-ups, stores, deletes, len, range. Over any program. -/
import Derived.Test.YtpobjhmfidebbaaMem
import Derived.Maps.RangeWalk
namespace Go.YtpobjhmfidebbaaMem
set_option linter.unusedVariables false
set_option linter.unusedSimpArgs false
open Go Go.RowKit Go.Maps

def ReadsF (D : DataW Unit) (f : List UInt8 → Option Int) : Prop := (∀ k, Maps.has D (.string k) = (f k).isSome) ∧ ∀ k z, f k = some z → ∀ zd, D.atKey (.string k) zd = .lit (.int .i64 z)
/-- Block b is a map of c entries (of at most n) that reads as f. -/
def MapW (P : Program) (kt et : TypeId) (w : World) (b n : Nat) (f : List UInt8 → Option Int) (c : Nat) : Prop :=
  ∃ D : DataW Unit, w.ownsMap P kt (plainElem P et) b n D ∧ Maps.size D = c ∧ ReadsF D f
/-- A round over the map at block b is under way at block r. -/
def RangeW (P : Program) (kt et : TypeId) (w : World) (b r n : Nat) (f : List UInt8 → Option Int) (c : Nat) : Prop :=
  ∃ (D : DataW Unit) (left : Lit → Bool) (cnt : Nat), w.ranges P kt (plainElem P et) b r n D left cnt ∧ Maps.size D = c ∧ ReadsF D f
def upd (f : List UInt8 → Option Int) (k : List UInt8) (o : Option Int) : List UInt8 → Option Int := fun x => if x = k then o else f x
theorem upd_same (f : List UInt8 → Option Int) (k : List UInt8) (o : Option Int) : upd f k o k = o := by simp [upd]
theorem upd_other {f : List UInt8 → Option Int} {k x : List UInt8} {o : Option Int} (h : x ≠ k) : upd f k o x = f x := by simp [upd, h]

section
variable {P : Program} {mt kt et : TypeId} {w : World} {b n c : Nat} {f : List UInt8 → Option Int}
theorem MapW.lt (h : MapW P kt et w b n f c) : b < w.heap.size := by
  obtain ⟨D, h, _⟩ := h; exact h.lt
theorem MapW.mod {S : List Nat} {w' : World} (h : MapW P kt et w b n f c) (hm : Mod S w w') (hb : b ∉ S) : MapW P kt et w' b n f c := by
  obtain ⟨D, ⟨es, clock, he, r⟩, h2⟩ := h
  exact ⟨D, ⟨es, clock, hm.heap he hb, r⟩, h2⟩
theorem MapW.made (w : World) : MapW P kt et (w.alloc (.map #[] 0)) w.heap.size 0 (fun _ => none) 0 :=
  ⟨.map [], World.ownsMap_made _ _ _ _, rfl, fun k => rfl, fun k z h => by cases h⟩
theorem MapW.congr {g : List UInt8 → Option Int} (h : MapW P kt et w b n f c) (e : ∀ k, f k = g k) : MapW P kt et w b n g c := by
  obtain rfl : f = g := funext e
  exact h
theorem turned_mod {w' : World} (h : w.mapTurned w' b) : Mod [b] w w' := by
  have hg := h.grown
  exact ⟨hg.os, hg.tape, hg.output, hg.size, fun k hk hn => hg.block k hk (by simpa using hn)⟩
theorem grown_mod_some {w' : World} (hg : w.grownBy w' (some b)) : Mod [b] w w' := ⟨hg.os, hg.tape, hg.output, hg.size, fun k hk hn => hg.block k hk (by simpa using hn)⟩
theorem grown_mod_none {w' : World} (hg : w.grownBy w' none) : Mod [] w w' := ⟨hg.os, hg.tape, hg.output, hg.size, fun k hk _ => hg.block k hk (by simp)⟩
theorem key_str (hk : P.underlying kt = some .string) {k : List UInt8} (hl : k.length ≤ maxLen) : keyOf P kt (.string ⟨k.toArray⟩) = some (.string k) := by
  have hs : (ByteArray.mk k.toArray).size ≤ maxLen := by show k.toArray.size ≤ maxLen; rw [List.size_toArray]; exact hl
  simp only [keyOf, hk, mapKey]
  rw [if_pos hs]
theorem lit_key (k : List UInt8) : WideAt.IsKeyLit (.string k) := by trivial
theorem lit_ne {k x : List UInt8} (h : x ≠ k) : (Lit.string x) ≠ .string k := fun e => by injection e with e; exact h e

theorem MapW.look (h : MapW P kt et w b n f c) (hm : P.underlying mt = some (.map kt et)) (hk : P.underlying kt = some .string) (he : P.underlying et = some (.int .i64)) (hz : (zeroValue et).run P w = .ok (.int .i64 0) w) {k : List UInt8} (hl : k.length ≤ maxLen) :
    (Instr.lookup mt (.map (some b)) (.string ⟨k.toArray⟩) true).run P w = .ok (.tuple #[.int .i64 ((f k).getD 0), .bool (f k).isSome]) w := by
  obtain ⟨D, ho, hs, h1, h2⟩ := h
  obtain ⟨v, ps, hrun, hv⟩ := ho.look_ok (string_keyed hk) hm hz (plainElem_int he (by decide)) (key_str hk hl)
  obtain ⟨a, rfl, ha, hw⟩ := plainElem_int_inv he hv
  rw [hrun, h1 k]
  have hd : D.atKey (.string k) (.lit (.int .i64 0)) = .lit (.int .i64 a) := congrArg Prod.fst ha
  cases hf : f k with
  | none =>
    have := h1 k
    rw [hf] at this
    rw [Maps.atKey_of_not_has this] at hd
    injection hd with hd; injection hd with _ hd
    subst hd; rfl
  | some z =>
    rw [h2 k z hf] at hd
    injection hd with hd; injection hd with _ hd
    subst hd; rfl
theorem MapW.len (h : MapW P kt et w b n f c) (hm : P.underlying mt = some (.map kt et)) (ty : TypeId) : (Builtin.len_ #[mt] ty #[.map (some b)]).run P w = .ok (.int .i64 c) w := by
  obtain ⟨D, ho, rfl, _⟩ := h
  exact ho.len hm ty
theorem MapW.put (h : MapW P kt et w b n f c) (hm : P.underlying mt = some (.map kt et)) (hk : P.underlying kt = some .string) (he : P.underlying et = some (.int .i64)) (hn : n < maxLen) {k : List UInt8} (hl : k.length ≤ maxLen) {z : Int} (hw : (Lit.int .i64 z).wf = true) :
    ∃ w', (Instr.mapUpdate mt (.map (some b)) (.string ⟨k.toArray⟩) (.int .i64 z)).run P w = .ok () w' ∧ MapW P kt et w' b (n + 1) (upd f k (some z)) (if (f k).isSome then c else c + 1) ∧ Mod [b] w w' := by
  obtain ⟨D, ho, hs, h1, h2⟩ := h
  obtain ⟨w', hrun, ho', ht⟩ := ho.store (string_keyed hk) hm hn (key_str hk hl) (plainElem_int he hw)
  refine ⟨w', hrun, ⟨_, ho', ?_, fun x => ?_, fun x y hxy zd => ?_⟩, turned_mod ht⟩
  · rw [Maps.size_put (ho.tidy (string_keyed hk)), h1 k, hs]
  · by_cases e : x = k
    · subst e; rw [upd_same, Maps.has_put_same ho.isMap (lit_key _)]; rfl
    · rw [upd_other e, Maps.has_put_other (lit_ne e)]; exact h1 x
  · by_cases e : x = k
    · subst e; rw [upd_same] at hxy; injection hxy with hxy; subst hxy
      exact Maps.atKey_put_same ho.isMap (lit_key _) _ _
    · rw [upd_other e] at hxy; rw [Maps.atKey_put_other (lit_ne e)]; exact h2 x y hxy zd
theorem MapW.del (h : MapW P kt et w b n f c) (hm : P.underlying mt = some (.map kt et)) (hk : P.underlying kt = some .string) {k : List UInt8} (hl : k.length ≤ maxLen) (ty : TypeId) :
    ∃ w', (Builtin.delete_ #[mt, kt] ty #[.map (some b), .string ⟨k.toArray⟩]).run P w = .ok (.tuple #[]) w' ∧ MapW P kt et w' b n (upd f k none) (c - (if (f k).isSome then 1 else 0)) ∧ Mod [b] w w' := by
  obtain ⟨D, ho, hs, h1, h2⟩ := h
  obtain ⟨w', hrun, ho', ht⟩ := ho.drop (string_keyed hk) hm (key_str hk hl) ty
  refine ⟨w', hrun, ⟨_, ho', ?_, fun x => ?_, fun x y hxy zd => ?_⟩, turned_mod ht⟩
  · have := Maps.size_del (k := .string k) (ho.tidy (string_keyed hk))
    rw [h1 k, hs] at this
    omega
  · by_cases e : x = k
    · subst e; rw [upd_same, Maps.has_del_same]; rfl
    · rw [upd_other e, Maps.has_del_other (lit_ne e)]; exact h1 x
  · by_cases e : x = k
    · subst e; rw [upd_same] at hxy; cases hxy
    · rw [upd_other e] at hxy; rw [Maps.atKey_del_other (lit_ne e)]; exact h2 x y hxy zd
theorem MapW.range (h : MapW P kt et w b n f c) (hm : P.underlying mt = some (.map kt et)) (hk : P.underlying kt = some .string) :
    ∃ w', (Instr.range mt (.map (some b))).run P w = .ok (.pointer (some ⟨w.heap.size, 0, none⟩)) w' ∧ RangeW P kt et w' b w.heap.size n f c ∧ Mod [] w w' ∧ w'.heap.size = w.heap.size + 1 := by
  obtain ⟨D, ho, hs, hr⟩ := h
  obtain ⟨w', h1, h2, h3, h4⟩ := ho.range (string_keyed hk) hm
  exact ⟨w', h1, ⟨D, _, _, h2, hs, hr⟩, grown_mod_none h3, h4⟩
variable {r : Nat}
theorem RangeW.map (h : RangeW P kt et w b r n f c) : MapW P kt et w b n f c := by
  obtain ⟨D, left, cnt, h, h2⟩ := h; exact ⟨D, h.owns, h2⟩
theorem RangeW.lt (h : RangeW P kt et w b r n f c) : r < w.heap.size := by
  obtain ⟨D, left, cnt, h, h2⟩ := h; exact h.lt
theorem RangeW.ne (h : RangeW P kt et w b r n f c) : r ≠ b := by
  obtain ⟨D, left, cnt, h, h2⟩ := h; exact h.ne
theorem RangeW.mod {S : List Nat} {w' : World} (h : RangeW P kt et w b r n f c) (hm : Mod S w w') (hb : b ∉ S) (hr : r ∉ S) : RangeW P kt et w' b r n f c := by
  obtain ⟨D, left, cnt, h, h2⟩ := h
  have h1 := h.owns.lt
  have h3 := h.lt
  obtain ⟨es, clock, since, seen, c0, q1, F, hs, hD, q2, rest⟩ := h
  exact ⟨D, left, cnt, ⟨es, clock, since, seen, c0, hm.heap q1 hb, F, hs, hD, hm.heap q2 hr, rest⟩, h2⟩
theorem RangeW.left_mod {S : List Nat} {w' : World} (h : RangeW P kt et w b r n f c) (hm : Mod S w w') (hb : b ∉ S) (hr : r ∉ S) : w'.rangeLeft b r = w.rangeLeft b r := by
  obtain ⟨D, left, cnt, h, h2⟩ := h
  have h1 := h.owns.lt
  have h3 := h.lt
  unfold World.rangeLeft
  rw [hm.block b h1 hb, hm.block r h3 hr]
theorem RangeW.next (h : RangeW P kt et w b r n f c) (hk : P.underlying kt = some .string) (he : P.underlying et = some (.int .i64)) (ty : TypeId) :
    (Instr.next (.pointer (some ⟨r, 0, none⟩)) false ty).run P w = .ok (.tuple #[.bool false]) w ∨
    ∃ k z w', k.length ≤ maxLen ∧ f k = some z ∧ (Instr.next (.pointer (some ⟨r, 0, none⟩)) false ty).run P w = .ok (.tuple #[.bool true, .string ⟨k.toArray⟩, .int .i64 z]) w' ∧
      RangeW P kt et w' b r n f c ∧ w'.rangeLeft b r < w.rangeLeft b r ∧ Mod [r] w w' ∧ w'.heap.size = w.heap.size ∧ (Instr.entry (.pointer (some ⟨r, 0, none⟩))).run P w' = .ok (.tuple #[.string ⟨k.toArray⟩, .int .i64 z]) w' := by
  obtain ⟨D, left, cnt, h, hs, h1, h2⟩ := h
  rcases h.next (string_keyed hk) ty with ⟨_, _, h3⟩ | ⟨key, v, kl, y, w', cnt', hkey, hlk, hv, hat, hrun, hrg, hlt, hgr, hsz, hen⟩
  · exact .inl h3
  · obtain ⟨a, rfl, rfl, hw⟩ := plainElem_int_inv he hv
    obtain ⟨s, rfl, rfl, hsl⟩ : ∃ s : ByteArray, key = .string s ∧ kl = .string s.data.toList ∧ s.size ≤ maxLen := by
      cases key <;> simp only [keyOf, hk, mapKey] at hkey <;> try (exfalso; simp at hkey; done)
      rename_i s
      split at hkey
      · rename_i h1; injection hkey with hkey; exact ⟨s, rfl, hkey.symm, h1⟩
      · cases hkey
    have hh := Maps.has_true_of_atKey hat
    rw [h1] at hh
    obtain ⟨z, hz⟩ := Option.isSome_iff_exists.1 hh
    have := h2 _ z hz (.nil)
    rw [hat] at this
    injection this with this; injection this with _ this
    subst this
    have hse : (⟨s.data.toList.toArray⟩ : ByteArray) = s := by simp
    have hsl' : s.data.toList.length ≤ maxLen := by rw [Array.length_toList]; exact hsl
    refine .inr ⟨s.data.toList, a, w', hsl', hz, ?_, ⟨D, _, cnt', hrg, hs, h1, h2⟩, by rw [hrg.left_eq, h.left_eq]; exact hlt, grown_mod_some hgr, hsz, ?_⟩
    · rw [hse]; exact hrun
    · rw [hse]; exact hen
end
end Go.YtpobjhmfidebbaaMem
