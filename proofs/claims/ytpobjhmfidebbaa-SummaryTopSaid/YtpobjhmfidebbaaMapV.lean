/- A map that a call has made, as a function from keys to values of any kind: look-ups, stores, deletes, len, range. Over any program. -/
import Derived.Test.YtpobjhmfidebbaaMap
namespace Go.YtpobjhmfidebbaaMem
set_option linter.unusedVariables false
set_option linter.unusedSimpArgs false
open Go Go.RowKit Go.Maps

noncomputable section
open Classical in
def updG (f : Lit → Option Value) (k : Lit) (o : Option Value) : Lit → Option Value := fun x => if x = k then o else f x
end
/-- An element reads as itself. -/
def heldE (v : Value) : Option (DataW Value × List MemPlace) := some (.held v, [])
def ReadsG (D : DataW Value) (f : Lit → Option Value) : Prop := (∀ k, Maps.has D k = (f k).isSome) ∧ ∀ k z, f k = some z → ∀ zd, D.atKey k zd = .held z
/-- Block b is a map of c entries (of at most n) that reads as f. -/
def MapG (P : Program) (kt : TypeId) (w : World) (b n : Nat) (f : Lit → Option Value) (c : Nat) : Prop :=
  ∃ D : DataW Value, w.ownsMap P kt heldE b n D ∧ Maps.size D = c ∧ ReadsG D f
/-- A round over the map at block b is under way at block r. -/
def RangeG (P : Program) (kt : TypeId) (w : World) (b r n : Nat) (f : Lit → Option Value) (c : Nat) : Prop :=
  ∃ (D : DataW Value) (left : Lit → Bool) (cnt : Nat), w.ranges P kt heldE b r n D left cnt ∧ Maps.size D = c ∧ ReadsG D f
theorem updG_same (f : Lit → Option Value) (k : Lit) (o : Option Value) : updG f k o k = o := by simp [updG]
theorem updG_other {f : Lit → Option Value} {k x : Lit} {o : Option Value} (h : x ≠ k) : updG f k o x = f x := by simp [updG, h]

section
variable {P : Program} {mt kt et : TypeId} {w : World} {b n c : Nat} {f : Lit → Option Value}
theorem MapG.lt (h : MapG P kt w b n f c) : b < w.heap.size := by
  obtain ⟨D, h, _⟩ := h; exact h.lt
theorem MapG.mod {S : List Nat} {w' : World} (h : MapG P kt w b n f c) (hm : Mod S w w') (hb : b ∉ S) : MapG P kt w' b n f c := by
  obtain ⟨D, ⟨es, clock, he, r⟩, h2⟩ := h
  exact ⟨D, ⟨es, clock, hm.heap he hb, r⟩, h2⟩
theorem MapG.same {w' : World} (h : MapG P kt w b n f c) (e : w'.heap[b]? = w.heap[b]?) : MapG P kt w' b n f c := by
  obtain ⟨D, ⟨es, clock, he, r⟩, h2⟩ := h
  exact ⟨D, ⟨es, clock, e.trans he, r⟩, h2⟩
theorem MapG.made (w : World) : MapG P kt (w.alloc (.map #[] 0)) w.heap.size 0 (fun _ => none) 0 :=
  ⟨.map [], World.ownsMap_made _ _ _ _, rfl, fun k => rfl, fun k z h => by cases h⟩
theorem MapG.congr {g : Lit → Option Value} (h : MapG P kt w b n f c) (e : ∀ k, f k = g k) : MapG P kt w b n g c := by
  obtain rfl : f = g := funext e
  exact h
theorem MapG.mono (h : MapG P kt w b n f c) {n' : Nat} (hn : n ≤ n') : MapG P kt w b n' f c := by
  obtain ⟨D, ho, h2⟩ := h
  exact ⟨D, ho.mono hn, h2⟩
theorem MapG.few (h : MapG P kt w b n f c) : c ≤ n := by
  obtain ⟨D, ho, rfl, _⟩ := h
  exact ho.size_le
theorem MapG.look (h : MapG P kt w b n f c) (K : Keyed P kt) (hm : P.underlying mt = some (.map kt et)) {z : Value} (hz : (zeroValue et).run P w = .ok z w) {key : Value} {kl : Lit} (hkey : keyOf P kt key = some kl) :
    (Instr.lookup mt (.map (some b)) key true).run P w = .ok (.tuple #[(f kl).getD z, .bool (f kl).isSome]) w := by
  obtain ⟨D, ho, hs, h1, h2⟩ := h
  obtain ⟨v, ps, hrun, hv⟩ := ho.look_ok (zd := .held z) K hm hz rfl hkey
  rw [hrun, h1 kl]
  have hd : DataW.held v = D.atKey kl (.held z) := congrArg Prod.fst (Option.some.inj hv)
  cases hf : f kl with
  | none =>
    have := h1 kl
    rw [hf] at this
    rw [Maps.atKey_of_not_has this] at hd
    injection hd with hd
    subst hd; rfl
  | some y =>
    rw [h2 kl y hf] at hd
    injection hd with hd
    subst hd; rfl
theorem MapG.get (h : MapG P kt w b n f c) (K : Keyed P kt) (hm : P.underlying mt = some (.map kt et)) {z : Value} (hz : (zeroValue et).run P w = .ok z w) {key : Value} {kl : Lit} (hkey : keyOf P kt key = some kl) :
    (Instr.lookup mt (.map (some b)) key false).run P w = .ok ((f kl).getD z) w := by
  obtain ⟨D, ho, hs, h1, h2⟩ := h
  obtain ⟨v, ps, hrun, hv⟩ := ho.lookup (zd := .held z) K hm hz rfl hkey
  rw [hrun]
  have hd : DataW.held v = D.atKey kl (.held z) := congrArg Prod.fst (Option.some.inj hv)
  cases hf : f kl with
  | none =>
    have := h1 kl
    rw [hf] at this
    rw [Maps.atKey_of_not_has this] at hd
    injection hd with hd
    subst hd; rfl
  | some y =>
    rw [h2 kl y hf] at hd
    injection hd with hd
    subst hd; rfl
theorem MapG.len (h : MapG P kt w b n f c) (hm : P.underlying mt = some (.map kt et)) (ty : TypeId) : (Builtin.len_ #[mt] ty #[.map (some b)]).run P w = .ok (.int .i64 c) w := by
  obtain ⟨D, ho, rfl, _⟩ := h
  exact ho.len hm ty
theorem MapG.put (h : MapG P kt w b n f c) (K : Keyed P kt) (hm : P.underlying mt = some (.map kt et)) (hn : n < maxLen) {key : Value} {kl : Lit} (hkey : keyOf P kt key = some kl) (z : Value) :
    ∃ w', (Instr.mapUpdate mt (.map (some b)) key z).run P w = .ok () w' ∧ MapG P kt w' b (n + 1) (updG f kl (some z)) (if (f kl).isSome then c else c + 1) ∧ Mod [b] w w' := by
  obtain ⟨D, ho, hs, h1, h2⟩ := h
  obtain ⟨w', hrun, ho', ht⟩ := ho.store (val := z) (d := .held z) K hm hn hkey rfl
  refine ⟨w', hrun, ⟨_, ho', ?_, fun x => ?_, fun x y hxy zd => ?_⟩, turned_mod ht⟩
  · rw [Maps.size_put (ho.tidy K), h1 kl, hs]
  · by_cases e : x = kl
    · subst e; rw [updG_same, Maps.has_put_same ho.isMap (K.key hkey)]; rfl
    · rw [updG_other e, Maps.has_put_other e]; exact h1 x
  · by_cases e : x = kl
    · subst e; rw [updG_same] at hxy; injection hxy with hxy; subst hxy
      exact Maps.atKey_put_same ho.isMap (K.key hkey) _ _
    · rw [updG_other e] at hxy; rw [Maps.atKey_put_other e]; exact h2 x y hxy zd
theorem MapG.del (h : MapG P kt w b n f c) (K : Keyed P kt) (hm : P.underlying mt = some (.map kt et)) {key : Value} {kl : Lit} (hkey : keyOf P kt key = some kl) (ty : TypeId) :
    ∃ w', (Builtin.delete_ #[mt, kt] ty #[.map (some b), key]).run P w = .ok (.tuple #[]) w' ∧ MapG P kt w' b n (updG f kl none) (c - (if (f kl).isSome then 1 else 0)) ∧ Mod [b] w w' := by
  obtain ⟨D, ho, hs, h1, h2⟩ := h
  obtain ⟨w', hrun, ho', ht⟩ := ho.drop K hm hkey ty
  refine ⟨w', hrun, ⟨_, ho', ?_, fun x => ?_, fun x y hxy zd => ?_⟩, turned_mod ht⟩
  · have := Maps.size_del (k := kl) (ho.tidy K)
    rw [h1 kl, hs] at this
    omega
  · by_cases e : x = kl
    · subst e; rw [updG_same, Maps.has_del_same]; rfl
    · rw [updG_other e, Maps.has_del_other e]; exact h1 x
  · by_cases e : x = kl
    · subst e; rw [updG_same] at hxy; cases hxy
    · rw [updG_other e] at hxy; rw [Maps.atKey_del_other e]; exact h2 x y hxy zd
theorem MapG.range (h : MapG P kt w b n f c) (K : Keyed P kt) (hm : P.underlying mt = some (.map kt et)) :
    ∃ w', (Instr.range mt (.map (some b))).run P w = .ok (.pointer (some ⟨w.heap.size, 0, none⟩)) w' ∧ RangeG P kt w' b w.heap.size n f c ∧ Mod [] w w' ∧ w'.heap.size = w.heap.size + 1 := by
  obtain ⟨D, ho, hs, hr⟩ := h
  obtain ⟨w', h1, h2, h3, h4⟩ := ho.range K hm
  exact ⟨w', h1, ⟨D, _, _, h2, hs, hr⟩, grown_mod_none h3, h4⟩
variable {r : Nat}
theorem RangeG.map (h : RangeG P kt w b r n f c) : MapG P kt w b n f c := by
  obtain ⟨D, left, cnt, h, h2⟩ := h; exact ⟨D, h.owns, h2⟩
theorem RangeG.lt (h : RangeG P kt w b r n f c) : r < w.heap.size := by
  obtain ⟨D, left, cnt, h, h2⟩ := h; exact h.lt
theorem RangeG.ne (h : RangeG P kt w b r n f c) : r ≠ b := by
  obtain ⟨D, left, cnt, h, h2⟩ := h; exact h.ne
theorem RangeG.mod {S : List Nat} {w' : World} (h : RangeG P kt w b r n f c) (hm : Mod S w w') (hb : b ∉ S) (hr : r ∉ S) : RangeG P kt w' b r n f c := by
  obtain ⟨D, left, cnt, h, h2⟩ := h
  obtain ⟨es, clock, since, seen, c0, q1, F, hs, hD, q2, rest⟩ := h
  exact ⟨D, left, cnt, ⟨es, clock, since, seen, c0, hm.heap q1 hb, F, hs, hD, hm.heap q2 hr, rest⟩, h2⟩
theorem RangeG.left_mod {S : List Nat} {w' : World} (h : RangeG P kt w b r n f c) (hm : Mod S w w') (hb : b ∉ S) (hr : r ∉ S) : w'.rangeLeft b r = w.rangeLeft b r := by
  obtain ⟨D, left, cnt, h, h2⟩ := h
  have h1 := h.owns.lt
  have h3 := h.lt
  unfold World.rangeLeft
  rw [hm.block b h1 hb, hm.block r h3 hr]
theorem RangeG.next (h : RangeG P kt w b r n f c) (K : Keyed P kt) (ty : TypeId) :
    (Instr.next (.pointer (some ⟨r, 0, none⟩)) false ty).run P w = .ok (.tuple #[.bool false]) w ∨
    ∃ key kl z w', keyOf P kt key = some kl ∧ f kl = some z ∧ (Instr.next (.pointer (some ⟨r, 0, none⟩)) false ty).run P w = .ok (.tuple #[.bool true, key, z]) w' ∧
      RangeG P kt w' b r n f c ∧ w'.rangeLeft b r < w.rangeLeft b r ∧ Mod [r] w w' ∧ w'.heap.size = w.heap.size ∧ (Instr.entry (.pointer (some ⟨r, 0, none⟩))).run P w' = .ok (.tuple #[key, z]) w' := by
  obtain ⟨D, left, cnt, h, hs, h1, h2⟩ := h
  rcases h.next K ty with ⟨_, _, h3⟩ | ⟨key, v, kl, y, w', cnt', hkey, hlk, hv, hat, hrun, hrg, hlt, hgr, hsz, hen⟩
  · exact .inl h3
  · obtain rfl : (DataW.held v, ([] : List MemPlace)) = y := Option.some.inj hv
    have hh := Maps.has_true_of_atKey hat
    rw [h1] at hh
    obtain ⟨z, hz⟩ := Option.isSome_iff_exists.1 hh
    have := h2 _ z hz (.nil)
    rw [hat] at this
    injection this with this
    subst this
    exact .inr ⟨key, kl, v, w', hkey, hz, hrun, ⟨D, _, cnt', hrg, hs, h1, h2⟩, by rw [hrg.left_eq, h.left_eq]; exact hlt, grown_mod_some hgr, hsz, hen⟩
/-- A text's key. -/
theorem text_of_key (hk : P.underlying kt = some .string) {key : Value} {kl : Lit} (h : keyOf P kt key = some kl) : ∃ k : List UInt8, key = .string ⟨k.toArray⟩ ∧ kl = .string k ∧ k.length ≤ maxLen := by
  cases key <;> simp only [keyOf, hk, mapKey] at h <;> try (exfalso; simp at h; done)
  rename_i s
  split at h
  · rename_i h1; injection h with h
    refine ⟨s.data.toList, ?_, h.symm, by rw [Array.length_toList]; exact h1⟩
    simp
  · cases h
end
end Go.YtpobjhmfidebbaaMem
