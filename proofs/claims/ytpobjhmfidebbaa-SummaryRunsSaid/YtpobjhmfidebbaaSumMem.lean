/- The document's summary as a plain function: what an offer makes of the entries, as a set; how counts bound what was offered. -/
import Derived.Test.YtpobjhmfidebbaaSumPlain
import Derived.Test.YtpobjhmfidebbaaMap
namespace Go.Proofs.Ytpobjhmfidebbaa.Sum
open Go Go.RowKit Go.YtpobjhmfidebbaaMem
set_option linter.unusedVariables false
set_option linter.unusedSimpArgs false

theorem mem_unique {E : List Ent} (hnd : (E.map (·.key)).Nodup) {a b : Ent} (ha : a ∈ E) (hb : b ∈ E) (h : a.key = b.key) : a = b := by
  obtain ⟨i, hi⟩ := List.getElem?_of_mem ha
  obtain ⟨j, hj⟩ := List.getElem?_of_mem hb
  have h1 : (E.map (·.key))[i]? = some a.key := by rw [List.getElem?_map, hi]; rfl
  have h2 : (E.map (·.key))[j]? = some b.key := by rw [List.getElem?_map, hj]; rfl
  have hil := (List.getElem?_eq_some_iff.1 h1).1
  have : i = j := (List.getElem?_inj hil hnd).1 (by rw [h1, h2, h])
  subst this
  rw [hi] at hj; simpa using hj
theorem mem_bump {E : List Ent} {k : Nat} (hk : k < E.length) (z : Int) (e : Ent) : e ∈ bumpAt E k z ↔ e = { E.getD k default with n := nAt E k + z } ∨ ∃ j, j ≠ k ∧ E[j]? = some e := by
  refine ⟨bump_mem hk z, fun h => ?_⟩
  refine (bump_perm hk z).mem_iff.2 ?_
  rcases h with rfl | ⟨j, hj, he⟩
  · refine List.mem_of_getElem? (i := k) ?_
    unfold more
    exact List.getElem?_set_self hk
  · refine List.mem_of_getElem? (i := j) ?_
    unfold more
    rw [List.getElem?_set_ne (fun e => hj e.symm)]; exact he
/-- A key that is there gets more: its entry changes, no other. -/
theorem mem_offer_some {n : Nat} {E : List Ent} (hnd : (E.map (·.key)).Nodup) {key : List UInt8} {o : Ent} (ho : o ∈ E) (hk : o.key = key) (z : Int) (e : Ent) : e ∈ offerE n E key z ↔ (e ∈ E ∧ e.key ≠ key) ∨ e = { o with n := o.n + z } := by
  unfold offerE
  cases hf : findE E key with
  | none => exact absurd hk (findE_no hf o ho)
  | some k =>
    obtain ⟨o', ho', hk'⟩ := findE_get hf
    have hkl := (List.getElem?_eq_some_iff.1 ho').1
    obtain rfl : o' = o := mem_unique hnd (List.mem_of_getElem? ho') ho (by rw [hk', hk])
    simp only
    rw [mem_bump hkl, show nAt E k = o'.n by show (E.getD k default).n = _; rw [getD_some ho'], getD_some ho']
    constructor
    · rintro (h | ⟨j, hj, he⟩)
      · exact .inr h
      · refine .inl ⟨List.mem_of_getElem? he, fun h => hj ?_⟩
        have h1 : (E.map (·.key))[j]? = some e.key := by rw [List.getElem?_map, he]; rfl
        have h2 : (E.map (·.key))[k]? = some o'.key := by rw [List.getElem?_map, ho']; rfl
        exact (List.getElem?_inj (List.getElem?_eq_some_iff.1 h1).1 hnd).1 (by rw [h1, h2, h, hk])
    · rintro (⟨h1, h2⟩ | h)
      · obtain ⟨j, hj⟩ := List.getElem?_of_mem h1
        refine .inr ⟨j, fun e => ?_, hj⟩
        subst e
        rw [ho'] at hj
        obtain rfl : o' = e := by simpa using hj
        exact h2 hk
      · exact .inl h
/-- A key that is not there comes in, with what the last one leaves. -/
theorem mem_offer_none {n : Nat} {E : List Ent} {key : List UInt8} (hf : findE E key = none) (z : Int) (e : Ent) : e ∈ offerE n E key z ↔ e ∈ shed n E ∨ e = ⟨key, leastOf n E + z, leastOf n E⟩ := by
  unfold offerE
  rw [hf]
  simp only
  have hkl : (shed n E).length < (shed n E ++ [(⟨key, leastOf n E, leastOf n E⟩ : Ent)]).length := by simp
  have hg : (shed n E ++ [(⟨key, leastOf n E, leastOf n E⟩ : Ent)])[(shed n E).length]? = some ⟨key, leastOf n E, leastOf n E⟩ := by rw [List.getElem?_append_right (Nat.le_refl _), Nat.sub_self]; rfl
  rw [mem_bump hkl, getD_some hg, show nAt (shed n E ++ [(⟨key, leastOf n E, leastOf n E⟩ : Ent)]) (shed n E).length = leastOf n E by show (List.getD (shed n E ++ [(⟨key, leastOf n E, leastOf n E⟩ : Ent)]) (shed n E).length default).n = _; rw [getD_some hg]]
  constructor
  · rintro (h | ⟨j, hj, he⟩)
    · exact .inr h
    · have hl := (List.getElem?_eq_some_iff.1 he).1
      simp at hl
      rw [List.getElem?_append_left (by omega)] at he
      exact .inl (List.mem_of_getElem? he)
  · rintro (h | h)
    · obtain ⟨j, hj⟩ := List.getElem?_of_mem h
      have hl := (List.getElem?_eq_some_iff.1 hj).1
      exact .inr ⟨j, by omega, by rw [List.getElem?_append_left hl]; exact hj⟩
    · exact .inl h
theorem findE_mem {E : List Ent} {key : List UInt8} : (∃ e ∈ E, e.key = key) ↔ (findE E key).isSome = true := by
  constructor
  · rintro ⟨e, he, hk⟩
    cases hf : findE E key with
    | none => exact absurd hk (findE_no hf e he)
    | some k => rfl
  · intro h
    obtain ⟨k, hk⟩ := Option.isSome_iff_exists.1 h
    obtain ⟨e, he, hkey⟩ := findE_get hk
    exact ⟨e, List.mem_of_getElem? he, hkey⟩
/-- What is told of a key, by its entry. -/
theorem countE_mem {E : List Ent} (hnd : (E.map (·.key)).Nodup) {e : Ent} (he : e ∈ E) : countE E e.key = (e.n, e.err, true) := by
  unfold countE
  cases hf : findE E e.key with
  | none => exact absurd rfl (findE_no hf e he)
  | some k =>
    obtain ⟨o, ho, hk⟩ := findE_get hf
    obtain rfl : o = e := mem_unique hnd (List.mem_of_getElem? ho) he hk
    simp only; rw [getD_some ho]
theorem countE_no {E : List Ent} {key : List UInt8} (h : ∀ e ∈ E, e.key ≠ key) : countE E key = (0, 0, false) := by
  unfold countE
  cases hf : findE E key with
  | none => rfl
  | some k =>
    obtain ⟨o, ho, hk⟩ := findE_get hf
    exact absurd hk (h o (List.mem_of_getElem? ho))
theorem offerE_length {n : Nat} {E : List Ent} (key : List UInt8) (z : Int) : (offerE n E key z).length = if (findE E key).isSome then E.length else (shed n E).length + 1 := by
  unfold offerE
  cases hf : findE E key with
  | none => simp only [Option.isSome_none, Bool.false_eq_true, if_false]; rw [bump_length (by simp)]; simp
  | some k =>
    obtain ⟨e, he, _⟩ := findE_get hf
    simp only [Option.isSome_some, if_true]
    exact bump_length (List.getElem?_eq_some_iff.1 he).1 z
/-- An offer that may be, and ends no epoch. -/
theorem offer_plain {n : Nat} {s : List Ent × Int} {key : List UInt8} {z : Int} (hz : 1 ≤ z) (hk : key.length ≤ 64) (ht : s.2 + z < 4611686018427387904) (hs : 0 ≤ s.2) : offer n s key z = (offerE n s.1 key z, s.2 + z) := by
  unfold offer
  rw [if_neg (by omega), if_neg (by omega)]

/-! As many keys as there are places, or fewer. -/
/-- What was offered (f), and the entries: exact. -/
structure FewI (f : List UInt8 → Option Int) (E : List Ent) : Prop where
  there : ∀ e ∈ E, f e.key = some e.n ∧ e.err = 0
  all : ∀ key z, f key = some z → ∃ e ∈ E, e.key = key
theorem few_nil : FewI (fun _ => none) [] := ⟨by simp, fun key z h => by cases h⟩
theorem FewI.yes {f : List UInt8 → Option Int} {n : Nat} {E : List Ent} {t : Int} (h : FewI f E) (ho : OkE n E t) {key : List UInt8} {z v : Int} (hv : f key = some v) : FewI (upd f key (some (v + z))) (offerE n E key z) ∧ (offerE n E key z).length = E.length := by
  obtain ⟨o, hoE, hok⟩ := h.all key v hv
  have hon := h.there o hoE
  rw [hok, hv] at hon
  have hn : o.n = v := by simpa using hon.1.symm
  refine ⟨⟨fun e he => ?_, fun k z' hk => ?_⟩, ?_⟩
  · rcases (mem_offer_some ho.nd hoE hok z e).1 he with ⟨h1, h2⟩ | rfl
    · rw [upd_other h2]; exact h.there e h1
    · rw [show ({ o with n := o.n + z } : Ent).key = key from hok, upd_same]
      exact ⟨by rw [← hn], hon.2⟩
  · by_cases e : k = key
    · subst e
      exact ⟨_, (mem_offer_some ho.nd hoE hok z _).2 (.inr rfl), hok⟩
    · rw [upd_other e] at hk
      obtain ⟨e', he', hk'⟩ := h.all k z' hk
      exact ⟨e', (mem_offer_some ho.nd hoE hok z _).2 (.inl ⟨he', by rw [hk']; exact e⟩), hk'⟩
  · rw [offerE_length, if_pos (findE_mem.1 ⟨o, hoE, hok⟩)]
theorem FewI.no {f : List UInt8 → Option Int} {n : Nat} {E : List Ent} {t : Int} (h : FewI f E) (ho : OkE n E t) (hl : E.length < n) {key : List UInt8} {z : Int} (hv : f key = none) : FewI (upd f key (some z)) (offerE n E key z) ∧ (offerE n E key z).length = E.length + 1 := by
  have hno : findE E key = none := by
    cases hf : findE E key with
    | none => rfl
    | some k =>
      obtain ⟨o, ho, hk⟩ := findE_get hf
      have := (h.there o (List.mem_of_getElem? ho)).1
      rw [hk, hv] at this; cases this
  have hs : shed n E = E := by unfold shed; rw [if_neg (by omega)]
  have hle : leastOf n E = 0 := by unfold leastOf; rw [if_neg (by omega)]
  have hm := mem_offer_none (n := n) hno z
  rw [hs, hle] at hm
  refine ⟨⟨fun e he => ?_, fun k z' hk => ?_⟩, ?_⟩
  · rcases (hm e).1 he with h1 | rfl
    · rw [upd_other (findE_no hno e h1)]; exact h.there e h1
    · rw [show (⟨key, 0 + z, 0⟩ : Ent).key = key from rfl, upd_same]; exact ⟨by rw [Int.zero_add], rfl⟩
  · by_cases e : k = key
    · subst e
      exact ⟨_, (hm _).2 (.inr rfl), rfl⟩
    · rw [upd_other e] at hk
      obtain ⟨e', he', hk'⟩ := h.all k z' hk
      exact ⟨e', (hm _).2 (.inl he'), hk'⟩
  · rw [offerE_length, if_neg (by rw [hno]; simp), hs]

/-! What was offered lies between a count less its err, and the count. -/
structure BndI (n : Nat) (f : List UInt8 → Option Int) (E : List Ent) (t : Int) : Prop where
  up : ∀ e ∈ E, (f e.key).getD 0 ≤ e.n
  down : ∀ e ∈ E, e.n - e.err ≤ (f e.key).getD 0
  err : ∀ e ∈ E, e.err * n ≤ t
  rest : ∀ key, (∀ e ∈ E, e.key ≠ key) → (f key).getD 0 ≤ leastOf n E
  pos : ∀ key, 0 ≤ (f key).getD 0
theorem bnd_nil (n : Nat) (hn : 1 ≤ n) : BndI n (fun _ => none) [] 0 := ⟨by simp, by simp, by simp, fun key _ => by unfold leastOf; rw [if_neg (by simp; omega)]; simp, by simp⟩
theorem sum_ge {l : List Int} {v : Int} (h : ∀ x ∈ l, v ≤ x) : v * l.length ≤ l.sum := by
  induction l with
  | nil => simp
  | cons x l ih =>
    have h1 := ih (fun y hy => h y (by simp [hy]))
    have h2 := h x (by simp)
    simp only [List.length_cons, List.sum_cons, Int.natCast_add, Int.mul_add]
    simp; omega
theorem nAt_mem {E : List Ent} {e : Ent} (he : e ∈ E) : ∃ i, i < E.length ∧ nAt E i = e.n := by
  obtain ⟨i, hi⟩ := List.getElem?_of_mem he
  exact ⟨i, (List.getElem?_eq_some_iff.1 hi).1, by show (E.getD i default).n = _; rw [getD_some hi]⟩
theorem OkE.least_le {n : Nat} {E : List Ent} {t : Int} (h : OkE n E t) (hn : 1 ≤ n) : ∀ e ∈ E, leastOf n E ≤ e.n := fun e he => by
  unfold leastOf
  split
  · rename_i hl
    obtain ⟨i, hi, hie⟩ := nAt_mem he
    rw [← hie]
    by_cases hi2 : i = n - 1
    · subst hi2; exact Int.le_refl _
    · exact h.fall i (n - 1) (by omega) (by omega)
  · exact (h.each e he).1
theorem OkE.least_part {n : Nat} {E : List Ent} {t : Int} (h : OkE n E t) (hn : 1 ≤ n) : leastOf n E * n ≤ t := by
  by_cases hl : E.length = n
  · have := sum_ge (l := E.map (·.n)) (v := leastOf n E) (fun x hx => by
      obtain ⟨e, he, rfl⟩ := List.mem_map.1 hx
      exact h.least_le hn e he)
    rw [List.length_map, hl] at this
    have hs := h.sum
    unfold sumN at hs
    omega
  · unfold leastOf; rw [if_neg hl]; have := h.lt; omega
theorem BndI.step {n : Nat} {f : List UInt8 → Option Int} {E : List Ent} {t : Int} (h : BndI n f E t) (ho : OkE n E t) (hn : 1 ≤ n) {key : List UInt8} {z : Int} (hz : 1 ≤ z) (ho' : OkE n (offerE n E key z) (t + z)) : BndI n (upd f key (some ((f key).getD 0 + z))) (offerE n E key z) (t + z) := by
  have hup : ∀ k, k ≠ key → upd f key (some ((f key).getD 0 + z)) k = f k := fun k hk => upd_other hk
  have hsm : (upd f key (some ((f key).getD 0 + z)) key).getD 0 = (f key).getD 0 + z := by rw [upd_same]; rfl
  have hpos : ∀ k, 0 ≤ (upd f key (some ((f key).getD 0 + z)) k).getD 0 := fun k => by
    by_cases e : k = key
    · subst e; rw [hsm]; have := h.pos k; omega
    · rw [hup _ e]; exact h.pos k
  by_cases hin : ∃ o ∈ E, o.key = key
  · obtain ⟨o, hoE, hok⟩ := hin
    have hm := mem_offer_some (n := n) ho.nd hoE hok z
    have hkey : ({ o with n := o.n + z } : Ent).key = key := hok
    have hu := h.up o hoE
    have hd := h.down o hoE
    rw [hok] at hu hd
    refine ⟨fun e he => ?_, fun e he => ?_, fun e he => ?_, fun k hk => ?_, hpos⟩
    · rcases (hm e).1 he with ⟨h1, h2⟩ | rfl
      · rw [hup _ h2]; exact h.up e h1
      · rw [hkey, hsm]; show _ ≤ o.n + z; omega
    · rcases (hm e).1 he with ⟨h1, h2⟩ | rfl
      · rw [hup _ h2]; exact h.down e h1
      · rw [hkey, hsm]; show o.n + z - o.err ≤ _; omega
    · rcases (hm e).1 he with ⟨h1, h2⟩ | rfl
      · have := h.err e h1; omega
      · have := h.err o hoE; show o.err * n ≤ _; omega
    · have hkk : k ≠ key := fun e => hk _ ((hm _).2 (.inr rfl)) (by rw [hkey, e])
      have h1 := h.rest k (fun e he hke => hk e ((hm e).2 (.inl ⟨he, by rw [hke]; exact hkk⟩)) hke)
      rw [hup _ hkk]
      refine Int.le_trans h1 ?_
      have hlen : (offerE n E key z).length = E.length := by rw [offerE_length, if_pos (findE_mem.1 ⟨o, hoE, hok⟩)]
      by_cases hl : E.length = n
      · have hl' : (offerE n E key z).length = n := by omega
        have e2 : leastOf n (offerE n E key z) = nAt (offerE n E key z) (n - 1) := by unfold leastOf; rw [if_pos hl']
        rw [e2]
        have hg : (offerE n E key z)[n - 1]? = some ((offerE n E key z).getD (n - 1) default) := by rw [List.getD_eq_getElem?_getD, List.getElem?_eq_getElem (by omega)]; rfl
        have hmem := List.mem_of_getElem? hg
        rcases (hm _).1 hmem with ⟨h3, _⟩ | h3
        · exact ho.least_le hn _ h3
        · have := ho.least_le hn o hoE
          show _ ≤ ((offerE n E key z).getD (n - 1) default).n
          rw [h3]; show _ ≤ o.n + z; omega
      · have e1 : leastOf n E = 0 := by unfold leastOf; rw [if_neg hl]
        have e2 : leastOf n (offerE n E key z) = 0 := by unfold leastOf; rw [if_neg (by omega)]
        omega
  · have hno : ∀ o ∈ E, o.key ≠ key := fun o ho hk => hin ⟨o, ho, hk⟩
    have hf : findE E key = none := by
      cases hf : findE E key with
      | none => rfl
      | some k => obtain ⟨o, ho, hk⟩ := findE_get hf; exact absurd hk (hno o (List.mem_of_getElem? ho))
    have hm := mem_offer_none (n := n) hf z
    obtain ⟨⟨m, hsm'⟩, s1, s2, s3, s4⟩ := shed_facts ho hn
    have hsub : ∀ e, e ∈ shed n E → e ∈ E := fun e he => by rw [hsm'] at he; exact List.mem_of_mem_take he
    have hr := h.rest key hno
    have hp := ho.least_part hn
    have hlen : (offerE n E key z).length = (shed n E).length + 1 := by rw [offerE_length, if_neg (by rw [hf]; simp)]
    have hmono : leastOf n E ≤ leastOf n (offerE n E key z) := by
      by_cases hl : (offerE n E key z).length = n
      · have e2 : leastOf n (offerE n E key z) = nAt (offerE n E key z) (n - 1) := by unfold leastOf; rw [if_pos hl]
        rw [e2]
        have hg : (offerE n E key z)[n - 1]? = some ((offerE n E key z).getD (n - 1) default) := by rw [List.getD_eq_getElem?_getD, List.getElem?_eq_getElem (by omega)]; rfl
        rcases (hm _).1 (List.mem_of_getElem? hg) with h3 | h3
        · exact ho.least_le hn _ (hsub _ h3)
        · show _ ≤ ((offerE n E key z).getD (n - 1) default).n
          rw [h3]; show _ ≤ leastOf n E + z; omega
      · have e1 : leastOf n E = 0 := by
          unfold leastOf
          rw [if_neg]
          intro he
          refine hl ?_
          rw [hlen]; unfold shed; rw [if_pos he, List.length_take]; omega
        have e2 : leastOf n (offerE n E key z) = 0 := by unfold leastOf; rw [if_neg hl]
        omega
    refine ⟨fun e he => ?_, fun e he => ?_, fun e he => ?_, fun k hk => ?_, hpos⟩
    · rcases (hm e).1 he with h1 | rfl
      · rw [hup _ (hno e (hsub e h1))]; exact h.up e (hsub e h1)
      · simp only; rw [hsm]; omega
    · rcases (hm e).1 he with h1 | rfl
      · rw [hup _ (hno e (hsub e h1))]; exact h.down e (hsub e h1)
      · simp only; rw [hsm]
        have := h.pos key
        omega
    · rcases (hm e).1 he with h1 | rfl
      · have := h.err e (hsub e h1); omega
      · show leastOf n E * n ≤ _; omega
    · have hkk : k ≠ key := fun e => hk _ ((hm _).2 (.inr rfl)) e.symm
      rw [hup _ hkk]
      by_cases hkE : ∃ e ∈ E, e.key = k
      · obtain ⟨e, he, rfl⟩ := hkE
        have hns : e ∉ shed n E := fun hs => hk e ((hm e).2 (.inl hs)) rfl
        -- it was the last one
        have hful : E.length = n := by
          by_cases hl : E.length = n
          · exact hl
          · exact absurd (by unfold shed; rw [if_neg hl]; exact he) hns
        have hlast : e = E.getD (n - 1) default := by
          obtain ⟨i, hi⟩ := List.getElem?_of_mem he
          have hil := (List.getElem?_eq_some_iff.1 hi).1
          by_cases hin1 : i = n - 1
          · subst hin1; exact (getD_some hi).symm
          · refine absurd ?_ hns
            unfold shed; rw [if_pos hful]
            refine List.mem_of_getElem? (i := i) ?_
            rw [List.getElem?_take_of_lt (by omega)]; exact hi
        have h5 := h.up e he
        have h6 : e.n = leastOf n E := by unfold leastOf; rw [if_pos hful, ← hlast]
        omega
      · have h1 := h.rest k (fun e he hke => hkE ⟨e, he, hke⟩)
        omega
/-- A key to which more than the k-th part was offered is among the first k. -/
theorem BndI.top {n : Nat} {f : List UInt8 → Option Int} {E : List Ent} {t : Int} (h : BndI n f E t) (ho : OkE n E t) (hn : 1 ≤ n) {k : Nat} (hk1 : 1 ≤ k) (hkn : k ≤ n) {key : List UInt8} {z : Int} (hz : f key = some z) (hm : t < z * k) : ∃ e ∈ E.take k, e.key = key := by
  have hlt := ho.lt
  have hzp : 0 < z := by
    by_cases hz0 : 0 < z
    · exact hz0
    · exfalso
      have : z * k ≤ 0 := Int.mul_nonpos_of_nonpos_of_nonneg (by omega) (by omega)
      omega
  by_cases hin : ∃ e ∈ E, e.key = key
  · obtain ⟨e, he, hek⟩ := hin
    obtain ⟨i, hi⟩ := List.getElem?_of_mem he
    have hil := (List.getElem?_eq_some_iff.1 hi).1
    by_cases hik : i < k
    · exact ⟨e, List.mem_of_getElem? (i := i) (by rw [List.getElem?_take_of_lt hik]; exact hi), hek⟩
    · exfalso
      have hu := h.up e he
      rw [hek, hz] at hu
      simp at hu
      -- all up to it have that much
      have hge : ∀ x ∈ (E.take (i + 1)).map (·.n), z ≤ x := fun x hx => by
        obtain ⟨e', he', rfl⟩ := List.mem_map.1 hx
        obtain ⟨j, hj⟩ := List.getElem?_of_mem he'
        have hjl := (List.getElem?_eq_some_iff.1 hj).1
        rw [List.length_take] at hjl
        rw [List.getElem?_take_of_lt (by omega)] at hj
        have q1 : nAt E i = e.n := by show (E.getD i default).n = _; rw [getD_some hi]
        have q2 : nAt E j = e'.n := by show (E.getD j default).n = _; rw [getD_some hj]
        by_cases hji : j = i
        · subst hji; omega
        · have := ho.fall j i (by omega) hil; omega
      have h1 := sum_ge hge
      rw [List.length_map, List.length_take, Nat.min_eq_left (by omega)] at h1
      have h2 : ((E.take (i + 1)).map (·.n)).sum ≤ (E.map (·.n)).sum := by
        conv => rhs; rw [← List.take_append_drop (i + 1) E, List.map_append, List.sum_append]
        have := (sum_nonneg (l := (E.drop (i + 1)).map (·.n)) (fun x hx => by
          obtain ⟨e', he', rfl⟩ := List.mem_map.1 hx
          exact (ho.each e' (List.mem_of_mem_drop he')).1)).1
        omega
      have hs := ho.sum
      unfold sumN at hs
      have h3 : z * k ≤ z * (i + 1 : Nat) := Int.mul_le_mul_of_nonneg_left (by omega) (by omega)
      omega
  · exfalso
    have hr := h.rest key (fun e he hke => hin ⟨e, he, hke⟩)
    rw [hz] at hr
    simp at hr
    have hp := ho.least_part hn
    have h3 : z * k ≤ z * n := Int.mul_le_mul_of_nonneg_left (by omega) (by omega)
    have h4 : z * n ≤ leastOf n E * n := Int.mul_le_mul_of_nonneg_right hr (by omega)
    omega
theorem OkE.least_le_t {n : Nat} {E : List Ent} {t : Int} (h : OkE n E t) (hn : 1 ≤ n) : 0 ≤ leastOf n E ∧ leastOf n E ≤ t := by
  have ht := h.lt
  unfold leastOf
  split
  · rename_i hl
    have hg : E[n - 1]? = some (E.getD (n - 1) default) := by rw [List.getD_eq_getElem?_getD, List.getElem?_eq_getElem (by omega)]; rfl
    exact h.each _ (List.mem_of_getElem? hg)
  · omega
theorem BndI.le {n : Nat} {f : List UInt8 → Option Int} {E : List Ent} {t : Int} (h : BndI n f E t) (ho : OkE n E t) (hn : 1 ≤ n) {key : List UInt8} {z : Int} (hz : f key = some z) : 0 ≤ z ∧ z ≤ t := by
  have h0 := h.pos key
  rw [hz] at h0
  refine ⟨h0, ?_⟩
  by_cases hin : ∃ e ∈ E, e.key = key
  · obtain ⟨e, he, hek⟩ := hin
    have h1 := h.up e he
    rw [hek, hz] at h1
    exact Int.le_trans h1 (ho.each e he).2
  · have h1 := h.rest key (fun e he hk => hin ⟨e, he, hk⟩)
    rw [hz] at h1
    exact Int.le_trans h1 (ho.least_le_t hn).2
end Go.Proofs.Ytpobjhmfidebbaa.Sum
