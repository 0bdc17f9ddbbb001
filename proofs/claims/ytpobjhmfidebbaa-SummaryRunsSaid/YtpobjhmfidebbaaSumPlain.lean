/- The document's summary as a plain function: what holds through all offers. -/
import Derived.Test.YtpobjhmfidebbaaSumFit
namespace Go.Proofs.Ytpobjhmfidebbaa.Sum
open Go Go.RowKit Go.YtpobjhmfidebbaaMem
set_option linter.unusedVariables false
set_option linter.unusedSimpArgs false

abbrev nAt (E : List Ent) (i : Nat) : Int := (E.getD i default).n
def Falling (E : List Ent) : Prop := ∀ i j, i < j → j < E.length → nAt E j ≤ nAt E i
def sumN (E : List Ent) : Int := (E.map (·.n)).sum
theorem getD_some {E : List Ent} {i : Nat} {e : Ent} (h : E[i]? = some e) : E.getD i default = e := by rw [List.getD_eq_getElem?_getD, h]; rfl
theorem more_at {E : List Ent} {k : Nat} (hk : k < E.length) (z : Int) (j : Nat) : (more E k z).getD j default = if j = k then { E.getD k default with n := nAt E k + z } else E.getD j default := by
  unfold more
  by_cases h : j = k
  · subst h
    rw [if_pos rfl, List.getD_eq_getElem?_getD, List.getElem?_set_self hk]; rfl
  · rw [if_neg h, List.getD_eq_getElem?_getD, List.getElem?_set_ne (fun e => h e.symm), ← List.getD_eq_getElem?_getD]
theorem move_at' {F : List Ent} {k a : Nat} (hk : k < F.length) (ha : a ≤ k) (j : Nat) : (move k a F).getD j default = if j < a then F.getD j default else if j = a then F.getD k default else if j ≤ k then F.getD (j - 1) default else F.getD j default := by
  rw [List.getD_eq_getElem?_getD, move_get hk ha]
  split
  · rw [← List.getD_eq_getElem?_getD]
  · split
    · rw [← List.getD_eq_getElem?_getD]
    · split <;> rw [← List.getD_eq_getElem?_getD]
theorem bump_perm {E : List Ent} {k : Nat} (hk : k < E.length) (z : Int) : (bumpAt E k z).Perm (more E k z) := by
  unfold bumpAt
  exact move_perm (by rw [more_length]; exact hk) (riseTo_le _ _ _)
theorem bump_length {E : List Ent} {k : Nat} (hk : k < E.length) (z : Int) : (bumpAt E k z).length = E.length := by rw [(bump_perm hk z).length_eq, more_length]
theorem more_keys {E : List Ent} {k : Nat} (hk : k < E.length) (z : Int) : (more E k z).map (·.key) = E.map (·.key) := by
  unfold more
  rw [List.map_set]
  apply List.ext_getElem?
  intro i
  by_cases h : k = i
  · subst h
    rw [List.getElem?_set_self (by simpa using hk), List.getElem?_map, List.getElem?_eq_getElem hk, List.getD_eq_getElem?_getD, List.getElem?_eq_getElem hk]; rfl
  · rw [List.getElem?_set_ne h]
theorem sum_set (l : List Int) (k : Nat) (hk : k < l.length) (z : Int) : (l.set k (l.getD k 0 + z)).sum = l.sum + z := by
  induction l generalizing k with
  | nil => simp at hk
  | cons x l ih =>
    cases k with
    | zero => simp; omega
    | succ k =>
      have := ih k (by simpa using hk)
      simp only [List.set_cons_succ, List.sum_cons, List.getD_cons_succ] at *
      omega
theorem more_sum {E : List Ent} {k : Nat} (hk : k < E.length) (z : Int) : sumN (more E k z) = sumN E + z := by
  unfold sumN more
  rw [List.map_set]
  have := sum_set (E.map (·.n)) k (by simpa using hk) z
  rw [← this]
  have e : (E.map (·.n)).getD k 0 = nAt E k := by
    show (E.map (·.n)).getD k 0 = (E.getD k default).n
    rw [List.getD_eq_getElem?_getD, List.getElem?_map, List.getD_eq_getElem?_getD, List.getElem?_eq_getElem hk]; rfl
  rw [e]
theorem perm_sum {l m : List Int} (h : l.Perm m) : l.sum = m.sum := by
  induction h with
  | nil => rfl
  | cons x _ ih => simp [ih]
  | swap x y l => simp; omega
  | trans _ _ ih1 ih2 => rw [ih1, ih2]
theorem sumN_perm {E F : List Ent} (h : E.Perm F) : sumN E = sumN F := perm_sum (h.map (·.n))
theorem bump_sum {E : List Ent} {k : Nat} (hk : k < E.length) (z : Int) : sumN (bumpAt E k z) = sumN E + z := by rw [sumN_perm (bump_perm hk z), more_sum hk]
theorem bump_mem {E : List Ent} {k : Nat} (hk : k < E.length) (z : Int) {e : Ent} (he : e ∈ bumpAt E k z) : e = { E.getD k default with n := nAt E k + z } ∨ ∃ j, j ≠ k ∧ E[j]? = some e := by
  have := (bump_perm hk z).mem_iff.1 he
  obtain ⟨j, hj⟩ := List.getElem?_of_mem this
  by_cases h : j = k
  · subst h
    left
    have h1 := getD_some hj
    rw [more_at hk, if_pos rfl] at h1
    exact h1.symm
  · right
    refine ⟨j, h, ?_⟩
    unfold more at hj
    rwa [List.getElem?_set_ne (fun e => h e.symm)] at hj
theorem bump_fall {E : List Ent} {k : Nat} (hk : k < E.length) {z : Int} (hz : 0 < z) (h : Falling E) : Falling (bumpAt E k z) := by
  have hkF : k < (more E k z).length := by rw [more_length]; exact hk
  unfold bumpAt
  obtain ⟨a, ha⟩ : ∃ a, riseTo (more E k z) (nAt E k + z) k = a := ⟨_, rfl⟩
  have hle := riseTo_le (more E k z) (nAt E k + z) k
  have hge := riseTo_ge (more E k z) (nAt E k + z) k
  have hlt := riseTo_lt (more E k z) (nAt E k + z) k
  rw [ha] at hle hge hlt ⊢
  have hn : ∀ j, nAt (more E k z) j = if j = k then nAt E k + z else nAt E j := fun j => by
    show ((more E k z).getD j default).n = _
    rw [more_at hk]; split <;> rfl
  have hm : ∀ j, nAt (move k a (more E k z)) j = if j < a then nAt (more E k z) j else if j = a then nAt (more E k z) k else if j ≤ k then nAt (more E k z) (j - 1) else nAt (more E k z) j := fun j => by
    show ((move k a (more E k z)).getD j default).n = _
    rw [move_at' hkF hle]
    split
    · rfl
    · split
      · rfl
      · split <;> rfl
  have h1 : ∀ i, i < a → nAt E k + z ≤ nAt E i := fun i hi => by
    rcases hge with h0 | ⟨b, hb, hnb⟩
    · omega
    · have q : nAt (more E k z) b = nAt E b := by rw [hn, if_neg (by omega)]
      have q' : ¬ nAt (more E k z) b < nAt E k + z := hnb
      rw [q] at q'
      rcases Nat.lt_or_ge i b with hib | hib
      · have := h i b hib (by omega); omega
      · obtain rfl : i = b := by omega
        omega
  have h2 : ∀ j, a ≤ j → j < k → nAt E j < nAt E k + z := fun j q1 q2 => by
    have q : nAt (more E k z) j < nAt E k + z := hlt j q1 q2
    rwa [hn, if_neg (by omega)] at q
  intro i j hij hj
  rw [move_length hkF hle, more_length] at hj
  rw [hm, hm]
  by_cases c1 : j < a
  · rw [if_pos c1, if_pos (by omega), hn, hn, if_neg (by omega), if_neg (by omega)]
    exact h i j hij hj
  · rw [if_neg c1]
    by_cases c2 : j = a
    · rw [if_pos c2, if_pos (by omega), hn, hn, if_pos rfl, if_neg (by omega)]
      exact h1 i (by omega)
    · rw [if_neg c2]
      by_cases c3 : j ≤ k
      · rw [if_pos c3, hn (j - 1), if_neg (by omega)]
        by_cases d1 : i < a
        · rw [if_pos d1, hn, if_neg (by omega)]
          exact h i (j - 1) (by omega) (by omega)
        · rw [if_neg d1]
          by_cases d2 : i = a
          · rw [if_pos d2, hn, if_pos rfl]
            have := h2 (j - 1) (by omega) (by omega); omega
          · rw [if_neg d2, if_pos (by omega), hn, if_neg (by omega)]
            exact h (i - 1) (j - 1) (by omega) (by omega)
      · rw [if_neg c3, hn j, if_neg (by omega)]
        have hkj := h k j (by omega) hj
        by_cases d1 : i < a
        · rw [if_pos d1, hn, if_neg (by omega)]
          exact h i j hij hj
        · rw [if_neg d1]
          by_cases d2 : i = a
          · rw [if_pos d2, hn, if_pos rfl]; omega
          · rw [if_neg d2]
            by_cases d3 : i ≤ k
            · rw [if_pos d3, hn, if_neg (by omega)]
              exact h (i - 1) j (by omega) hj
            · rw [if_neg d3, hn, if_neg (by omega)]
              exact h i j hij hj
/-- What holds of a summary of n keys. -/
structure OkE (n : Nat) (E : List Ent) (t : Int) : Prop where
  len : E.length ≤ n
  nd : (E.map (·.key)).Nodup
  sum : sumN E = t
  pos : ∀ e ∈ E, 0 ≤ e.err ∧ e.err < e.n
  k64 : ∀ e ∈ E, e.key.length ≤ 64
  lt : 0 ≤ t ∧ t < 4611686018427387904
  fall : Falling E
theorem sum_nonneg {l : List Int} (h : ∀ x ∈ l, 0 ≤ x) : 0 ≤ l.sum ∧ ∀ x ∈ l, x ≤ l.sum := by
  induction l with
  | nil => simp
  | cons y l ih =>
    obtain ⟨h1, h2⟩ := ih (fun x hx => h x (by simp [hx]))
    have hy := h y (by simp)
    rw [List.sum_cons]
    refine ⟨by omega, fun x hx => ?_⟩
    rcases List.mem_cons.1 hx with rfl | hx
    · omega
    · have := h2 x hx; omega
theorem OkE.each {n : Nat} {E : List Ent} {t : Int} (h : OkE n E t) : ∀ e ∈ E, 0 ≤ e.n ∧ e.n ≤ t := fun e he => by
  have hp : ∀ x ∈ E.map (·.n), 0 ≤ x := fun x hx => by
    obtain ⟨e', he', rfl⟩ := List.mem_map.1 hx
    have := h.pos e' he'
    omega
  obtain ⟨h1, h2⟩ := sum_nonneg hp
  have := h2 e.n (List.mem_map.2 ⟨e, he, rfl⟩)
  have hs := h.sum
  unfold sumN at hs
  rw [hs] at this
  exact ⟨hp e.n (List.mem_map.2 ⟨e, he, rfl⟩), this⟩
theorem ok_nil (n : Nat) : OkE n [] 0 := ⟨by simp, by simp, rfl, by simp, by simp, by omega, fun i j _ hj => by simp at hj⟩
/-- One is given more: all holds on, but for the sum. -/
theorem ok_bump {n : Nat} {E : List Ent} {t : Int} {k : Nat} {z : Int} (hk : k < E.length) (hz : 0 < z) (hl : E.length ≤ n) (hnd : (E.map (·.key)).Nodup) (hs : sumN E + z = t) (hp : ∀ e ∈ E, 0 ≤ e.err ∧ e.err ≤ e.n) (hp2 : ∀ j e, j ≠ k → E[j]? = some e → e.err < e.n) (h64 : ∀ e ∈ E, e.key.length ≤ 64) (ht : 0 ≤ t ∧ t < 4611686018427387904) (hf : Falling E) : OkE n (bumpAt E k z) t := by
  have hget : E[k]? = some (E.getD k default) := by rw [List.getD_eq_getElem?_getD, List.getElem?_eq_getElem hk]; rfl
  have hmk := List.mem_of_getElem? hget
  refine ⟨by rw [bump_length hk]; exact hl, ?_, by rw [bump_sum hk]; exact hs, fun e he => ?_, fun e he => ?_, ht, bump_fall hk hz hf⟩
  · rw [((bump_perm hk z).map (·.key)).nodup_iff, more_keys hk]; exact hnd
  · rcases bump_mem hk z he with rfl | ⟨j, hj, hje⟩
    · have := hp _ hmk
      show 0 ≤ (E.getD k default).err ∧ (E.getD k default).err < (E.getD k default).n + z
      omega
    · exact ⟨(hp e (List.mem_of_getElem? hje)).1, hp2 j e hj hje⟩
  · rcases bump_mem hk z he with rfl | ⟨j, hj, hje⟩
    · exact (h64 _ hmk : (E.getD k default).key.length ≤ 64)
    · exact h64 e (List.mem_of_getElem? hje)
/-- What is left when room is made, and what the last one leaves. -/
theorem shed_facts {n : Nat} {E : List Ent} {t : Int} (h : OkE n E t) (hn : 1 ≤ n) : (∃ m, shed n E = E.take m) ∧ (shed n E).length < n ∧ sumN (shed n E) + leastOf n E = t ∧ 0 ≤ leastOf n E ∧ ∀ i, i < (shed n E).length → leastOf n E ≤ nAt E i := by
  have hlen := h.len
  unfold shed leastOf
  by_cases hf : E.length = n
  · rw [if_pos hf, if_pos hf]
    have hl : n - 1 < E.length := by omega
    have hg : E[n - 1]? = some (E.getD (n - 1) default) := by rw [List.getD_eq_getElem?_getD, List.getElem?_eq_getElem hl]; rfl
    refine ⟨⟨n - 1, rfl⟩, by rw [List.length_take]; omega, ?_, (h.each _ (List.mem_of_getElem? hg)).1, fun i hi => ?_⟩
    · rw [← h.sum]
      have : E = E.take (n - 1) ++ [E.getD (n - 1) default] := by
        have h1 := take_snoc hg
        rw [show n - 1 + 1 = E.length by omega, List.take_length] at h1
        exact h1
      conv => rhs; rw [this]
      unfold sumN
      rw [List.map_append, List.sum_append]; simp
    · rw [List.length_take] at hi
      exact h.fall i (n - 1) (by omega) hl
  · rw [if_neg hf, if_neg hf]
    refine ⟨⟨E.length, by rw [List.take_length]⟩, by omega, by have := h.sum; omega, by omega, fun i hi => ?_⟩
    have hg : E[i]? = some (E.getD i default) := by rw [List.getD_eq_getElem?_getD, List.getElem?_eq_getElem hi]; rfl
    exact (h.each _ (List.mem_of_getElem? hg)).1
theorem ok_offerE {n : Nat} {E : List Ent} {t : Int} (h : OkE n E t) (hn : 1 ≤ n) {key : List UInt8} (hk : key.length ≤ 64) {z : Int} (hz : 0 < z) (ht : t + z < 4611686018427387904) : OkE n (offerE n E key z) (t + z) := by
  unfold offerE
  have h0 := h.lt
  cases hf : findE E key with
  | some k =>
    obtain ⟨e, he, _⟩ := findE_get hf
    exact ok_bump (List.getElem?_eq_some_iff.1 he).1 hz h.len h.nd (by rw [h.sum]) (fun e he => by have := h.pos e he; omega) (fun j e _ he => (h.pos e (List.mem_of_getElem? he)).2) h.k64 (by omega) h.fall
  | none =>
    obtain ⟨⟨m, hm⟩, s1, s2, s3, s4⟩ := shed_facts h hn
    have hno := findE_no hf
    have hsub : ∀ e, e ∈ shed n E → e ∈ E := fun e he => by rw [hm] at he; exact List.mem_of_mem_take he
    simp only
    refine ok_bump (by simp) hz (by simp; omega) ?_ ?_ (fun e he => ?_) (fun j e hj he => ?_) (fun e he => ?_) (by omega) (fun i j hij hj => ?_)
    · rw [List.map_append, List.nodup_append]
      refine ⟨?_, by simp, fun a ha b hb => ?_⟩
      · rw [hm, List.map_take]; exact h.nd.take
      · obtain ⟨e, he, rfl⟩ := List.mem_map.1 ha
        simp at hb; subst hb
        exact hno e (hsub e he)
    · have : sumN (shed n E ++ [⟨key, leastOf n E, leastOf n E⟩]) = sumN (shed n E) + leastOf n E := by unfold sumN; rw [List.map_append, List.sum_append]; simp
      rw [this, s2]
    · rcases List.mem_append.1 he with he | he
      · have := h.pos e (hsub e he); omega
      · simp at he; subst he; exact ⟨s3, Int.le_refl _⟩
    · have hjl : j < (shed n E).length := by
        have := (List.getElem?_eq_some_iff.1 he).1
        simp at this; omega
      rw [List.getElem?_append_left hjl] at he
      exact (h.pos e (hsub e (List.mem_of_getElem? he))).2
    · rcases List.mem_append.1 he with he | he
      · exact h.k64 e (hsub e he)
      · simp at he; subst he; exact hk
    · have hg : ∀ i, i < (shed n E).length → nAt (shed n E ++ [⟨key, leastOf n E, leastOf n E⟩]) i = nAt E i := fun i hi => by
        show ((shed n E ++ _).getD i default).n = (E.getD i default).n
        have him : i < m := by rw [hm, List.length_take] at hi; omega
        rw [List.getD_eq_getElem?_getD, List.getElem?_append_left hi, hm, List.getElem?_take_of_lt him, List.getD_eq_getElem?_getD]
      have hj2 : j < (shed n E).length ∨ j = (shed n E).length := by simp at hj; omega
      rcases hj2 with hj2 | rfl
      · rw [hg j hj2, hg i (by omega)]
        refine h.fall i j hij ?_
        rw [hm, List.length_take] at hj2; omega
      · rw [hg i hij]
        have : nAt (shed n E ++ [⟨key, leastOf n E, leastOf n E⟩]) (shed n E).length = leastOf n E := by
          show ((shed n E ++ _).getD (shed n E).length default).n = _
          rw [List.getD_eq_getElem?_getD, List.getElem?_append_right (Nat.le_refl _), Nat.sub_self]; rfl
        rw [this]; exact s4 i hij
theorem ok_offer {n : Nat} {s : List Ent × Int} (h : OkE n s.1 s.2) (hn : 1 ≤ n) (key : List UInt8) (z : Int) : OkE n (offer n s key z).1 (offer n s key z).2 := by
  unfold offer
  by_cases hg : z < 1 ∨ 4611686018427387904 ≤ z ∨ 64 < key.length
  · rw [if_pos hg]; exact h
  · rw [if_neg hg]
    by_cases hc : 4611686018427387904 - z ≤ s.2
    · rw [if_pos hc]
      have := ok_offerE (ok_nil n) hn (key := key) (by omega) (z := z) (by omega) (by omega)
      simpa using this
    · rw [if_neg hc]
      exact ok_offerE h hn (by omega) (by omega) (by omega)
/-- Offer, of a summary that is as it should be. -/
def OfferOk (B : SB) (n : Nat) (s : List Ent × Int) (w : World) (e : Ending) (w' : World) : Prop := (∃ v, e = .returned v) ∧ SumAt w' B n s.1 s.2 ∧ OkE n s.1 s.2 ∧ Mod B.all w w'
theorem offer_ok {w : World} {B : SB} {n : Nat} {s : List Ent × Int} (h : SumAt w B n s.1 s.2) (ho : OkE n s.1 s.2) (hn : 1 ≤ n) (key : List UInt8) (hl : key.length ≤ 1000000) (z : Int) (hz : -9223372036854775808 ≤ z ∧ z ≤ 9223372036854775807) :
    Calls Try.prog 15 #[.pointer (some ⟨B.p, 0, none⟩), .string ⟨key.toArray⟩, .int .i64 z] w (OfferOk B n (offer n s key z) w) :=
  (offer_any h hn ho.len ho.each ho.lt key hl z hz).mono fun e w' ⟨h1, h2, h3⟩ => ⟨h1, h2, ok_offer ho hn key z, h3⟩
end Go.Proofs.Ytpobjhmfidebbaa.Sum
