/- A region that draws its order whose first operations make memory, each for itself: every order of these serves, shown once for each operation. Over any program. -/
import Derived.Test.YtpobjhmfidebbaaMem
import Derived.Test.YtpobjhmfidebbaaLex
namespace Go.YtpobjhmfidebbaaLex
set_option linter.unusedVariables false
set_option linter.unusedSimpArgs false
open Go Go.YtpobjhmfidebbaaMem

def putAll (V : Nat → Value) : Nat → List Oper → Act → Act
  | _, [], a => a
  | k, o :: l, a => putAll V (k + 1) l (a.put o.dst (V k))
/-- The k-th waits for the j-th. -/
def direct (l : List Oper) (k j : Nat) : Bool := match l[k]? with | some o => o.after.toList.any (fun e => Region.binds .any e && e.on == j) | none => false
/-- .. at first hand, or through others. -/
def seesB : Nat → List Oper → Nat → Nat → Bool
  | 0, l, k, j => direct l k j
  | f + 1, l, k, j => direct l k j || (List.range k).any fun d => direct l k d && seesB f l d j
inductive Sees (l : List Oper) : Nat → Nat → Prop
  | one {k j : Nat} : direct l k j = true → Sees l k j
  | more {k d j : Nat} : direct l k d = true → Sees l d j → Sees l k j
theorem sees_of {l : List Oper} : ∀ (f k j : Nat), seesB f l k j = true → Sees l k j
  | 0, k, j, h => .one h
  | f + 1, k, j, h => by
    unfold seesB at h
    rcases Bool.or_eq_true _ _ ▸ h with q | q
    · exact .one q
    · obtain ⟨d, hd, hq⟩ := List.any_eq_true.1 q
      rw [Bool.and_eq_true] at hq
      exact .more hq.1 (sees_of f d j hq.2)
/-- The first m are unguarded and have slots of their own, below N; edges go back; the m-th waits for all ahead of it, each later one for the one ahead. -/
def makersB (m N : Nat) (l : List Oper) : Bool :=
  decide (m < l.length) && ((l.take m).all fun o => o.guard.isNone && (match o.dst with | some x => decide (x < N) | none => false)) && decide ((l.take m).map (·.dst)).Nodup &&
  ((List.range l.length).all fun j => match l[j]? with | some o => o.after.toList.all (fun e => !Region.binds .any e || decide (e.on < j)) | none => true) &&
  ((List.range m).all fun j => seesB 12 l m j) &&
  ((List.range l.length).all fun k => decide (k ≤ m) || direct l k (k - 1))
structure Makers (m N : Nat) (l : List Oper) : Prop where
  lt : m < l.length
  plain : ∀ (k : Nat) (o : Oper), k < m → l[k]? = some o → o.guard = none ∧ ∃ x, o.dst = some x ∧ x < N
  apart : ∀ (j k : Nat) (p o : Oper), j < m → k < m → j ≠ k → l[j]? = some p → l[k]? = some o → p.dst ≠ o.dst
  back : ∀ (j : Nat) (o : Oper), l[j]? = some o → ∀ e ∈ o.after, Region.binds .any e = true → e.on < j
  sees : ∀ j, j < m → Sees l m j
  chain : ∀ k, m < k → k < l.length → direct l k (k - 1) = true
theorem makers_of {m N : Nat} {l : List Oper} (h : makersB m N l = true) : Makers m N l := by
  unfold makersB at h
  simp only [Bool.and_eq_true, decide_eq_true_eq] at h
  obtain ⟨⟨⟨⟨⟨h1, h2⟩, h3⟩, h4⟩, h5⟩, h6⟩ := h
  refine ⟨h1, fun k o hk ho => ?_, fun j k p o hj hk hne hp ho he => ?_, fun j o ho e he hb => ?_, fun j hj => ?_, fun k hk hl => ?_⟩
  · have hm : o ∈ l.take m := List.mem_of_getElem? (i := k) (by rw [List.getElem?_take_of_lt hk]; exact ho)
    have := List.all_eq_true.1 h2 o hm
    simp only [Bool.and_eq_true, Option.isNone_iff_eq_none] at this
    refine ⟨this.1, ?_⟩
    cases hd : o.dst with
    | none => rw [hd] at this; simp at this
    | some x => rw [hd] at this; exact ⟨x, rfl, by simpa using this.2⟩
  · have hlen : ((l.take m).map (·.dst)).length = m := by rw [List.length_map, List.length_take]; omega
    have e1 : ((l.take m).map (·.dst))[j]? = some p.dst := by rw [List.getElem?_map, List.getElem?_take_of_lt hj, hp]; rfl
    have e2 : ((l.take m).map (·.dst))[k]? = some o.dst := by rw [List.getElem?_map, List.getElem?_take_of_lt hk, ho]; rfl
    rw [← he] at e2
    exact hne ((List.getElem?_inj (by omega) h3).1 (e1.trans e2.symm))
  · have hj : j < l.length := (List.getElem?_eq_some_iff.1 ho).1
    have := List.all_eq_true.1 h4 j (List.mem_range.2 hj)
    simp only [ho] at this
    have := List.all_eq_true.1 this e (Array.mem_toList_iff.2 he)
    simpa [hb] using this
  · exact sees_of 12 m j (List.all_eq_true.1 h5 j (List.mem_range.2 hj))
  · have := List.all_eq_true.1 h6 k (List.mem_range.2 hl)
    rcases Bool.or_eq_true _ _ ▸ this with q | q
    · have := of_decide_eq_true q; omega
    · exact q
theorem direct_some {l : List Oper} {k j : Nat} (h : direct l k j = true) : ∃ o e, l[k]? = some o ∧ e ∈ o.after ∧ Region.binds .any e = true ∧ e.on = j := by
  unfold direct at h
  cases ho : l[k]? with
  | none => rw [ho] at h; simp at h
  | some o =>
    rw [ho] at h
    obtain ⟨e, he, hb⟩ := List.any_eq_true.1 h
    rw [Bool.and_eq_true, beq_iff_eq] at hb
    exact ⟨o, e, rfl, Array.mem_toList_iff.1 he, hb.1, hb.2⟩

theorem sees_listed {l : List Oper} {listed : Array Bool} (hcl : ∀ (k : Nat) (o : Oper), l[k]? = some o → listed.getD k false = true → ∀ e ∈ o.after, Region.binds .any e = true → listed.getD e.on false = true) {k j : Nat} (h : Sees l k j) :
    (∀ d, direct l k d = true → listed.getD d false = true) → listed.getD j false = true := by
  induction h with
  | one h => exact fun hd => hd _ h
  | more h _ ih =>
    refine fun hd => ih fun d hd' => ?_
    obtain ⟨o', e, ho', he, hb, hon⟩ := direct_some hd'
    rw [← hon]
    exact hcl _ o' ho' (hd _ h) e he hb
section
variable {P : Program} {Q : Exit → Act → World → Prop}

/-- What the listed ones of the first m have made. -/
structure Made (R : Nat → Value → List Nat → World → Prop) (l : List Oper) (m : Nat) (a0 : Act) (w0 : World) (V : Nat → Value) (Bs : Nat → List Nat) (listed : Array Bool) (a : Act) (w : World) : Prop where
  dfr : a.defers = a0.defers
  size : a.tmps.size = a0.tmps.size
  grow : Mod [] w0 w
  old : ∀ x, (∀ (k : Nat) (o : Oper), k < m → l[k]? = some o → listed.getD k false = true → o.dst ≠ some x) → a.tmps[x]? = a0.tmps[x]?
  val : ∀ (k : Nat) (o : Oper) x, k < m → l[k]? = some o → listed.getD k false = true → o.dst = some x → a.tmps[x]? = some (V k) ∧ R k (V k) (Bs k) w
  apart : ∀ (j k b : Nat), j < m → k < m → j ≠ k → listed.getD j false = true → listed.getD k false = true → b ∈ Bs j → b ∉ Bs k
  fresh : ∀ (k b : Nat), k < m → listed.getD k false = true → b ∈ Bs k → w0.heap.size ≤ b ∧ b < w.heap.size
  closed : ∀ (k : Nat) (o : Oper), l[k]? = some o → listed.getD k false = true → ∀ e ∈ o.after, Region.binds .any e = true → listed.getD e.on false = true

theorem getD_set {listed : Array Bool} {i k : Nat} (hi : i < listed.size) : (listed.setIfInBounds i true).getD k false = if k = i then true else listed.getD k false := by
  by_cases h : k = i
  · subst h; simp [Array.getD, hi]
  · rw [if_neg h]
    simp only [Array.getD_eq_getD_getElem?]
    rw [Array.getElem?_setIfInBounds_ne (fun e => h e.symm)]
theorem getD_true {listed : Array Bool} {j : Nat} (h : listed.getD j true = false) : j < listed.size ∧ listed.getD j false = false := by
  simp only [Array.getD_eq_getD_getElem?] at *
  cases hj : listed[j]? with
  | none => rw [hj] at h; simp at h
  | some b => rw [hj] at h; simp at h; subst h; exact ⟨(Array.getElem?_eq_some_iff.1 hj).1, by simp⟩

/-- The tail, one behind the other. -/
theorem any_tail {l : List Oper} {m N : Nat} (hM : Makers m N l) : ∀ (c k : Nat) (listed : Array Bool) (a : Act) (w : World), l.length = k + c → m ≤ k → listed.size = l.length → (∀ j, j < l.length → listed.getD j false = decide (j < k)) →
    wpList P l.toArray Q (l.drop k) a w → wpAny P .any l.toArray Q c listed a w
  | 0, k, listed, a, w, hc, hmk, hs, hl, h => by
    rw [List.drop_eq_nil_of_le (by omega)] at h
    refine ⟨List.eq_nil_iff_forall_not_mem.2 fun j hj => ?_, h⟩
    obtain ⟨hun, _⟩ := mem_ready.1 hj
    obtain ⟨h1, h2⟩ := getD_true hun
    rw [hl j (by omega)] at h2
    simp at h2; omega
  | c + 1, k, listed, a, w, hc, hmk, hs, hl, h => by
    have hk : k < l.length := by omega
    have hready : ∀ j, j ∈ Region.ready .any l.toArray listed → j = k := fun j hj => by
      obtain ⟨hun, o, ho, hall⟩ := mem_ready.1 hj
      obtain ⟨h1, h2⟩ := getD_true hun
      rw [hl j (by omega)] at h2
      have hkj : k ≤ j := by simpa using h2
      rcases Nat.lt_or_ge k j with hlt | hge
      · obtain ⟨o', e, ho', he, hb, hon⟩ := direct_some (hM.chain j (by omega) (by omega))
        rw [List.getElem?_toArray, ho'] at ho
        obtain rfl : o' = o := by simpa using ho
        have := hall e he hb
        rw [hon, hl _ (by omega)] at this
        simp at this; omega
      · omega
    refine ⟨fun hnil => ?_, fun i hi => ?_⟩
    · exfalso
      have : k ∈ Region.ready .any l.toArray listed := by
        refine mem_ready.2 ⟨?_, l[k], by simp [hk], fun e he hb => ?_⟩
        · have := hl k hk
          simp only [Array.getD_eq_getD_getElem?] at this ⊢
          rw [Array.getElem?_eq_getElem (by omega)] at this ⊢
          simpa using this
        · have := hM.back k l[k] (by simp [hk]) e he hb
          rw [hl _ (by omega)]; simpa using this
      rw [hnil] at this; cases this
    · obtain rfl := hready i hi
      rw [List.drop_eq_getElem_cons hk] at h
      have h' : wpOp P l.toArray Q i (wpList P l.toArray Q (l.drop (i + 1))) a w := by
        unfold wpOp; simp only [List.getElem?_toArray, List.getElem?_eq_getElem hk]; exact h
      refine wpOp_mono (fun a' w' h2 => any_tail hM c (i + 1) _ a' w' (by omega) (by omega) (by simp [hs]) (fun j hj => ?_) h2) h'
      rw [getD_set (by omega), hl j hj]
      by_cases hji : j = i
      · subst hji; simp
      · rw [if_neg hji]; simp; omega

theorem putAll_get {V : Nat → Value} : ∀ (l : List Oper) (k : Nat) (a : Act) (x : Nat), (∀ (j : Nat) (o : Oper), l[j]? = some o → o.dst ≠ some x) → (putAll V k l a).tmps[x]? = a.tmps[x]?
  | [], _, _, _, _ => rfl
  | o :: l, k, a, x, h => by
    simp only [putAll]
    rw [putAll_get l (k + 1) _ x (fun j p hp => h (j + 1) p (by simpa using hp))]
    have h0 := h 0 o rfl
    cases hd : o.dst with
    | none => rfl
    | some d => rw [hd] at h0; simp [Act.put, Array.getElem?_setIfInBounds_ne (fun e => h0 (by rw [e]) : d ≠ x)]
theorem putAll_size {V : Nat → Value} : ∀ (l : List Oper) (k : Nat) (a : Act), (putAll V k l a).tmps.size = a.tmps.size ∧ (putAll V k l a).defers = a.defers
  | [], _, _ => ⟨rfl, rfl⟩
  | o :: l, k, a => by
    obtain ⟨h1, h2⟩ := putAll_size (V := V) l (k + 1) (a.put o.dst (V k))
    simp only [putAll]
    rw [h1, h2]
    cases o.dst <;> simp [Act.put]
theorem putAll_val {V : Nat → Value} : ∀ (l : List Oper) (k : Nat) (a : Act) (j : Nat) (o : Oper) (x : Nat), l[j]? = some o → o.dst = some x → x < a.tmps.size → (∀ (i : Nat) (p : Oper), i ≠ j → l[i]? = some p → p.dst ≠ some x) →
    (putAll V k l a).tmps[x]? = some (V (k + j))
  | [], _, _, _, _, _, h, _, _, _ => by simp at h
  | o :: l, k, a, 0, o', x, h, hd, hx, hn => by
    obtain rfl : o = o' := by simpa using h
    simp only [putAll]
    rw [putAll_get l (k + 1) _ x (fun j p hp => hn (j + 1) p (by omega) (by simpa using hp)), hd]
    simp [Act.put, hx]
  | o :: l, k, a, j + 1, o', x, h, hd, hx, hn => by
    simp only [putAll]
    have := putAll_val (V := V) l (k + 1) (a.put o.dst (V k)) j o' x (by simpa using h) hd (by cases o.dst <;> simpa [Act.put] using hx) (fun i p hi hp => hn (i + 1) p (by omega) (by simpa using hp))
    rw [this]; congr 2; omega

theorem any_makers {l : List Oper} {m N : Nat} {a0 : Act} {w0 : World} (hM : Makers m N l) (hN : a0.tmps.size = N) (R : Nat → Value → List Nat → World → Prop)
    (hR : ∀ k v bs w w', R k v bs w → Mod [] w w' → R k v bs w')
    (hstep : ∀ (k : Nat) (o : Oper) (a : Act) (w : World), k < m → l[k]? = some o → Mod [] w0 w →
      (∀ x, (∀ (j : Nat) (p : Oper), j < m → l[j]? = some p → p.dst ≠ some x) → a.tmps[x]? = a0.tmps[x]?) →
      (∀ (j : Nat) (p : Oper) x, j < m → l[j]? = some p → p.dst = some x → direct l k j = true → ∃ v bs, a.tmps[x]? = some v ∧ R j v bs w) →
      ∀ K : Act → World → Prop, (∀ v bs w', R k v bs w' → Mod [] w w' → (∀ b ∈ bs, w.heap.size ≤ b ∧ b < w'.heap.size) → K (a.put o.dst v) w') → o.wp P a w K Q)
    (hdone : ∀ (V : Nat → Value) (Bs : Nat → List Nat) (w : World), Mod [] w0 w → (∀ k, k < m → R k (V k) (Bs k) w ∧ ∀ b ∈ Bs k, w0.heap.size ≤ b ∧ b < w.heap.size) → (∀ j k, j < m → k < m → j ≠ k → ∀ b ∈ Bs j, b ∉ Bs k) →
      wpList P l.toArray Q (l.drop m) (putAll V 0 (l.take m) a0) w) :
    ∀ (c : Nat) (U : List Nat) (V : Nat → Value) (Bs : Nat → List Nat) (listed : Array Bool) (a : Act) (w : World), U.length = c → U.Nodup → listed.size = l.length → (∀ k, k < l.length → (listed.getD k false = false ↔ k ∈ U ∨ m ≤ k)) → (∀ k ∈ U, k < m) →
      Made R l m a0 w0 V Bs listed a w → wpAny P .any l.toArray Q (c + (l.length - m)) listed a w := by
  have hml := hM.lt
  intro c
  induction c with
  | zero =>
    intro U V Bs listed a w hc hnd hs hl hU h
    obtain rfl : U = [] := List.eq_nil_of_length_eq_zero hc
    have hall : ∀ k, k < m → listed.getD k false = true := by
      intro k hk
      cases hq : listed.getD k false with
      | true => rfl
      | false =>
        rcases (hl k (by omega)).1 hq with q | q
        · cases q
        · omega
    rw [Nat.zero_add]
    refine any_tail hM (l.length - m) m listed a w (by omega) (Nat.le_refl _) hs (fun j hj => ?_) ?_
    · by_cases hjm : j < m
      · rw [hall j hjm]; simp [hjm]
      · rw [(hl j hj).2 (.inr (by omega))]; simp; omega
    · have hd := hdone V Bs w h.grow (fun k hk => ⟨?_, fun b hb => h.fresh k b hk (hall k hk) hb⟩) (fun j k hj hk hne b hb => h.apart j k b hj hk hne (hall j hj) (hall k hk) hb)
      · have he : putAll V 0 (l.take m) a0 = a := by
          obtain ⟨s1, s2⟩ := putAll_size (V := V) (l.take m) 0 a0
          have : (putAll V 0 (l.take m) a0).tmps = a.tmps := by
            apply Array.ext_getElem?
            intro x
            by_cases hx : ∃ (k : Nat) (o : Oper), k < m ∧ l[k]? = some o ∧ o.dst = some x
            · obtain ⟨k, o, hk, ho, hd⟩ := hx
              rw [(h.val k o x hk ho (hall k hk) hd).1]
              obtain ⟨_, x', hx', hxN⟩ := hM.plain k o hk ho
              rw [hd] at hx'
              obtain rfl : x = x' := by simpa using hx'
              rw [putAll_val (l.take m) 0 a0 k o x (by rw [List.getElem?_take_of_lt hk]; exact ho) hd (by rw [hN]; omega) (fun i p hi hp hpx => ?_), Nat.zero_add]
              have him : i < m := by have := (List.getElem?_eq_some_iff.1 hp).1; rw [List.length_take] at this; omega
              rw [List.getElem?_take_of_lt him] at hp
              exact hM.apart i k p o him hk hi hp ho (by rw [hpx, hd])
            · rw [h.old x (fun k o hk ho _ hd => hx ⟨k, o, hk, ho, hd⟩), putAll_get _ _ _ _ (fun j p hp hpx => ?_)]
              have hjm : j < m := by have := (List.getElem?_eq_some_iff.1 hp).1; rw [List.length_take] at this; omega
              rw [List.getElem?_take_of_lt hjm] at hp
              exact hx ⟨j, p, hjm, hp, hpx⟩
          cases hp : putAll V 0 (l.take m) a0 with
          | mk t d =>
            cases a with
            | mk t' d' =>
              rw [hp] at this s2
              simp only at this s2
              have := h.dfr
              simp only at this
              rename_i q1
              rw [this, ← s2, q1]
        rw [he] at hd; exact hd
      · obtain ⟨o, ho⟩ : ∃ o, l[k]? = some o := ⟨_, List.getElem?_eq_getElem (by omega)⟩
        obtain ⟨_, x, hx, _⟩ := hM.plain k o hk ho
        exact (h.val k o x hk ho (hall k hk) hx).2
  | succ c ih =>
    intro U V Bs listed a w hc hnd hs hl hU h
    rw [Nat.add_right_comm]
    have hun : ∀ k, k ∈ U → listed.getD k false = false := fun k hk => (hl k (by have := hU k hk; omega)).2 (.inl hk)
    refine ⟨fun hnil => ?_, fun i hi => ?_⟩
    · -- the least that is not listed is ready
      exfalso
      have hex : ∃ k, k < l.length ∧ listed.getD k false = false := by
        obtain ⟨k, hk⟩ := List.exists_mem_of_length_pos (show 0 < U.length by omega)
        exact ⟨k, by have := hU k hk; omega, hun k hk⟩
      obtain ⟨k, ⟨hk1, hk2⟩, hmin⟩ : ∃ k, (k < l.length ∧ listed.getD k false = false) ∧ ∀ j, j < k → ¬ (j < l.length ∧ listed.getD j false = false) := by
        have : ∀ n, (∃ k, k < n ∧ k < l.length ∧ listed.getD k false = false) → ∃ k, (k < l.length ∧ listed.getD k false = false) ∧ ∀ j, j < k → ¬ (j < l.length ∧ listed.getD j false = false) := by
          intro n
          induction n with
          | zero => rintro ⟨k, hk, _⟩; omega
          | succ n ihn =>
            rintro ⟨k, hk, h1, h2⟩
            by_cases hs : ∃ j, j < n ∧ j < l.length ∧ listed.getD j false = false
            · exact ihn hs
            · exact ⟨k, ⟨h1, h2⟩, fun j hj hq => hs ⟨j, by omega, hq⟩⟩
        obtain ⟨k, h1, h2⟩ := hex
        exact this l.length ⟨k, h1, h1, h2⟩
      have : k ∈ Region.ready .any l.toArray listed := by
        refine mem_ready.2 ⟨?_, l[k], by simp [hk1], fun e he hb => ?_⟩
        · simp only [Array.getD_eq_getD_getElem?] at hk2 ⊢
          rw [Array.getElem?_eq_getElem (by omega)] at hk2 ⊢
          simpa using hk2
        · have hb' := hM.back k l[k] (by simp [hk1]) e he hb
          cases hq : listed.getD e.on false with
          | true => rfl
          | false => exact absurd ⟨by omega, hq⟩ (hmin e.on hb')
      rw [hnil] at this; cases this
    · obtain ⟨hunl, o, ho, hall⟩ := mem_ready.1 hi
      obtain ⟨hil, hif⟩ := getD_true hunl
      rw [List.getElem?_toArray] at ho
      have him : i < m := by
        rcases Nat.lt_trichotomy i m with q | q | q
        · exact q
        · exfalso
          subst q
          obtain ⟨k, hk⟩ := List.exists_mem_of_length_pos (show 0 < U.length by omega)
          have hkm := hU k hk
          have hd1 : ∀ d, direct l i d = true → listed.getD d false = true := fun d hd => by
            obtain ⟨o', e, ho', he, hb, hon⟩ := direct_some hd
            rw [ho'] at ho
            obtain rfl : o' = o := by simpa using ho
            rw [← hon]; exact hall e he hb
          have hk1 : listed.getD k false = true := sees_listed h.closed (hM.sees k hkm) hd1
          rw [hun k hk] at hk1; cases hk1
        · exfalso
          obtain ⟨o', e, ho', he, hb, hon⟩ := direct_some (hM.chain i q (by omega))
          rw [ho'] at ho
          obtain rfl : o' = o := by simpa using ho
          have h1 := hall e he hb
          rw [hon] at h1
          have h2 := (hl (i - 1) (by omega)).2 (.inr (by omega))
          rw [h2] at h1; cases h1
      have hiU : i ∈ U := by
        rcases (hl i (by omega)).1 hif with q | q
        · exact q
        · omega
      obtain ⟨hg, x, hx, hxN⟩ := hM.plain i o him ho
      have hwant : Region.wanted o (yielded l.toArray a.tmps) = true := by unfold Region.wanted; rw [hg]
      unfold wpOp
      simp only [List.getElem?_toArray, ho, hwant, if_true]
      refine .inl (hstep i o a w him ho h.grow (fun y hy => h.old y (fun k p hk hp _ => hy k p hk hp)) (fun j p y hj hp hpy hd => ?_) _ (fun v bs w' hRv hMv hbs => ?_))
      · obtain ⟨o', e, ho', he, hb, hon⟩ := direct_some hd
        rw [ho'] at ho
        obtain rfl : o' = o := by simpa using ho
        have hj1 := hall e he hb
        rw [hon] at hj1
        exact ⟨_, _, h.val j p y hj hp hj1 hpy⟩
      · have hput : ∀ y, y ≠ x → (a.put o.dst v).tmps[y]? = a.tmps[y]? := fun y hy => by rw [hx]; simp [Act.put, Array.getElem?_setIfInBounds_ne (fun e => hy e.symm)]
        have hputx : (a.put o.dst v).tmps[x]? = some v := by rw [hx]; simp [Act.put, h.size, hN, hxN]
        have hset : ∀ k, (listed.setIfInBounds i true).getD k false = if k = i then true else listed.getD k false := fun k => getD_set hil
        have hlist : ∀ k, k ≠ i → (listed.setIfInBounds i true).getD k false = true → listed.getD k false = true := fun k hk hq => by rw [hset, if_neg hk] at hq; exact hq
        refine ih (U.erase i) (fun k => if k = i then v else V k) (fun k => if k = i then bs else Bs k) _ _ w' (by rw [List.length_erase_of_mem hiU]; omega) (hnd.erase i) (by simp [hs]) (fun k hk => ?_) (fun k hk => hU k (List.mem_of_mem_erase hk)) ?_
        · rw [hset, hnd.mem_erase_iff]
          by_cases hki : k = i
          · subst hki; simp; omega
          · rw [if_neg hki, hl k hk]; simp [hki]
        · refine ⟨by rw [hx]; exact h.dfr, by rw [hx]; simp [Act.put, h.size], h.grow.trans hMv, fun y hy => ?_, fun k p y hk hp hkl hpy => ?_, fun j k b hj hk hne hjl hkl hb => ?_, fun k b hk hkl hb => ?_, fun k p hp hkl e he hb => ?_⟩
          · have hyx : y ≠ x := fun e => hy i o him ho (by rw [hset, if_pos rfl]) (by rw [hx, e])
            rw [hput y hyx]
            exact h.old y (fun k p hk hp hkl => hy k p hk hp (by rw [hset, hkl]; simp))
          · by_cases hki : k = i
            · subst hki
              rw [ho] at hp
              obtain rfl : o = p := by simpa using hp
              rw [hx] at hpy
              obtain rfl : x = y := by simpa using hpy
              simp only [if_pos]
              exact ⟨hputx, hRv⟩
            · simp only [if_neg hki]
              obtain ⟨h1, h2⟩ := h.val k p y hk hp (hlist k hki hkl) hpy
              have hyx : y ≠ x := fun e => hM.apart k i p o hk him hki hp ho (by rw [hpy, hx, e])
              exact ⟨by rw [hput y hyx]; exact h1, hR _ _ _ _ _ h2 hMv⟩
          · by_cases hji : j = i
            · have hki : k ≠ i := fun e => hne (hji.trans e.symm)
              simp only [if_pos hji] at hb
              simp only [if_neg hki]
              intro hb'
              have := hbs b hb
              have := h.fresh k b hk (hlist k hki hkl) hb'
              omega
            · simp only [if_neg hji] at hb
              by_cases hki : k = i
              · simp only [if_pos hki]
                intro hb'
                have := hbs b hb'
                have := h.fresh j b hj (hlist j hji hjl) hb
                omega
              · simp only [if_neg hki]
                exact h.apart j k b hj hk hne (hlist j hji hjl) (hlist k hki hkl) hb
          · have hsz := h.grow.size
            have hsz2 := hMv.size
            by_cases hki : k = i
            · simp only [if_pos hki] at hb
              have := hbs b hb
              omega
            · simp only [if_neg hki] at hb
              have := h.fresh k b hk (hlist k hki hkl) hb
              omega
          · rw [hset]
            split
            · rfl
            · by_cases hki : k = i
              · subst hki
                rw [ho] at hp
                obtain rfl : o = p := by simpa using hp
                exact hall e he hb
              · exact h.closed k p hp (hlist k hki hkl) e he hb

theorem wp_region_makers {id : Nat} {l : List Oper} {a0 : Act} {w0 : World} (m N : Nat) (R : Nat → Value → List Nat → World → Prop) (hm : P.follows .mixedOrders = true) (hB : makersB m N l = true) (hN : a0.tmps.size = N)
    (hR : ∀ k v bs w w', R k v bs w → Mod [] w w' → R k v bs w')
    (hstep : ∀ (k : Nat) (o : Oper) (a : Act) (w : World), k < m → l[k]? = some o → Mod [] w0.drew w →
      (∀ x, (∀ (j : Nat) (p : Oper), j < m → l[j]? = some p → p.dst ≠ some x) → a.tmps[x]? = a0.tmps[x]?) →
      (∀ (j : Nat) (p : Oper) x, j < m → l[j]? = some p → p.dst = some x → direct l k j = true → ∃ v bs, a.tmps[x]? = some v ∧ R j v bs w) →
      ∀ K : Act → World → Prop, (∀ v bs w', R k v bs w' → Mod [] w w' → (∀ b ∈ bs, w.heap.size ≤ b ∧ b < w'.heap.size) → K (a.put o.dst v) w') → o.wp P a w K Q)
    (hdone : ∀ (V : Nat → Value) (Bs : Nat → List Nat) (w : World), Mod [] w0.drew w → (∀ k, k < m → R k (V k) (Bs k) w ∧ ∀ b ∈ Bs k, w0.heap.size ≤ b ∧ b < w.heap.size) → (∀ j k, j < m → k < m → j ≠ k → ∀ b ∈ Bs j, b ∉ Bs k) →
      wpList P l.toArray Q (l.drop m) (putAll V 0 (l.take m) a0) w) : (Code.region id l.toArray true).wp P Q a0 w0 := by
  have hM := makers_of hB
  have hml := hM.lt
  have hf : ∀ k, (Array.replicate l.toArray.size false).getD k false = false := fun k => by
    simp only [Array.getD_eq_getD_getElem?, Array.getElem?_replicate]; split <;> rfl
  refine wp_region_any hm ?_
  have := any_makers (P := P) (Q := Q) (w0 := w0.drew) hM hN R hR hstep hdone m (List.range m) (fun _ => undef) (fun _ => []) (Array.replicate l.toArray.size false) a0 w0.drew (by simp) List.nodup_range (by simp)
    (fun k hk => by rw [hf]; simp; omega) (fun k hk => List.mem_range.1 hk)
    ⟨rfl, rfl, Mod.refl _ _, fun _ _ => rfl, fun k o x _ _ h => absurd h (by rw [hf]; simp), fun j k b _ _ _ h => absurd h (by rw [hf]; simp), fun k b _ h => absurd h (by rw [hf]; simp), fun k o _ h => absurd h (by rw [hf]; simp)⟩
  rw [show m + (l.length - m) = l.toArray.size by simp; omega] at this
  exact this
/-- No one of the first m writes slot x. -/
def keptB (m : Nat) (l : List Oper) (x : Nat) : Bool := (l.take m).all fun o => o.dst != some x
/-- The k-th waits for the j-th, whose slot is x. -/
def depB (m : Nat) (l : List Oper) (k j x : Nat) : Bool := decide (j < m) && direct l k j && (match l[j]? with | some p => p.dst == some x | none => false)
theorem wp_region_makers' {id : Nat} {l : List Oper} {a0 : Act} {w0 : World} (m N : Nat) (R : Nat → Value → List Nat → World → Prop) (hm : P.follows .mixedOrders = true) (hB : makersB m N l = true) (hN : a0.tmps.size = N)
    (hR : ∀ k v bs w w', R k v bs w → Mod [] w w' → R k v bs w')
    (hstep : ∀ (k : Nat) (o : Oper) (a : Act) (w : World), k < m → l[k]? = some o → Mod [] w0.drew w →
      (∀ x, keptB m l x = true → a.tmps[x]? = a0.tmps[x]?) → (∀ j x, depB m l k j x = true → ∃ v bs, a.tmps[x]? = some v ∧ R j v bs w) →
      ∀ K : Act → World → Prop, (∀ v bs w', R k v bs w' → Mod [] w w' → (∀ b ∈ bs, w.heap.size ≤ b ∧ b < w'.heap.size) → K (a.put o.dst v) w') → o.wp P a w K Q)
    (hdone : ∀ (V : Nat → Value) (Bs : Nat → List Nat) (w : World), Mod [] w0.drew w → (∀ k, k < m → R k (V k) (Bs k) w ∧ ∀ b ∈ Bs k, w0.heap.size ≤ b ∧ b < w.heap.size) → (∀ j k, j < m → k < m → j ≠ k → ∀ b ∈ Bs j, b ∉ Bs k) →
      wpList P l.toArray Q (l.drop m) (putAll V 0 (l.take m) a0) w) : (Code.region id l.toArray true).wp P Q a0 w0 := by
  have hml := (makers_of hB).lt
  refine wp_region_makers m N R hm hB hN hR (fun k o a w hk ho hM h1 h2 K hK => hstep k o a w hk ho hM (fun x hx => h1 x fun j p hj hp hd => ?_) (fun j x hd => ?_) K hK) hdone
  · have := List.all_eq_true.1 hx p (List.mem_of_getElem? (i := j) (by rw [List.getElem?_take_of_lt hj]; exact hp))
    rw [hd] at this
    simp at this
  · unfold depB at hd
    simp only [Bool.and_eq_true, decide_eq_true_eq] at hd
    obtain ⟨⟨q1, q2⟩, q3⟩ := hd
    cases hp : l[j]? with
    | none => rw [hp] at q3; cases q3
    | some p =>
      rw [hp] at q3
      exact h2 j p x q1 hp (by simpa using q3) q2
/-- A value that comes at once. -/
theorem value_step {o : Oper} {a : Act} {w w' : World} {v : Value} {K : Act → World → Prop} (h : (execOp a.eval o).run P w = .ok (.value v) w') (hK : K (a.put o.dst v) w') : o.wp P a w K Q := by
  unfold Oper.wp; rw [h]; exact hK
theorem call_step {o : Oper} {a : Act} {w : World} {f : FuncId} {args : Array Value} {R : Ending → World → Prop} {K : Act → World → Prop} (h : (execOp a.eval o).run P w = .ok (.enter f args) w) (hc : Calls P f args w R) (hK : ∀ e w', R e w' → ∃ v, e = .returned v ∧ K (a.put o.dst v) w') : o.wp P a w K Q := by
  unfold Oper.wp; rw [h]
  refine Calls.mono hc fun e w' hr => ?_
  obtain ⟨v, rfl, hk⟩ := hK e w' hr
  exact hk
theorem eval_tmp {a : Act} {x : Nat} {v : Value} (h : a.tmps[x]? = some v) : a.eval (.tmp x) = v := by
  show a.tmps.getD x undef = v
  rw [Array.getD_eq_getD_getElem?, h]; rfl
end
#print axioms wp_region_makers'
end Go.YtpobjhmfidebbaaLex
