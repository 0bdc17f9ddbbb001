/- A region that draws its order within a fence, whose last operations (a call of a function that was handed over) wait for all others: the first are walked plainly, the last in the fence. Over any program. -/
import Derived.Test.YtpobjhmfidebbaaMakers
import Derived.Test.YtpobjhmfidebbaaRound
namespace Go.YtpobjhmfidebbaaLex
set_option linter.unusedVariables false
set_option linter.unusedSimpArgs false
open Go Go.YtpobjhmfidebbaaMem

section
variable {P : Program} {Q : Exit → Act → World → Prop} {n : Nat}
def TailQ (P : Program) (n : Nat) (l : List Oper) (m : Nat) (Q : Exit → Act → World → Prop) : Exit → Act → World → Prop
  | .normal, a, w => wpListIn Fence.wide n P l.toArray Q (l.drop m) a w
  | _, _, _ => False
theorem op_wide {o : Oper} {a : Act} {w : World} {K K' : Act → World → Prop} {Q1 : Exit → Act → World → Prop} (hQ1 : ∀ e a w, e ≠ .normal → ¬ Q1 e a w) (hK : ∀ a w, K a w → K' a w) (h : o.wp P a w K Q1) : o.wpIn Fence.wide n P a w K' Q := by
  refine ⟨fun _ _ => trivial, ?_⟩
  unfold Oper.wp at h
  show o.uponIn _ n P a K' Q ((o.semAt none a.eval).run P w)
  have hs : o.semAt none a.eval = execOp a.eval o := by simp [Oper.semAt]
  rw [hs]
  cases hx : (execOp a.eval o).run P w with
  | ok x w' =>
    rw [hx] at h
    cases x with
    | value v => exact hK _ _ h
    | skip => exact hK _ _ h
    | defer d => exact hK _ _ h
    | enter f args =>
      refine ⟨fun hd => by simp [Fence.wide] at hd, callsIn_wide.2 (Calls.mono h fun e w'' he => ?_)⟩
      cases e with
      | returned v => exact hK _ _ he
      | panicked c => exact absurd he (hQ1 _ _ _ (by simp))
      | outgrown => obtain ⟨a1, w1, hq⟩ := he; exact absurd hq (hQ1 _ _ _ (by simp))
    | row row args =>
      refine ⟨fun hd => by simp [Fence.wide] at hd, fun c cs _ => ?_⟩
      obtain ⟨v, w'', q, s⟩ := h c cs
      exact ⟨v, w'', hK _ _ q, stepsIn_wide.2 s⟩
    | _ => exact h.elim
  | halt hl w' =>
    rw [hx] at h
    cases hl with
    | panic v => exact absurd h (hQ1 _ _ _ (by simp))
    | _ => exact h.elim
/-- The tail, one behind the other. -/
theorem any_tailIn {F : Fence} {l : List Oper} {m N : Nat} (hM : Makers m N l) : ∀ (c k : Nat) (listed : Array Bool) (a : Act) (w : World), l.length = k + c → m ≤ k → listed.size = l.length → (∀ j, j < l.length → listed.getD j false = decide (j < k)) →
    wpListIn F n P l.toArray Q (l.drop k) a w → wpAnyIn F n P .any l.toArray Q c listed a w
  | 0, k, listed, a, w, hc, hmk, hs, hl, h => by
    rw [List.drop_eq_nil_of_le (by omega)] at h
    refine ⟨List.eq_nil_iff_forall_not_mem.2 fun j hj => ?_, h⟩
    obtain ⟨hun, _⟩ := mem_ready.1 hj
    obtain ⟨h1, h2⟩ := getD_true hun
    rw [hl j (by omega)] at h2
    simp at h2; omega
  | c + 1, k, listed, a, w, hc, hmk, hs, hl, h => by
    have hk : k < l.length := by omega
    have hready : ∀ j, j ∈ Region.ready .any l.toArray listed → j = k := fun j hj => by
      obtain ⟨hun, o, ho, hall⟩ := mem_ready.1 hj
      obtain ⟨h1, h2⟩ := getD_true hun
      rw [hl j (by omega)] at h2
      have hkj : k ≤ j := by simpa using h2
      rcases Nat.lt_or_ge k j with hlt | hge
      · obtain ⟨o', e, ho', he, hb, hon⟩ := direct_some (hM.chain j (by omega) (by omega))
        rw [List.getElem?_toArray, ho'] at ho
        obtain rfl : o' = o := by simpa using ho
        have := hall e he hb
        rw [hon, hl _ (by omega)] at this
        simp at this; omega
      · omega
    refine ⟨fun hnil => ?_, fun i hi => ?_⟩
    · exfalso
      have : k ∈ Region.ready .any l.toArray listed := by
        refine mem_ready.2 ⟨?_, l[k], by simp [hk], fun e he hb => ?_⟩
        · have := hl k hk
          simp only [Array.getD_eq_getD_getElem?] at this ⊢
          rw [Array.getElem?_eq_getElem (by omega)] at this ⊢
          simpa using this
        · have := hM.back k l[k] (by simp [hk]) e he hb
          rw [hl _ (by omega)]; simpa using this
      rw [hnil] at this; cases this
    · obtain rfl := hready i hi
      rw [List.drop_eq_getElem_cons hk] at h
      have h' : wpOpIn F n P l.toArray Q i (wpListIn F n P l.toArray Q (l.drop (i + 1))) a w := by
        unfold wpOpIn; simp only [List.getElem?_toArray, List.getElem?_eq_getElem hk]; exact h
      refine wpOpIn_mono (fun a' w' h2 => any_tailIn hM c (i + 1) _ a' w' (by omega) (by omega) (by simp [hs]) (fun j hj => ?_) h2) h'
      rw [getD_set (by omega), hl j hj]
      by_cases hji : j = i
      · subst hji; simp
      · rw [if_neg hji]; simp; omega
theorem any_split {l : List Oper} {m N : Nat} (hM : Makers m N l) : ∀ (c : Nat) (U : List Nat) (listed l1 : Array Bool) (a : Act) (w : World), U.length = c → U.Nodup → listed.size = l.length → l1.size = m → (∀ k, k < m → listed.getD k false = l1.getD k false) → (∀ k, k < l.length → (listed.getD k false = false ↔ k ∈ U ∨ m ≤ k)) → (∀ k ∈ U, k < m) →
      (∀ (k : Nat) (o : Oper), l[k]? = some o → listed.getD k false = true → ∀ e ∈ o.after, Region.binds .any e = true → listed.getD e.on false = true) →
      wpAny P .any (l.take m).toArray (TailQ P n l m Q) c l1 a w → wpAnyIn Fence.wide n P .any l.toArray Q (c + (l.length - m)) listed a w := by
  have hml := hM.lt
  have hQ1 : ∀ e a w, e ≠ .normal → ¬ TailQ P n l m Q e a w := fun e a w he h => by cases e <;> first | exact he rfl | exact h
  have hsame : ∀ k, k < m → (l.take m).toArray[k]? = l[k]? := fun k hk => by rw [List.getElem?_toArray, List.getElem?_take_of_lt hk]
  intro c
  induction c with
  | zero =>
    intro U listed l1 a w hc hnd hs hs1 heq hl hU hcl h
    obtain rfl : U = [] := List.eq_nil_of_length_eq_zero hc
    have hall : ∀ k, k < m → listed.getD k false = true := by
      intro k hk
      cases hq : listed.getD k false with
      | true => rfl
      | false =>
        rcases (hl k (by omega)).1 hq with q | q
        · cases q
        · omega
    rw [Nat.zero_add]
    refine any_tailIn hM (l.length - m) m listed a w (by omega) (Nat.le_refl _) hs (fun j hj => ?_) h.2
    by_cases hjm : j < m
    · rw [hall j hjm]; simp [hjm]
    · rw [(hl j hj).2 (.inr (by omega))]; simp; omega
  | succ c ih =>
    intro U listed l1 a w hc hnd hs hs1 heq hl hU hcl h
    rw [Nat.add_right_comm]
    obtain ⟨h₀, h₁⟩ := h
    have hun : ∀ k, k ∈ U → listed.getD k false = false := fun k hk => (hl k (by have := hU k hk; omega)).2 (.inl hk)
    have him : ∀ i, i ∈ Region.ready .any l.toArray listed → i < m := fun i hi => by
      obtain ⟨hunl, o, ho, hall⟩ := mem_ready.1 hi
      obtain ⟨hil, hif⟩ := getD_true hunl
      rw [List.getElem?_toArray] at ho
      rcases Nat.lt_trichotomy i m with q | q | q
      · exact q
      · exfalso
        subst q
        obtain ⟨k, hk⟩ := List.exists_mem_of_length_pos (show 0 < U.length by omega)
        have hkm := hU k hk
        have hd1 : ∀ d, direct l i d = true → listed.getD d false = true := fun d hd => by
          obtain ⟨o', e, ho', he, hb, hon⟩ := direct_some hd
          rw [ho'] at ho
          obtain rfl : o' = o := by simpa using ho
          rw [← hon]; exact hall e he hb
        have hk1 : listed.getD k false = true := sees_listed hcl (hM.sees k hkm) hd1
        rw [hun k hk] at hk1; cases hk1
      · exfalso
        obtain ⟨o', e, ho', he, hb, hon⟩ := direct_some (hM.chain i q (by omega))
        rw [ho'] at ho
        obtain rfl : o' = o := by simpa using ho
        have h1 := hall e he hb
        rw [hon] at h1
        have h2 := (hl (i - 1) (by omega)).2 (.inr (by omega))
        rw [h2] at h1; cases h1
    have hr1 : ∀ i, i ∈ Region.ready .any l.toArray listed → i ∈ Region.ready .any (l.take m).toArray l1 := fun i hi => by
      have hi' := him i hi
      obtain ⟨hunl, o, ho, hall⟩ := mem_ready.1 hi
      obtain ⟨hil, hif⟩ := getD_true hunl
      rw [List.getElem?_toArray] at ho
      refine mem_ready.2 ⟨?_, o, by rw [hsame i hi']; exact ho, fun e he hb => ?_⟩
      · have := heq i hi'
        rw [hif] at this
        simp only [Array.getD_eq_getD_getElem?] at this ⊢
        rw [Array.getElem?_eq_getElem (by omega)] at this ⊢
        simpa using this.symm
      · have := hM.back i o ho e he hb
        rw [← heq e.on (by omega)]; exact hall e he hb
    refine ⟨fun hnil => ?_, fun i hi => ?_⟩
    · exfalso
      have hex : ∃ k, k < l.length ∧ listed.getD k false = false := by
        obtain ⟨k, hk⟩ := List.exists_mem_of_length_pos (show 0 < U.length by omega)
        exact ⟨k, by have := hU k hk; omega, hun k hk⟩
      obtain ⟨k, ⟨hk1, hk2⟩, hmin⟩ : ∃ k, (k < l.length ∧ listed.getD k false = false) ∧ ∀ j, j < k → ¬ (j < l.length ∧ listed.getD j false = false) := by
        have : ∀ n, (∃ k, k < n ∧ k < l.length ∧ listed.getD k false = false) → ∃ k, (k < l.length ∧ listed.getD k false = false) ∧ ∀ j, j < k → ¬ (j < l.length ∧ listed.getD j false = false) := by
          intro n
          induction n with
          | zero => rintro ⟨k, hk, _⟩; omega
          | succ n ihn =>
            rintro ⟨k, hk, h1, h2⟩
            by_cases hs : ∃ j, j < n ∧ j < l.length ∧ listed.getD j false = false
            · exact ihn hs
            · exact ⟨k, ⟨h1, h2⟩, fun j hj hq => hs ⟨j, by omega, hq⟩⟩
        obtain ⟨k, h1, h2⟩ := hex
        exact this l.length ⟨k, h1, h1, h2⟩
      have : k ∈ Region.ready .any l.toArray listed := by
        refine mem_ready.2 ⟨?_, l[k], by simp [hk1], fun e he hb => ?_⟩
        · simp only [Array.getD_eq_getD_getElem?] at hk2 ⊢
          rw [Array.getElem?_eq_getElem (by omega)] at hk2 ⊢
          simpa using hk2
        · have hb' := hM.back k l[k] (by simp [hk1]) e he hb
          cases hq : listed.getD e.on false with
          | true => rfl
          | false => exact absurd ⟨by omega, hq⟩ (hmin e.on hb')
      rw [hnil] at this; cases this
    · have hi' := him i hi
      obtain ⟨hunl, o, ho, hall⟩ := mem_ready.1 hi
      obtain ⟨hil, hif⟩ := getD_true hunl
      rw [List.getElem?_toArray] at ho
      obtain ⟨hg, x, hx, hxN⟩ := hM.plain i o hi' ho
      have hiU : i ∈ U := by
        rcases (hl i (by omega)).1 hif with q | q
        · exact q
        · omega
      have h2 := h₁ i (hr1 i hi)
      have hw1 : Region.wanted o (yielded (l.take m).toArray a.tmps) = true := by unfold Region.wanted; rw [hg]
      have hw2 : Region.wanted o (yielded l.toArray a.tmps) = true := by unfold Region.wanted; rw [hg]
      unfold wpOp at h2
      rw [hsame i hi', ho] at h2
      simp only [hw1, if_true] at h2
      unfold wpOpIn
      simp only [List.getElem?_toArray, ho, hw2, if_true]
      rcases h2 with h2 | ⟨_, a1, w1, hq⟩
      · refine op_wide hQ1 (fun a' w' h3 => ?_) h2
        have hset : ∀ k, (listed.setIfInBounds i true).getD k false = if k = i then true else listed.getD k false := fun k => getD_set hil
        refine ih (U.erase i) _ _ a' w' (by rw [List.length_erase_of_mem hiU]; omega) (hnd.erase i) (by simp [hs]) (by simp [hs1]) (fun k hk => ?_) (fun k hk => ?_) (fun k hk => hU k (List.mem_of_mem_erase hk)) (fun k p hp hkl e he hb => ?_) h3
        · rw [hset, getD_set (by omega), heq k hk]
        · rw [hset, hnd.mem_erase_iff]
          by_cases hki : k = i
          · subst hki; simp; omega
          · rw [if_neg hki, hl k hk]; simp [hki]
        · rw [hset]
          split
          · rfl
          · by_cases hki : k = i
            · subst hki
              rw [ho] at hp
              obtain rfl : o = p := by simpa using hp
              exact hall e he hb
            · exact hcl k p hp (by rw [hset, if_neg hki] at hkl; exact hkl) e he hb
      · exact absurd hq (hQ1 _ _ _ (by simp))
theorem wpIn_region_tail {id : Nat} {l : List Oper} {a : Act} {w : World} (m N : Nat) (hm : P.follows .mixedOrders = true) (hB : makersB m N l = true)
    (h : wpAny P .any (l.take m).toArray (TailQ P n l m Q) (l.take m).toArray.size (Array.replicate (l.take m).toArray.size false) a w.drew) : (Code.region id l.toArray true).wpIn Fence.wide n P Q a w := by
  have hM := makers_of hB
  have hml := hM.lt
  have hf : ∀ (z k : Nat), (Array.replicate z false).getD k false = false := fun z k => by
    simp only [Array.getD_eq_getD_getElem?, Array.getElem?_replicate]; split <;> rfl
  have hsz : (l.take m).toArray.size = m := by simp; omega
  refine wpIn_region_draw fun t => ?_
  simp only [Region.schedule, hm, Bool.true_or, if_true]
  refine wpAnyIn_sound _ t _ a _ ?_
  have := any_split (P := P) (Q := Q) (n := n) hM m (List.range m) (Array.replicate l.toArray.size false) (Array.replicate (l.take m).toArray.size false) a w.drew (by simp) List.nodup_range (by simp) (by rw [Array.size_replicate, hsz])
    (fun k hk => by rw [hf, hf]) (fun k hk => by rw [hf]; simp; omega) (fun k hk => List.mem_range.1 hk) (fun k o _ h => absurd h (by rw [hf]; simp)) (by rw [hsz] at h ⊢; exact h)
  rw [show m + (l.length - m) = l.toArray.size by simp; omega] at this
  exact this
/-- The same, the first read alone (or call what reads alone). -/
theorem wpIn_region_lexTail {id : Nat} {l : List Oper} {a : Act} {w : World} (m N : Nat) (hm : P.follows .mixedOrders = true) (hB : makersB m N l = true) (hL : okB P (l.take m) = true)
    (h : wpList P (l.take m).toArray (Post P (l.take m) (TailQ P n l m Q)) (l.take m) a w.drew) : (Code.region id l.toArray true).wpIn Fence.wide n P Q a w :=
  wpIn_region_tail m N hm hB (lex_any hL h)
end
#print axioms wpIn_region_lexTail
end Go.YtpobjhmfidebbaaLex
