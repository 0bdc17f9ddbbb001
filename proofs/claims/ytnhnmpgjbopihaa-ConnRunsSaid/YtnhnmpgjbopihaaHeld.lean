/- A region that draws its order, with reads beside calls: reads of old memory that the calls leave alone. Walked once, in the order of the text, cut behind each such call. For any program. -/
import Derived.Test.YtnhnmpgjbopihaaLex
import Derived.Test.YtnhnmpgjbopihaaMem
namespace Go.YtnhnmpgjbopihaaLex
set_option linter.unusedVariables false
set_option linter.unusedSimpArgs false
open Go Go.YtnhnmpgjbopihaaMem

/-! One operation. Kinds: 0 a value, the same everywhere; 1 a value, the same in every world of S; 2 goes from S to S; 5 a value; else anything. -/

section
variable {P : Program} {ops : Array Oper} {Q : Exit → Act → World → Prop} {S : World → Prop}

def GoodH (P : Program) (S : World → Prop) (kind : Nat) (o : Oper) (a : Act) (w : World) : Prop :=
  match kind with
  | 0 => ∃ v, ∀ w', (execOp a.eval o).run P w' = .ok (.value v) w'
  | 1 => S w ∧ ∃ v, ∀ w', S w' → (execOp a.eval o).run P w' = .ok (.value v) w'
  | 5 => ∃ v, (execOp a.eval o).run P w = .ok (.value v) w
  | 2 => S w
  | _ => True

def KK (S : World → Prop) (kind : Nat) (K : Act → World → Prop) : Act → World → Prop := fun a w => (kind = 2 → S w) ∧ K a w

theorem GoodH.one {k : Nat} {o : Oper} {a : Act} {w : World} (h : GoodH P S k o a w) (hk : k = 0 ∨ k = 1 ∨ k = 5) : ∃ v, (execOp a.eval o).run P w = .ok (.value v) w := by
  rcases hk with rfl | rfl | rfl
  · obtain ⟨v, hv⟩ := h; exact ⟨v, hv w⟩
  · obtain ⟨hs, v, hv⟩ := h; exact ⟨v, hv w hs⟩
  · exact h

def opH (P : Program) (S : World → Prop) (kind : Nat → Nat) (ops : Array Oper) (Q : Exit → Act → World → Prop) (i : Nat) (K : Act → World → Prop) (a : Act) (w : World) : Prop :=
  match ops[i]? with
  | none => K a w
  | some o => if Region.wanted o (yielded ops a.tmps) then GoodH P S (kind i) o a w ∧ o.wp P a w (KK S (kind i) K) Q else K (a.put o.dst undef) w

theorem opH_mono {kind : Nat → Nat} {i : Nat} {a : Act} {w : World} {K K' : Act → World → Prop} (h : ∀ a w, K a w → K' a w) (hh : opH P S kind ops Q i K a w) : opH P S kind ops Q i K' a w := by
  unfold opH at *
  split
  · exact h _ _ (by simpa [*] using hh)
  · rename_i o ho
    simp only [ho] at hh
    split
    · rename_i hw; simp only [hw, if_true] at hh; exact ⟨hh.1, Oper.wp_mono (fun a w hk => ⟨hk.1, h _ _ hk.2⟩) hh.2⟩
    · rename_i hw; simp only [hw] at hh; exact h _ _ hh

theorem opH_wpOp {kind : Nat → Nat} {i : Nat} {a : Act} {w : World} {K : Act → World → Prop} (hh : opH P S kind ops Q i K a w) : wpOp P ops Q i K a w := by
  unfold opH at hh; unfold wpOp
  split
  · simpa [*] using hh
  · rename_i o ho
    simp only [ho] at hh
    split
    · rename_i hw; simp only [hw, if_true] at hh; exact .inl (Oper.wp_mono (fun a w hk => hk.2) hh.2)
    · rename_i hw; simp only [hw] at hh; exact hh

/-- Going on from whatever an operation came to. -/
theorem wp_keep {o : Oper} {a : Act} {w : World} {K K' : Act → World → Prop} (hk : ∀ (b : Act) u w', b.tmps = a.tmps → b.eval = a.eval → K (b.put o.dst u) w' → K' (b.put o.dst u) w') (h : o.wp P a w K Q) : o.wp P a w K' Q := by
  unfold Oper.wp at *
  generalize (execOp a.eval o).run P w = r at *
  cases r with
  | ok n w' =>
    cases n <;> simp only [Oper.upon] at h ⊢
    case value u => exact hk _ _ _ rfl rfl h
    case skip => exact hk _ _ _ rfl rfl h
    case defer q => exact hk _ _ _ rfl rfl h
    case enter f args =>
      refine Calls.mono h fun e w'' he => ?_
      cases e with
      | returned u => exact hk _ _ _ rfl rfl he
      | panicked c => exact he
      | outgrown => exact he
    case row r args => exact Rows.mono h fun u w'' he => hk _ _ _ rfl rfl he
  | halt x w' =>
    cases x <;> simp only [Oper.upon] at h ⊢
    case panic u => exact h

def Allowed (a b : Nat) : Prop := a = 0 ∨ b = 0 ∨ ((a = 1 ∨ a = 5) ∧ (b = 1 ∨ b = 5)) ∨ (a = 1 ∧ b = 2) ∨ (a = 2 ∧ b = 1)

theorem opH_swap {kind : Nat → Nat} {i j : Nat} {oi oj : Oper} (hi : ops[i]? = some oi) (hj : ops[j]? = some oj) (hp : Plain Q)
    (hsi : ∀ cs b, oi.op ≠ .select cs b) (hsj : ∀ cs b, oj.op ≠ .select cs b) (hap : oi.apart ops oj = true)
    (hk : Allowed (kind i) (kind j)) {K : Act → World → Prop} {a : Act} {w : World}
    (h : opH P S kind ops Q i (opH P S kind ops Q j K) a w) : opH P S kind ops Q j (opH P S kind ops Q i K) a w := by
  obtain ⟨h1, h2, h3⟩ := Oper.apart_spec hap
  have h2' : ∀ d, oj.dst = some d → oi.dst ≠ some d := fun d hd he => h2 d he hd
  have ei : ∀ (b : Act) u, execOp (b.put oj.dst u).eval oi = execOp b.eval oi := fun b u => execOp_put (ops := ops) oi hsi b oj.dst u h3
  have ej : ∀ (b : Act) u, execOp (b.put oi.dst u).eval oj = execOp b.eval oj := fun b u => execOp_put (ops := ops) oj hsj b oi.dst u h1
  have gi : ∀ b : Act, ∀ u w, GoodH P S (kind i) oi (b.put oj.dst u) w ↔ GoodH P S (kind i) oi b w := fun b u w => by unfold GoodH; rw [ei]
  have gj : ∀ b : Act, ∀ u w, GoodH P S (kind j) oj (b.put oi.dst u) w ↔ GoodH P S (kind j) oj b w := fun b u w => by unfold GoodH; rw [ej]
  have wi : ∀ b : Act, ∀ u, Region.wanted oi (yielded ops (b.put oj.dst u).tmps) = Region.wanted oi (yielded ops b.tmps) := fun b u => wanted_put oi b oj.dst u h3
  have wj : ∀ b : Act, ∀ u, Region.wanted oj (yielded ops (b.put oi.dst u).tmps) = Region.wanted oj (yielded ops b.tmps) := fun b u => wanted_put oj b oi.dst u h1
  have pc : ∀ (b : Act) (u v : Value), (b.put oi.dst u).put oj.dst v = (b.put oj.dst v).put oi.dst u := fun b u v => Act.put_comm b u v h2
  have jput : ∀ (K : Act → World → Prop) (b : Act) (u : Value) (w : World), opH P S kind ops Q j K (b.put oi.dst u) w ↔ opH P S kind ops Q j (fun a' w' => K (a'.put oi.dst u) w') b w := fun K b u w => by
    unfold opH; simp only [hj, wj, gj, wp_put (ops := ops) hp hsj h1 h2, KK]
    rw [pc]; exact Iff.rfl
  have iput : ∀ (K : Act → World → Prop) (b : Act) (u : Value) (w : World), opH P S kind ops Q i K (b.put oj.dst u) w ↔ opH P S kind ops Q i (fun a' w' => K (a'.put oj.dst u) w') b w := fun K b u w => by
    unfold opH; simp only [hi, wi, gi, wp_put (ops := ops) hp hsi h3 h2', KK]
    rw [← pc]; exact Iff.rfl
  have iskip : ∀ (K : Act → World → Prop) (b : Act) (w : World), Region.wanted oi (yielded ops b.tmps) = false → opH P S kind ops Q i K b w = K (b.put oi.dst undef) w := fun K b w hb => by
    unfold opH; simp only [hi, hb, Bool.false_eq_true, if_false]
  have jskip : ∀ (K : Act → World → Prop) (b : Act) (w : World), Region.wanted oj (yielded ops b.tmps) = false → opH P S kind ops Q j K b w = K (b.put oj.dst undef) w := fun K b w hb => by
    unfold opH; simp only [hj, hb, Bool.false_eq_true, if_false]
  have iwant : ∀ (K : Act → World → Prop) (b : Act) (w : World), Region.wanted oi (yielded ops b.tmps) = true → (opH P S kind ops Q i K b w ↔ GoodH P S (kind i) oi b w ∧ oi.wp P b w (KK S (kind i) K) Q) := fun K b w hb => by
    unfold opH; simp only [hi, hb, if_true]
  have jwant : ∀ (K : Act → World → Prop) (b : Act) (w : World), Region.wanted oj (yielded ops b.tmps) = true → (opH P S kind ops Q j K b w ↔ GoodH P S (kind j) oj b w ∧ oj.wp P b w (KK S (kind j) K) Q) := fun K b w hb => by
    unfold opH; simp only [hj, hb, if_true]
  have jkeep : ∀ (K K' : Act → World → Prop) (b : Act) (w : World), (∀ (c : Act) u w', c.tmps = b.tmps → c.eval = b.eval → (kind j = 2 → Region.wanted oj (yielded ops b.tmps) = true → S w') → K (c.put oj.dst u) w' → K' (c.put oj.dst u) w') →
      opH P S kind ops Q j K b w → opH P S kind ops Q j K' b w := fun K K' b w hK hh => by
    by_cases hw : Region.wanted oj (yielded ops b.tmps) = true
    · rw [jwant _ _ _ hw] at hh ⊢
      exact ⟨hh.1, wp_keep (fun c u w' hc he hk => ⟨hk.1, hK c u w' hc he (fun e _ => hk.1 e) hk.2⟩) hh.2⟩
    · have hw' : Region.wanted oj (yielded ops b.tmps) = false := by simpa using hw
      rw [jskip _ _ _ hw'] at hh ⊢
      exact hK b _ _ rfl rfl (fun _ h => absurd h hw) hh
  by_cases hwi : Region.wanted oi (yielded ops a.tmps) = true
  case neg =>
    have hwi' : Region.wanted oi (yielded ops a.tmps) = false := by simpa using hwi
    rw [iskip _ _ _ hwi', jput] at h
    refine jkeep _ _ a w (fun c u w' hc he _ hh => ?_) h
    rw [iskip _ _ _ (by rw [wi, hc]; exact hwi')]; exact hh
  case pos =>
    obtain ⟨hg, hw⟩ := (iwant _ _ _ hwi).1 h
    have wi' : ∀ (c : Act) u, c.tmps = a.tmps → Region.wanted oi (yielded ops (c.put oj.dst u).tmps) = true := fun c u hc => by rw [wi, hc]; exact hwi
    by_cases hi0 : kind i = 0
    · obtain ⟨v, hv⟩ : ∃ v, ∀ w', (execOp a.eval oi).run P w' = .ok (.value v) w' := by rw [hi0] at hg; exact hg
      have hj1 : opH P S kind ops Q j K (a.put oi.dst v) w := ((wp_value (hv w)).1 hw).2
      rw [jput] at hj1
      refine jkeep _ _ a w (fun c u w' hc he _ hh => ?_) hj1
      refine (iwant _ _ _ (wi' c u hc)).2 ⟨?_, ?_⟩
      · rw [gi, hi0]; exact ⟨v, by rw [he]; exact hv⟩
      · refine (wp_value (by rw [ei, he]; exact hv w')).2 ⟨fun e => (by rw [hi0] at e; cases e), hh⟩
    · by_cases hwj : Region.wanted oj (yielded ops a.tmps) = true
      case neg =>
        have hwj' : Region.wanted oj (yielded ops a.tmps) = false := by simpa using hwj
        rw [jskip _ _ _ hwj', iput]
        refine (iwant _ _ _ hwi).2 ⟨hg, wp_keep (fun c u w' hc he hk => ⟨hk.1, ?_⟩) hw⟩
        have := hk.2
        rw [jskip _ _ _ (by rw [wj, hc]; exact hwj')] at this
        exact this
      case pos =>
        have wj' : ∀ (c : Act) u, c.tmps = a.tmps → Region.wanted oj (yielded ops (c.put oi.dst u).tmps) = true := fun c u hc => by rw [wj, hc]; exact hwj
        by_cases hj0 : kind j = 0
        · obtain ⟨b, u0, w0, hb1, hb2, hb3⟩ := wp_some hp hw
          have hG := ((jwant _ _ _ (wj' b u0 hb2)).1 hb1.2).1
          rw [gj, hj0] at hG
          obtain ⟨v, hv⟩ := hG
          rw [hb3] at hv
          refine (jwant _ _ _ hwj).2 ⟨by rw [hj0]; exact ⟨v, hv⟩, (wp_value (hv w)).2 ⟨fun e => (by rw [hj0] at e; cases e), ?_⟩⟩
          rw [iput]
          refine (iwant _ _ _ hwi).2 ⟨hg, wp_keep (fun c u w' hc he hk => ⟨hk.1, ?_⟩) hw⟩
          have := ((jwant _ _ _ (wj' c u hc)).1 hk.2).2
          exact ((wp_value (by rw [ej, he]; exact hv w')).1 this).2
        · rcases hk with h0 | h0 | ⟨hi1, hj1⟩ | ⟨hi1, hj1⟩ | ⟨hi1, hj1⟩
          · exact absurd h0 hi0
          · exact absurd h0 hj0
          · -- both read
            have hi2 : kind i ≠ 2 := by omega
            have hj2 : kind j ≠ 2 := by omega
            obtain ⟨v, hv⟩ := hg.one (by omega)
            have hh := ((wp_value hv).1 hw).2
            obtain ⟨hG, hwj2⟩ := (jwant _ _ _ (wj' a v rfl)).1 hh
            rw [gj] at hG
            obtain ⟨u, hu⟩ := hG.one (by omega)
            have hK := ((wp_value (by rw [ej]; exact hu)).1 hwj2).2
            refine (jwant _ _ _ hwj).2 ⟨hG, (wp_value hu).2 ⟨fun e => absurd e hj2, (iwant _ _ _ (wi' a u rfl)).2 ⟨by rw [gi]; exact hg, (wp_value (by rw [ei]; exact hv)).2 ⟨fun e => absurd e hi2, ?_⟩⟩⟩⟩
            rw [← pc]; exact hK
          · -- i reads what j leaves alone
            rw [hi1] at hg
            obtain ⟨hs, v, hv⟩ := hg
            have hh := ((wp_value (hv w hs)).1 hw).2
            rw [jput] at hh
            refine jkeep _ _ a w (fun c u w' hc he hS hk => ?_) hh
            have hs' := hS hj1 hwj
            refine (iwant _ _ _ (wi' c u hc)).2 ⟨?_, (wp_value (by rw [ei, he]; exact hv w' hs')).2 ⟨fun e => (by rw [hi1] at e; cases e), hk⟩⟩
            rw [gi, hi1]; exact ⟨hs', v, by rw [he]; exact hv⟩
          · -- j reads what i leaves alone
            obtain ⟨b, u0, w0, hb1, hb2, hb3⟩ := wp_some hp hw
            have hG := ((jwant _ _ _ (wj' b u0 hb2)).1 hb1.2).1
            rw [gj, hj1] at hG
            obtain ⟨_, v, hv⟩ := hG
            rw [hb3] at hv
            have hs : S w := by rw [hi1] at hg; exact hg
            refine (jwant _ _ _ hwj).2 ⟨by rw [hj1]; exact ⟨hs, v, hv⟩, (wp_value (hv w hs)).2 ⟨fun e => (by rw [hj1] at e; cases e), ?_⟩⟩
            rw [iput]
            refine (iwant _ _ _ hwi).2 ⟨hg, wp_keep (fun c u w' hc he hk => ⟨hk.1, ?_⟩) hw⟩
            have := ((jwant _ _ _ (wj' c u hc)).1 hk.2).2
            exact ((wp_value (by rw [ej, he]; exact hv w' (hk.1 hi1))).1 this).2

def anyH (P : Program) (S : World → Prop) (kind : Nat → Nat) (ops : Array Oper) (Q : Exit → Act → World → Prop) : Nat → Array Bool → Act → World → Prop
  | 0, listed, a, w => Region.ready .any ops listed = [] ∧ Q .normal a w
  | fuel + 1, listed, a, w =>
    (Region.ready .any ops listed = [] → Q .normal a w) ∧
    ∀ i ∈ Region.ready .any ops listed, opH P S kind ops Q i (anyH P S kind ops Q fuel (listed.setIfInBounds i true)) a w

theorem anyH_any {kind : Nat → Nat} : ∀ (fuel : Nat) (listed : Array Bool) (a : Act) (w : World), anyH P S kind ops Q fuel listed a w → wpAny P .any ops Q fuel listed a w
  | 0, _, _, _, h => h
  | f + 1, _, _, _, h => ⟨h.1, fun i hi => wpOp_mono (fun a w h' => anyH_any f _ a w h') (opH_wpOp (h.2 i hi))⟩

theorem firstH {kind : Nat → Nat} {i : Nat} {oi : Oper} (hi : ops[i]? = some oi) (hp : Plain Q) (hsel : ∀ (j : Nat) (o : Oper) cs b, ops[j]? = some o → o.op ≠ .select cs b) :
    ∀ (fuel : Nat) (listed : Array Bool) (a : Act) (w : World), Closed ops listed →
      (∀ j oj, ops[j]? = some oj → j ≠ i → listed.getD j true = false → ¬ Anc ops j i → oi.apart ops oj = true ∧ Allowed (kind i) (kind j)) →
      i ∈ Region.ready .any ops listed → opH P S kind ops Q i (anyH P S kind ops Q fuel (listed.setIfInBounds i true)) a w → anyH P S kind ops Q (fuel + 1) listed a w := by
  intro fuel
  induction fuel with
  | zero =>
    intro listed a w hc hfree hr H
    refine ⟨fun h => (by rw [h] at hr; cases hr), fun j hj => ?_⟩
    by_cases hji : j = i
    · subst hji; exact H
    · exfalso
      have hjr : ∀ a w, ¬ anyH P S kind ops Q 0 (listed.setIfInBounds i true) a w := fun a w h => by
        have := ready_mono hj hji
        rw [h.1] at this; cases this
      unfold opH at H
      simp only [hi] at H
      split at H
      · obtain ⟨b, u, w', hk, _⟩ := wp_some hp H.2
        exact hjr _ _ hk.2
      · exact hjr _ _ H
  | succ f ih =>
    intro listed a w hc hfree hr H
    have hun := (mem_ready.1 hr).1
    refine ⟨fun h => (by rw [h] at hr; cases hr), fun j hj => ?_⟩
    by_cases hji : j = i
    · subst hji; exact H
    · obtain ⟨hjun, oj, hoj, _⟩ := mem_ready.1 hj
      have hno : ¬ Anc ops j i := fun ha => by
        have h1 := ready_anc hc hj ha
        rw [getD_get hun] at h1; cases h1
      obtain ⟨hap, hk⟩ := hfree j oj hoj hji hjun hno
      have H1 : opH P S kind ops Q i (opH P S kind ops Q j (anyH P S kind ops Q f ((listed.setIfInBounds i true).setIfInBounds j true))) a w :=
        opH_mono (fun a w h => h.2 j (ready_mono hj hji)) H
      have H2 := opH_swap hi hoj hp (fun cs b => hsel i oi cs b hi) (fun cs b => hsel j oj cs b hoj) hap hk H1
      refine opH_mono (fun a' w' h' => ih (listed.setIfInBounds j true) a' w' (hc.set hj) ?_ (ready_mono hr (Ne.symm hji)) ?_) H2
      · intro k ok hk hki hun2 hno2
        refine hfree k ok hk hki ?_ hno2
        by_cases hjk : j = k
        · subst hjk; exact hjun
        · rw [getD_set_ne true hjk] at hun2; exact hun2
      · rw [Array.setIfInBounds_comm _ _ hji]; exact h'

def lexH (P : Program) (S : World → Prop) (kind : Nat → Nat) (ops : Array Oper) (Q : Exit → Act → World → Prop) : List Oper → Nat → Act → World → Prop
  | [], _, a, w => Q .normal a w
  | _ :: rest, k, a, w => opH P S kind ops Q k (lexH P S kind ops Q rest (k + 1)) a w

structure FineH (kind : Nat → Nat) (ops : Array Oper) : Prop where
  sel : ∀ (j : Nat) (o : Oper) cs b, ops[j]? = some o → o.op ≠ .select cs b
  back : ∀ (j : Nat) (o : Oper), ops[j]? = some o → ∀ e ∈ o.after, Region.binds .any e = true → e.on < j
  free : ∀ (i j : Nat) (oi oj : Oper), i < j → ops[i]? = some oi → ops[j]? = some oj → ¬ Anc ops j i → oi.apart ops oj = true ∧ Allowed (kind i) (kind j)

theorem any_of_lexH {kind : Nat → Nat} (hp : Plain Q) (hf : FineH kind ops) : ∀ (l : List Oper) (k : Nat) (listed : Array Bool) (a : Act) (w : World), (∀ j, l[j]? = ops[k + j]?) →
    listed.size = ops.size → (∀ j, j < k → listed.getD j false = true) → (∀ j, k ≤ j → j < ops.size → listed.getD j true = false) →
    lexH P S kind ops Q l k a w → anyH P S kind ops Q l.length listed a w
  | [], k, listed, a, w, hl, hs, h1, h2, h => by
    refine ⟨?_, h⟩
    refine List.eq_nil_iff_forall_not_mem.2 fun j hj => ?_
    obtain ⟨hun, oj, hoj, _⟩ := mem_ready.1 hj
    have hjs : j < ops.size := (Array.getElem?_eq_some_iff.1 hoj).1
    rcases Nat.lt_or_ge j k with hjk | hjk
    · have := h1 j hjk; rw [getD_get hun] at this; cases this
    · have := hl (j - k)
      rw [show k + (j - k) = j by omega, hoj] at this
      simp at this
  | o :: l, k, listed, a, w, hl, hs, h1, h2, h => by
    have h0 : ops[k]? = some o := by simpa using (hl 0).symm
    have hks : k < ops.size := (Array.getElem?_eq_some_iff.1 h0).1
    have hr : k ∈ Region.ready .any ops listed := mem_ready.2 ⟨h2 k (Nat.le_refl _) hks, o, h0, fun e he hb => h1 _ (hf.back k o h0 e he hb)⟩
    have hc : Closed ops listed := by
      intro j oj hj hlj e he hb
      rcases Nat.lt_or_ge j k with hjk | hjk
      · exact h1 _ (by have := hf.back j oj hj e he hb; omega)
      · have hjs : j < ops.size := (Array.getElem?_eq_some_iff.1 hj).1
        rw [getD_get (h2 j hjk hjs)] at hlj; cases hlj
    refine firstH h0 hp hf.sel l.length listed a w hc (fun j oj hj hjk hun hno => ?_) hr ?_
    · have hjs : j < ops.size := (Array.getElem?_eq_some_iff.1 hj).1
      rcases Nat.lt_or_ge j k with hlt | hge
      · have := h1 j hlt; rw [getD_get hun] at this; cases this
      · exact hf.free k j o oj (by omega) h0 hj hno
    · refine opH_mono (fun a' w' h' => any_of_lexH hp hf l (k + 1) (listed.setIfInBounds k true) a' w' (fun j => by have := hl (j + 1); simpa [Nat.add_assoc, Nat.add_comm 1 j] using this) (by simp [hs]) ?_ ?_ h') h
      · intro j hj
        by_cases hjk : k = j
        · subst hjk; rw [Array.getD_eq_getD_getElem?]; simp [hs, hks]
        · rw [getD_set_ne false hjk]; exact h1 j (by omega)
      · intro j hj hjs
        rw [getD_set_ne true (by omega)]; exact h2 j (by omega) hjs
end

/-! What reads old memory reads the same. -/

def IsC (w : World) (b : Nat) : Prop := ∃ c T f, w.heap[b]? = some (.cells c T f)
theorem isC_of_cell {w : World} {a : Addr} {v : Value} (h : w.cell? a = some v) : IsC w a.block := by
  unfold World.cell? at h
  split at h
  · rename_i c T f he; exact ⟨c, T, f, he⟩
  · cases h
theorem isC_of_blk {w : World} {b : Nat} {T : TypeId} {cs : List Value} (h : Blk w b T cs) : IsC w b := ⟨_, _, _, h⟩
theorem IsC.drew {w : World} {b : Nat} (h : IsC w b) : IsC w.drew b := h
theorem IsC.alloc {w : World} {b : Nat} (h : IsC w b) (o : Obj) : IsC (w.alloc o) b := by
  obtain ⟨c, T, f, h⟩ := h
  exact ⟨c, T, f, by rw [RowKit.Below.heap_alloc _ _ _ (lt_of_some h)]; exact h⟩
theorem IsC.new (w : World) (c : Array Value) (T : TypeId) (f : Nat × Nat) : IsC (w.alloc (.cells c T f)) w.heap.size := ⟨c, T, f, by show (w.heap.push _)[w.heap.size]? = _; simp⟩
theorem IsC.mod {S : List Nat} {w w' : World} {b : Nat} (h : IsC w b) (hm : Mod S w w') (hn : b ∉ S) : IsC w' b := by
  obtain ⟨c, T, f, h⟩ := h; exact ⟨c, T, f, hm.heap h hn⟩
theorem IsC.set {w : World} {b : Nat} (h : IsC w b) (a : Addr) (v : Value) : IsC (w.setCell a v) b := by
  obtain ⟨c, T, f, h⟩ := h
  by_cases e : a.block = b
  · refine ⟨if a.spot.isSome then c else c.setIfInBounds a.off v, T, f, ?_⟩
    simp only [World.setCell, Array.getElem?_modify, e, h]; simp
  · exact ⟨c, T, f, by rw [RowKit.Below.heap_setCell _ _ _ _ (fun x => e x.symm)]; exact h⟩

section
variable {P : Program}
theorem load_same {w w' w1 : World} {a : Addr} {v : Value} (hc : IsC w a.block) (hs : w'.heap[a.block]? = w.heap[a.block]?) (h : (load a).run P w = .ok v w1) : (load a).run P w' = .ok v w' := by
  have he : w'.cell? a = w.cell? a := World.cell?_of_block (w := w) hs
  simp only [load, Sem.run] at h ⊢
  rw [he]
  cases hv : w.cell? a with
  | some u => rw [hv] at h; injection h with h1 _; rw [h1]
  | none =>
    rw [hv] at h
    obtain ⟨c, T, f, hb⟩ := hc
    simp [World.farLoad, hb] at h
theorem loadCellsFrom_same {w w' : World} {a : Addr} (hc : IsC w a.block) (hs : w'.heap[a.block]? = w.heap[a.block]?) : ∀ (n i : Nat) (acc cs : Array Value) (w1 : World),
    (loadCellsFrom a i n acc).run P w = .ok cs w1 → (loadCellsFrom a i n acc).run P w' = .ok cs w'
  | 0, i, acc, cs, w1, h => by
    unfold loadCellsFrom at *
    have h' : Result.ok acc w = .ok cs w1 := h
    injection h' with h1 _; subst h1; rfl
  | n + 1, i, acc, cs, w1, h => by
    unfold loadCellsFrom at *
    change Sem.run P (Sem.bind (load _) _) _ = _ at h
    change Sem.run P (Sem.bind (load _) _) _ = _
    rw [Sem.run_bind'] at h ⊢
    have hbl : (a.add i).block = a.block := by unfold Addr.add; split <;> rfl
    cases hl : (load (a.add i)).run P w with
    | ok v w2 =>
      rw [load_same (by rw [hbl]; exact hc) (by rw [hbl]; exact hs) hl]
      have := reads_load _ _ _ _ hl
      subst this
      rw [hl] at h
      exact loadCellsFrom_same hc hs n (i + 1) _ cs w1 h
    | halt q w2 => rw [hl] at h; cases h
theorem loadAt_same {w w' w1 : World} {t : TypeId} {a : Addr} {v : Value} (hc : IsC w a.block) (hs : w'.heap[a.block]? = w.heap[a.block]?) (h : (Instr.loadAt t (.pointer (some a))).run P w = .ok v w1) :
    (Instr.loadAt t (.pointer (some a))).run P w' = .ok v w' := by
  have e : ∀ w, (Instr.loadAt t (.pointer (some a))).run P w = (loadVar t a).run P w := fun w => rfl
  rw [e] at h ⊢
  unfold loadVar at *
  change Sem.run P (Sem.bind (isAgg t) _) _ = _ at h
  change Sem.run P (Sem.bind (isAgg t) _) _ = _
  rw [Sem.run_bind'] at h ⊢
  cases hi : (isAgg t).run P w with
  | halt q w2 => rw [hi] at h; cases h
  | ok b w2 =>
    obtain ⟨rfl, hb⟩ := blind_isAgg (P := P) t _ _ _ hi
    rw [hi] at h; rw [hb w']
    simp only [Result.andThen_ok] at h ⊢
    cases b with
    | false => exact load_same hc hs h
    | true =>
      simp only [if_true] at h ⊢
      change Sem.run P (Sem.bind (sizeOf t) _) _ = _ at h
      change Sem.run P (Sem.bind (sizeOf t) _) _ = _
      rw [Sem.run_bind'] at h ⊢
      cases hz : (sizeOf t).run P w2 with
      | halt q w3 => rw [hz] at h; cases h
      | ok n w3 =>
        obtain ⟨rfl, hn⟩ := blind_sizeOf (P := P) t _ _ _ hz
        rw [hz] at h; rw [hn w']
        simp only [Result.andThen_ok] at h ⊢
        change Sem.run P (Sem.bind (loadCells a n) _) _ = _ at h
        change Sem.run P (Sem.bind (loadCells a n) _) _ = _
        rw [Sem.run_bind'] at h ⊢
        cases hl : (loadCells a n).run P w3 with
        | halt q w4 => rw [hl] at h; cases h
        | ok cs w4 =>
          rw [hl] at h
          unfold loadCells at hl ⊢
          rw [loadCellsFrom_same hc hs _ _ _ _ _ hl]
          have h' : Result.ok (Value.agg cs) w4 = .ok v w1 := h
          injection h' with h1 _; subst h1; rfl
theorem blind_forIn {α β : Type} (f : α → β → Sem (ForInStep β)) (h : ∀ a b, Blind P (f a b)) : ∀ (l : List α) (b : β), Blind P (forIn l b f)
  | [], b => by rw [List.forIn_nil]; exact blind_pure _
  | a :: l, b => by
    rw [List.forIn_cons]
    refine blind_bind (h _ _) fun r => ?_
    split
    · exact blind_pure _
    · exact blind_forIn f h l _
theorem bytesToString_same {w w' w1 : World} {a : Addr} {n c : Nat} {v : Value} (hc : n = 0 ∨ (IsC w a.block ∧ w'.heap[a.block]? = w.heap[a.block]?)) (h : (Conv.bytesToString (.slice (some a) n c)).run P w = .ok v w1) :
    (Conv.bytesToString (.slice (some a) n c)).run P w' = .ok v w' := by
  unfold Conv.bytesToString at *
  simp only at h ⊢
  change Sem.run P (Sem.bind (loadCells a n) _) _ = _ at h
  change Sem.run P (Sem.bind (loadCells a n) _) _ = _
  rw [Sem.run_bind'] at h ⊢
  have hl2 : ∀ cs w2, (loadCells a n).run P w = .ok cs w2 → (loadCells a n).run P w' = .ok cs w' := fun cs w2 hl => by
    rcases hc with rfl | ⟨hc, hs⟩
    · have h' : Result.ok #[] w = .ok cs w2 := hl
      injection h' with h1 _; subst h1; rfl
    · unfold loadCells at *; exact loadCellsFrom_same hc hs _ _ _ _ _ hl
  cases hl : (loadCells a n).run P w with
  | halt q w2 => rw [hl] at h; cases h
  | ok cs w2 =>
    rw [hl] at h
    rw [hl2 cs w2 hl]
    simp only [Result.andThen_ok] at h ⊢
    refine (fun (hb : Blind P _) => (hb _ _ _ h).2 w') ?_
    refine blind_bind ?_ fun _ => blind_pure _
    rw [← Array.forIn_toList]
    refine blind_forIn _ (fun c s => ?_) _ _
    split
    · exact blind_bind (blind_pure _) fun _ => blind_pure _
    · exact (noOk_left (noOk_stuck _)).blind
end

/-! What makes memory leaves the old alone. -/

section
variable {P : Program} {α β : Type}
def Grow (P : Program) (s : Sem α) : Prop := ∀ w x w1, s.run P w = .ok x w1 → Mod [] w w1
theorem Reads.grow {s : Sem α} (h : Reads P s) : Grow P s := fun w x w1 e => by obtain rfl := h w x w1 e; exact Mod.refl _ _
theorem grow_bind {s : Sem α} {f : α → Sem β} (h : Grow P s) (g : ∀ a, Grow P (f a)) : Grow P (s >>= f) := fun w x w1 e => by
  change Sem.run P (Sem.bind s f) w = _ at e
  rw [Sem.run_bind'] at e
  cases hs : s.run P w with
  | ok a w' => rw [hs] at e; exact (h _ _ _ hs).trans (g a _ _ _ e)
  | halt q w' => rw [hs] at e; cases e
theorem grow_newObj (o : Obj) : Grow P (newObj o) := fun w x w1 e => by
  have e' : Result.ok w.heap.size { w with heap := w.heap.push o } = .ok x w1 := e
  injection e' with _ h2; subst h2
  exact (Mod.refl [] w).alloc o
theorem grow_choose (q : Question) : Grow P (choose q) := fun w x w1 e => by
  simp only [choose, Sem.run] at e
  split at e
  · injection e with _ h2; subst h2; exact Mod.refl _ _
  · injection e with _ h2; subst h2; exact (Mod.refl [] w).drew
theorem grow_mark (m : Mark) : Grow P (mark m) := fun w x w1 e => by
  simp only [mark, Sem.run] at e
  injection e with _ h2; subst h2; exact Mod.refl _ _
theorem grow_pure (a : α) : Grow P (pure a : Sem α) := (reads_pure a).grow
theorem grow_noOk {s : Sem α} (h : NoOk P s) : Grow P s := h.blind.reads.grow
theorem blind_zeroValue (t : TypeId) : Blind P (zeroValue t) := by
  unfold zeroValue
  refine blind_bind (blind_typeInfo _) fun i => ?_
  split
  · exact blind_pure _
  · exact (noOk_unsupported _).blind
theorem grow_newRow (e : TypeId) (c : Array Value) : Grow P (newRow e c) := by
  unfold newRow; exact grow_bind (grow_newObj _) fun _ => grow_pure _
theorem grow_askRoom (n : Nat) : Grow P (askRoom n) := by
  unfold askRoom
  split
  · exact grow_mark _
  · exact grow_pure _
theorem grow_alloc (e : TypeId) : Grow P (Instr.alloc e true (.tuple #[])) := by
  unfold Instr.alloc
  refine grow_bind (blind_zeroValue _).reads.grow fun z => ?_
  exact grow_bind (by unfold newVar; exact grow_newRow _ _) fun _ => grow_pure _
theorem grow_box (e : TypeId) (v : Value) : Grow P (Instr.box e v) := by
  unfold Instr.box newVar
  exact grow_bind (grow_newRow _ _) fun _ => grow_pure _
theorem grow_buildSlice (t : TypeId) (n : Nat) (ps : Array (Nat × Value)) : Grow P (Instr.buildSlice t n ps) := by
  unfold Instr.buildSlice
  repeat' (first | exact grow_newRow _ _ | exact grow_pure _ | exact grow_noOk (noOk_stuck _) | exact grow_noOk (noOk_unsupported _) | exact (blind_underlying _).reads.grow | exact (blind_sizeOf _).reads.grow | exact (blind_zeroValue _).reads.grow | refine grow_bind ?_ (fun _ => ?_) | split | dsimp only)
theorem blind_asInt (v : Value) : Blind P (asInt v) := by unfold asInt; exact blind_bind (blind_asIntOf _) fun _ => blind_pure _
theorem grow_makeSlice (t : TypeId) (l c : Value) : Grow P (Instr.makeSlice t l c) := by
  unfold Instr.makeSlice
  repeat' (first | exact grow_newRow _ _ | exact grow_pure _ | exact grow_askRoom _ | exact grow_choose _ | exact grow_noOk (noOk_stuck _) | exact grow_noOk (noOk_unsupported _) | exact grow_noOk (noOk_runtimePanic _) | exact (blind_underlying _).reads.grow | exact (blind_typeInfo _).reads.grow | exact (blind_asInt _).reads.grow | exact (blind_sizeOf _).reads.grow | exact (blind_zeroValue _).reads.grow | refine grow_bind ?_ (fun _ => ?_) | split | dsimp only)

def allocLike : Op → Bool
  | .alloc _ | .box _ _ | .buildSlice _ _ _ | .makeSlice _ _ _ => true
  | _ => false
theorem allocLike_mod {o : Oper} {a : Act} {w w1 : World} {n : Next} (h : allocLike o.op = true) (e : (execOp a.eval o).run P w = .ok n w1) : (∃ v, n = .value v) ∧ Mod [] w w1 := by
  obtain ⟨dst, op, type, pos, after, guard⟩ := o
  unfold execOp at e
  cases op <;> first | (cases h; done) | skip
  case alloc t => obtain ⟨v, rfl, h2⟩ := run_v e; exact ⟨⟨v, rfl⟩, grow_alloc _ _ _ _ h2⟩
  case box t v => obtain ⟨v, rfl, h2⟩ := run_v e; exact ⟨⟨v, rfl⟩, grow_box _ _ _ _ _ h2⟩
  case buildSlice t n ps => obtain ⟨v, rfl, h2⟩ := run_v e; exact ⟨⟨v, rfl⟩, grow_buildSlice _ _ _ _ _ _ h2⟩
  case makeSlice t l c => obtain ⟨v, rfl, h2⟩ := run_v e; exact ⟨⟨v, rfl⟩, grow_makeSlice _ _ _ _ _ _ h2⟩
end

/-! The look, and the walk in pieces. -/

/-- The indices of the operations behind which the walk is cut: the last of each piece. -/
def cutsOf : Nat → List Nat → List Nat
  | _, [] => []
  | k, n :: ns => (k + n - 1) :: cutsOf (k + n) ns

def kindH (P : Program) (l : List Oper) (cuts hs : List Nat) (i : Nat) : Nat :=
  match l[i]? with
  | none => 0
  | some o =>
    match kindOf P o with
    | 0 => 0
    | 1 => if hs.contains i then 1 else 5
    | _ => if allocLike o.op || cuts.contains i then 2 else 4

def allowedB (a b : Nat) : Bool := a == 0 || b == 0 || ((a == 1 || a == 5) && (b == 1 || b == 5)) || (a == 1 && b == 2) || (a == 2 && b == 1)

def freeH (ops : Array Oper) (kind : Nat → Nat) (rows : List Nat) : Nat → List Oper → Bool
  | _, [] => true
  | i, o :: l => ((List.range l.length).all fun d => (rows.getD (i + 1 + d) 0).testBit i || match l[d]? with | some o' => o.apart ops o' && allowedB (kind i) (kind (i + 1 + d)) | none => true) && freeH ops kind rows (i + 1) l

/-- Behind the first operation of kind 4 none leans on S. -/
def tailH (kind : Nat → Nat) (n : Nat) : Bool := (List.range n).all fun i => kind i != 4 || (List.range n).all fun j => decide (j ≤ i) || (kind j != 1 && kind j != 2)

def okH (P : Program) (l : List Oper) (ns hs : List Nat) : Bool :=
  l.all (fun o => noSel o.op) && kept P l &&
  ((List.range l.length).all fun j => match l[j]? with | some o => o.after.toList.all (fun e => !Region.binds .any e || decide (e.on < j)) | none => true) &&
  freeH l.toArray (kindH P l (cutsOf 0 ns) hs) (ancRows l []) 0 l && tailH (kindH P l (cutsOf 0 ns) hs) l.length &&
  ns.all (fun n => decide (0 < n)) && hs.all (fun i => match l[i]? with
    | some o => match o.op with
      | .load _ (.tmp t) | .convert _ _ (.tmp t) => (l.drop i).all fun o' => o'.dst != some t
      | _ => false
    | none => false)

theorem freeH_spec {ops : Array Oper} {kind : Nat → Nat} {rows : List Nat} : ∀ (l : List Oper) (s : Nat), freeH ops kind rows s l = true → ∀ i d oi oj, l[i]? = some oi → l[i + 1 + d]? = some oj →
    (rows.getD (s + i + 1 + d) 0).testBit (s + i) = true ∨ (oi.apart ops oj = true ∧ allowedB (kind (s + i)) (kind (s + i + 1 + d)) = true)
  | [], s, _, i, d, oi, oj, hi, _ => by simp at hi
  | o :: l, s, h, i, d, oi, oj, hi, hj => by
    unfold freeH at h
    simp only [Bool.and_eq_true] at h
    cases i with
    | zero =>
      obtain rfl : o = oi := by simpa using hi
      have hj' : l[d]? = some oj := by simpa [Nat.add_comm] using hj
      have hd : d < l.length := (List.getElem?_eq_some_iff.1 hj').1
      have := List.all_eq_true.1 h.1 d (List.mem_range.2 hd)
      simp only [hj', Bool.or_eq_true, Bool.and_eq_true] at this
      simpa using this
    | succ i =>
      have := freeH_spec l (s + 1) h.2 i d oi oj (by simpa using hi) (by rw [show i + 1 + 1 + d = (i + 1 + d) + 1 by omega] at hj; simpa using hj)
      rw [show s + (i + 1) + 1 + d = s + 1 + i + 1 + d by omega, show s + (i + 1) = s + 1 + i by omega]
      exact this

theorem allowed_of {a b : Nat} (h : allowedB a b = true) : Allowed a b := by
  unfold allowedB at h; unfold Allowed
  simp only [Bool.or_eq_true, Bool.and_eq_true, beq_iff_eq] at h
  omega

/-- What a reader of the list hs looked at lies in old memory that F lets alone. -/
def heldV (F : List Nat) (w : World) : Value → Prop
  | .pointer (some a) => a.block ∉ F ∧ IsC w a.block
  | .slice (some a) n _ => n = 0 ∨ (a.block ∉ F ∧ IsC w a.block)
  | _ => True
def operandOf : Option Oper → Operand
  | some o => match o.op with
    | .load _ x => x
    | .convert _ _ x => x
    | _ => .const undef
  | none => .const undef
def heldAll (F : List Nat) (w : World) (l : List Oper) (tmps : Array Value) : List Nat → Prop
  | [] => True
  | i :: hs => heldV F w (operandAt tmps (operandOf l[i]?)) ∧ heldAll F w l tmps hs
theorem heldAll_mem {F : List Nat} {w : World} {l : List Oper} {tmps : Array Value} : ∀ {hs : List Nat}, heldAll F w l tmps hs → ∀ i ∈ hs, heldV F w (operandAt tmps (operandOf l[i]?))
  | [], _, i, hi => by cases hi
  | j :: hs, h, i, hi => by
    rcases List.mem_cons.1 hi with rfl | hi
    · exact h.1
    · exact heldAll_mem h.2 i hi

def PostH (P : Program) (l : List Oper) (F : List Nat) (w0 : World) (hs : List Nat) (Q : Exit → Act → World → Prop) : Exit → Act → World → Prop
  | .normal, a, w => good P l a.tmps = true ∧ heldAll F w0 l a.tmps hs ∧ Q .normal a w
  | _, _, _ => False
theorem PostH.plain (P : Program) (l : List Oper) (F : List Nat) (w0 : World) (hs : List Nat) (Q : Exit → Act → World → Prop) : Plain (PostH P l F w0 hs Q) := fun e a w h => by cases e <;> first | rfl | exact h.elim

def CutPost (S : World → Prop) (K : Act → World → Prop) : Exit → Act → World → Prop
  | .normal, a, w => S w ∧ K a w
  | _, _, _ => False
theorem CutPost.plain (S : World → Prop) (K : Act → World → Prop) : Plain (CutPost S K) := fun e a w h => by cases e <;> first | rfl | exact h.elim

def wpCut (P : Program) (ops : Array Oper) (S : World → Prop) (Q : Exit → Act → World → Prop) : List Nat → List Oper → Act → World → Prop
  | [], l, a, w => wpList P ops Q l a w
  | n :: ns, l, a, w => wpList P ops (CutPost S (fun a w => wpCut P ops S Q ns (l.drop n) a w)) (l.take n) a w

section
variable {P : Program} {ops : Array Oper} {Q : Exit → Act → World → Prop} {S : World → Prop}

theorem cut_some (hp : Plain Q) : ∀ (ns : List Nat) (l : List Oper) (a : Act) (w : World), wpCut P ops S Q ns l a w →
    ∃ b w', Q .normal b w' ∧ ∀ t, (∀ o ∈ l, o.dst ≠ some t) → b.tmps[t]? = a.tmps[t]?
  | [], l, a, w, h => list_some hp l a w h
  | n :: ns, l, a, w, h => by
    obtain ⟨b, w1, ⟨_, hb⟩, hbt⟩ := list_some (CutPost.plain _ _) _ _ _ h
    obtain ⟨c, w2, hc, hct⟩ := cut_some hp ns _ _ _ hb
    exact ⟨c, w2, hc, fun t ht => (hct t fun o ho => ht o (List.mem_of_mem_drop ho)).trans (hbt t fun o ho => ht o (List.mem_of_mem_take ho))⟩

theorem wp_q {Q0 Q1 : Exit → Act → World → Prop} (hp : Plain Q0) {o : Oper} {a : Act} {w : World} {K : Act → World → Prop} (h : o.wp P a w K Q0) : o.wp P a w K Q1 := by
  unfold Oper.wp at *
  generalize (execOp a.eval o).run P w = r at *
  cases r with
  | ok n w' =>
    cases n <;> simp only [Oper.upon] at h ⊢
    case value u => exact h
    case skip => exact h
    case defer q => exact h
    case enter f args =>
      refine Calls.mono h fun e w'' he => ?_
      cases e with
      | returned u => exact he
      | panicked c => exact (hp.panic he).elim
      | outgrown => exact (hp.out he).elim
    case row r args => exact h
  | halt x w' =>
    cases x <;> simp only [Oper.upon] at h ⊢
    case panic u => exact (hp.panic h).elim

end

section
variable {P : Program} {L : List Oper} {F : List Nat} {w0 : World} {hs cuts : List Nat} {Q : Exit → Act → World → Prop}

theorem blind_convert_tuple {s d e : TypeId} {l : Array Value} (hs : P.underlying s = some (.slice e)) (he : P.underlying e = some (.int .u8)) (hd : P.underlying d = some .string) : Blind P (Go.convert s d (.tuple l)) := by
  unfold Go.convert
  refine blind_underlying_bind fun a ha => blind_underlying_bind fun b hb => ?_
  rw [hs] at ha; rw [hd] at hb
  cases ha; cases hb
  refine blind_underlying_bind fun e' he' => ?_
  rw [he] at he'; cases he'
  exact (noOk_stuck _).blind

/-- What the end of the walk says of one operation. -/
theorem good_of_end {l : List Oper} {k : Nat} {o : Oper} {a : Act} {w : World} (hk : L[k]? = some o) (hl : ∀ o' ∈ o :: l, o' ∈ L) (hdrop : o :: l = L.drop k) (hkept : kept P (o :: l) = true)
    (hsok : k ∈ hs → ∃ t, ((∃ T, o.op = .load T (.tmp t)) ∨ ∃ s d, o.op = .convert s d (.tmp t)) ∧ (L.drop k).all (fun o' => o'.dst != some t) = true)
    {b : Act} {w' : World} (hb : PostH P L F w0 hs Q .normal b w') (hsame : ∀ t, (∀ o' ∈ o :: l, o'.dst ≠ some t) → b.tmps[t]? = a.tmps[t]?)
    (hS : Mod F w0 w ∨ (kindH P L cuts hs k ≠ 1 ∧ kindH P L cuts hs k ≠ 2)) {n : Next} {w1 : World} (he : (execOp a.eval o).run P w = .ok n w1) : GoodH P (Mod F w0) (kindH P L cuts hs k) o a w := by
  obtain ⟨hg, hh, _⟩ := hb
  have hsh : kindOf P o ≤ 1 → ∀ c ∈ checks P o.op, Shaped c.1 (a.eval c.2) := fun hk1 c hc => by
    have hg1 := List.all_eq_true.1 hg o (hl o (by simp))
    unfold kept at hkept
    simp only [Bool.and_eq_true] at hkept
    have hk3 := List.all_eq_true.1 hkept.1 c hc
    simp only [Bool.or_eq_true, decide_eq_true_eq] at hg1
    have hg2 := List.all_eq_true.1 (hg1.resolve_left (by omega)) c hc
    refine shaped_of ?_
    obtain ⟨q, x⟩ := c
    cases x with
    | tmp t =>
      simp only [List.all_eq_true, bne_iff_ne] at hk3
      rw [eval_operandAt (.inl ⟨t, rfl⟩)]
      have := hsame t hk3
      simp only [operandAt] at hg2 ⊢
      rw [← getD_same this]; exact hg2
    | const v => exact hg2
    | global g => simp at hk3; omega
    | func f => simp at hk3; omega
  have hkh : kindH P L cuts hs k = (match kindOf P o with | 0 => 0 | 1 => if hs.contains k then 1 else 5 | _ => if allocLike o.op || cuts.contains k then 2 else 4) := by unfold kindH; rw [hk]
  by_cases h0 : kindOf P o = 0
  · have : kindH P L cuts hs k = 0 := by rw [hkh, h0]; rfl
    rw [this]
    obtain ⟨⟨v, rfl⟩, rfl, hv⟩ := kind0 h0 (hsh (by omega)) _ _ _ he
    exact ⟨v, hv⟩
  · by_cases h1 : kindOf P o = 1
    · obtain ⟨⟨v, rfl⟩, rfl⟩ := kind1 h1 (hsh (by omega)) _ _ _ he
      by_cases hin : hs.contains k = true
      · have h11 : kindH P L cuts hs k = 1 := by rw [hkh, h1]; simp only [hin, if_true]
        rw [h11]
        have hSw : Mod F w0 w1 := hS.resolve_right (by rw [h11]; simp)
        refine ⟨hSw, v, fun w' hw' => ?_⟩
        have hin' : k ∈ hs := by simpa using hin
        obtain ⟨t, hop, hnot⟩ := hsok hin'
        have hval := heldAll_mem hh k hin'
        have hsm : b.tmps[t]? = a.tmps[t]? := hsame t (by
          rw [hdrop]
          simp only [List.all_eq_true, bne_iff_ne] at hnot
          exact hnot)
        have hev : a.eval (.tmp t) = operandAt b.tmps (.tmp t) := by
          rw [eval_operandAt (.inl ⟨t, rfl⟩)]; simp only [operandAt]; rw [getD_same hsm]
        have heq : ∀ c, c ∉ F → IsC w0 c → IsC w1 c ∧ w'.heap[c]? = w1.heap[c]? := fun c hc1 hc2 => by
          obtain ⟨x, T, f, hx⟩ := hc2
          refine ⟨⟨x, T, f, hSw.heap hx hc1⟩, ?_⟩
          rw [hSw.heap hx hc1, hw'.heap hx hc1]
        rw [hk] at hval
        obtain ⟨dst, op, type, pos, after, guard⟩ := o
        rcases hop with ⟨T, hop⟩ | ⟨s, d, hop⟩
        · simp only at hop
          subst hop
          simp only [operandOf] at hval
          rw [← hev] at hval
          have e2 : ∀ w, Sem.run P (execOp a.eval ⟨dst, .load T (.tmp t), type, pos, after, guard⟩) w = Sem.run P (do pure (Next.value (← Instr.loadAt T (a.eval (.tmp t)))) : Sem Next) w := fun w => rfl
          rw [e2] at he ⊢
          obtain ⟨u, hu, hr⟩ := run_v he
          injection hu with hu
          subst hu
          refine v_run ?_
          generalize a.eval (.tmp t) = x at hr hval ⊢
          have stuckNo : ∀ {x : Value}, (∀ a, x ≠ .pointer (some a)) → (Instr.loadAt T x).run P w1 = .ok v w1 → False := fun {x} hx hr => by
            have hn : NoOk P (Instr.loadAt T x) := by
              unfold Instr.loadAt
              refine noOk_left ?_
              unfold Instr.sureAddr
              split
              · rename_i ad; exact absurd rfl (hx ad)
              · exact noOk_stuck _
            exact hn _ _ _ hr
          cases x with
          | pointer q => cases q with
            | none => exact (stuckNo (by simp) hr).elim
            | some ad =>
              obtain ⟨hc, hh⟩ := heq _ hval.1 hval.2
              exact loadAt_same hc hh hr
          | _ => exact (stuckNo (by simp) hr).elim
        · simp only at hop
          subst hop
          simp only [operandOf] at hval
          rw [← hev] at hval
          have h1' := h1
          unfold kindOf at h1
          simp only at h1
          split at h1
          · cases h1
          split at h1
          case isFalse => cases h1
          rename_i hb2
          simp only [Bool.and_eq_true, decide_eq_true_eq] at hb2
          obtain ⟨e, hs1, he1⟩ := bytesT_of hb2.1
          have hd1 := cls3 hb2.2
          have h5 : cls P s = 5 := by unfold cls; rw [hs1]
          have hx := hsh (by rw [h1']; exact Nat.le_refl 1) (cls P s, .tmp t) (by simp [checks])
          rw [h5] at hx
          have e2 : ∀ w, Sem.run P (execOp a.eval ⟨dst, .convert s d (.tmp t), type, pos, after, guard⟩) w = Sem.run P (do pure (Next.value (← Go.convert s d (a.eval (.tmp t)))) : Sem Next) w := fun w => rfl
          rw [e2] at he ⊢
          obtain ⟨u, hu, hr⟩ := run_v he
          injection hu with hu
          subst hu
          refine v_run ?_
          simp only at hx
          generalize a.eval (.tmp t) = x at hr hval hx ⊢
          cases hx with
          | slice ad n c =>
            rw [run_convert_bytes_string _ s d e _ n c hs1 he1 hd1] at hr ⊢
            cases ad with
            | none =>
              have h' : Result.ok (Value.string .empty) w1 = .ok v w1 := hr
              injection h' with h1 _; subst h1; rfl
            | some ad =>
              refine bytesToString_same ?_ hr
              rcases hval with h | h
              · exact .inl h
              · exact .inr (heq _ h.1 h.2)
          | none c l => exact ((blind_convert_tuple hs1 he1 hd1) _ _ _ hr).2 w'
      · have h15 : kindH P L cuts hs k = 5 := by rw [hkh, h1]; simp only [hin]; rfl
        rw [h15]; exact ⟨v, he⟩
    · have hge : kindH P L cuts hs k = if allocLike o.op || cuts.contains k then 2 else 4 := by
        rw [hkh]; split <;> first | contradiction | rfl
      rw [hge] at hS ⊢
      split
      · rename_i hc; rw [if_pos hc] at hS
        exact hS.resolve_right (by simp)
      · trivial

theorem cuts_ge : ∀ (ns : List Nat) (k : Nat), (∀ n ∈ ns, 0 < n) → ∀ i ∈ cutsOf k ns, k ≤ i
  | [], _, _, i, hi => by cases hi
  | n :: ns, k, h, i, hi => by
    rcases List.mem_cons.1 hi with rfl | hi
    · have := h n (by simp); omega
    · have := cuts_ge ns (k + n) (fun m hm => h m (List.mem_cons_of_mem _ hm)) i hi; omega

/-- One piece of the walk. -/
theorem lex_seg {rest : List Oper} {ns : List Nat} (hsok : ∀ k ∈ hs, ∃ t, (∃ o, L[k]? = some o ∧ ((∃ T, o.op = .load T (.tmp t)) ∨ ∃ s d, o.op = .convert s d (.tmp t))) ∧ (L.drop k).all (fun o' => o'.dst != some t) = true)
    (htail : ∀ i j, i < L.length → j < L.length → i < j → kindH P L cuts hs i = 4 → kindH P L cuts hs j ≠ 1 ∧ kindH P L cuts hs j ≠ 2)
    (S' : Bool)
    (hfin : ∀ seg a w, wpList P L.toArray (if S' then CutPost (Mod F w0) (fun a w => wpCut P L.toArray (Mod F w0) (PostH P L F w0 hs Q) ns rest a w) else PostH P L F w0 hs Q) seg a w →
      ∃ b w', PostH P L F w0 hs Q .normal b w' ∧ ∀ t, (∀ o ∈ seg ++ rest, o.dst ≠ some t) → b.tmps[t]? = a.tmps[t]?)
    (hplain : Plain (if S' then CutPost (Mod F w0) (fun a w => wpCut P L.toArray (Mod F w0) (PostH P L F w0 hs Q) ns rest a w) else PostH P L F w0 hs Q)) :
    ∀ (seg : List Oper) (k : Nat) (a : Act) (w : World), seg ++ rest = L.drop k → kept P (seg ++ rest) = true →
      (∀ i ∈ cuts, k ≤ i → i < k + seg.length → S' = true ∧ i + 1 = k + seg.length) →
      (∀ a w, (if S' then CutPost (Mod F w0) (fun a w => wpCut P L.toArray (Mod F w0) (PostH P L F w0 hs Q) ns rest a w) else PostH P L F w0 hs Q) .normal a w → lexH P (Mod F w0) (kindH P L cuts hs) L.toArray (PostH P L F w0 hs Q) rest (k + seg.length) a w) →
      (Mod F w0 w ∨ ∀ j, k ≤ j → j < L.length → kindH P L cuts hs j ≠ 1 ∧ kindH P L cuts hs j ≠ 2) →
      wpList P L.toArray (if S' then CutPost (Mod F w0) (fun a w => wpCut P L.toArray (Mod F w0) (PostH P L F w0 hs Q) ns rest a w) else PostH P L F w0 hs Q) seg a w →
      lexH P (Mod F w0) (kindH P L cuts hs) L.toArray (PostH P L F w0 hs Q) (seg ++ rest) k a w
  | [], k, a, w, _, _, _, hrest, _, h => by
    rw [List.nil_append]
    have := hrest a w h
    simpa using this
  | o :: seg, k, a, w, hd, hk, hcut, hrest, hS, h => by
    have hk0 : L[k]? = some o := by
      have : (L.drop k)[0]? = some o := by rw [← hd]; rfl
      simpa using this
    have hkl : k < L.length := (List.getElem?_eq_some_iff.1 hk0).1
    have hd' : seg ++ rest = L.drop (k + 1) := by
      have := congrArg List.tail hd
      simpa using this
    have hk' : kept P (seg ++ rest) = true := by
      rw [List.cons_append] at hk
      unfold kept at hk
      simp only [Bool.and_eq_true] at hk
      exact hk.2
    obtain ⟨b, wb, hb, hbs⟩ := hfin (o :: seg) a w h
    have ih : ∀ a w, (Mod F w0 w ∨ ∀ j, k + 1 ≤ j → j < L.length → kindH P L cuts hs j ≠ 1 ∧ kindH P L cuts hs j ≠ 2) → wpList P L.toArray _ seg a w → lexH P (Mod F w0) (kindH P L cuts hs) L.toArray (PostH P L F w0 hs Q) (seg ++ rest) (k + 1) a w := fun a w hS h =>
      lex_seg hsok htail S' hfin hplain seg (k + 1) a w hd' hk' (fun i hi h1 h2 => by have := hcut i hi (by omega) (by simp; omega); simp at this; exact ⟨this.1, by omega⟩) (fun a w hp => by have := hrest a w hp; rw [show k + (o :: seg).length = k + 1 + seg.length by simp; omega] at this; exact this) hS h
    show opH P (Mod F w0) (kindH P L cuts hs) L.toArray (PostH P L F w0 hs Q) k (lexH P (Mod F w0) (kindH P L cuts hs) L.toArray (PostH P L F w0 hs Q) (seg ++ rest) (k + 1)) a w
    unfold opH
    rw [show L.toArray[k]? = some o by simpa using hk0]
    unfold wpList at h
    simp only
    split
    · rename_i hw
      rw [if_pos hw] at h
      have h := h.resolve_right fun q => hplain.out q.2
      obtain ⟨n, w1, he⟩ := wp_ok hplain h
      have hS1 : Mod F w0 w ∨ (kindH P L cuts hs k ≠ 1 ∧ kindH P L cuts hs k ≠ 2) := hS.imp id fun f => f k (Nat.le_refl _) hkl
      have hg := good_of_end (cuts := cuts) hk0 (fun o' ho' => by
          have : o' ∈ L.drop k := by rw [← hd]; exact ho'
          exact List.mem_of_mem_drop this) hd hk (fun hin => by
          obtain ⟨t, ⟨o2, ho2, hop⟩, hall⟩ := hsok k hin
          rw [hk0] at ho2; cases ho2
          exact ⟨t, hop, hall⟩) hb (fun t ht => hbs t ht) hS1 he
      refine ⟨hg, wp_q hplain ?_⟩
      -- what becomes of S
      have hkh : kindH P L cuts hs k = (match kindOf P o with | 0 => 0 | 1 => if hs.contains k then 1 else 5 | _ => if allocLike o.op || cuts.contains k then 2 else 4) := by unfold kindH; rw [hk0]
      have hval : (kindH P L cuts hs k = 0 ∨ kindH P L cuts hs k = 1 ∨ kindH P L cuts hs k = 5) → ∀ Q1, o.wp P a w (KK (Mod F w0) (kindH P L cuts hs k) (lexH P (Mod F w0) (kindH P L cuts hs) L.toArray (PostH P L F w0 hs Q) (seg ++ rest) (k + 1))) Q1 := fun h015 Q1 => by
        obtain ⟨v, hv⟩ := hg.one h015
        have hK := (wp_value hv).1 h
        exact (wp_value hv).2 ⟨fun e => by omega, ih _ _ (hS.imp id fun f j hj => f j (by omega)) hK⟩
      by_cases h4 : kindH P L cuts hs k = 4
      · exact Oper.wp_mono (fun a' w' hK => ⟨fun e => by omega, ih _ _ (.inr fun j hj hjl => htail k j hkl hjl (by omega) h4) hK⟩) h
      · by_cases h2 : kindH P L cuts hs k = 2
        · have hSw : Mod F w0 w := by rw [h2] at hg; exact hg
          by_cases hal : allocLike o.op = true
          · obtain ⟨⟨v, rfl⟩, hm⟩ := allocLike_mod hal he
            have hS2 : Mod F w0 w1 := hSw.trans (hm.mono (by simp))
            unfold Oper.wp at h ⊢
            rw [he] at h ⊢
            exact ⟨fun _ => hS2, ih _ _ (.inl hS2) h⟩
          · -- a cut: the last of its piece
            have hin : k ∈ cuts := by
              rw [hkh] at h2
              split at h2
              · cases h2
              · split at h2 <;> cases h2
              · split at h2
                · rename_i hc; simpa [hal] using hc
                · cases h2
            obtain ⟨hS', hlast⟩ := hcut k hin (Nat.le_refl _) (by simp)
            have hseg : seg = [] := List.eq_nil_of_length_eq_zero (by rw [List.length_cons] at hlast; omega)
            subst hseg
            refine Oper.wp_mono (fun a' w' hK => ?_) h
            have hc : CutPost (Mod F w0) (fun a w => wpCut P L.toArray (Mod F w0) (PostH P L F w0 hs Q) ns rest a w) .normal a' w' := by
              subst hS'; exact hK
            exact ⟨fun _ => hc.1, ih _ _ (.inl hc.1) hK⟩
        · refine hval ?_ _
          rw [hkh] at h4 h2 ⊢
          split at h4
          · exact .inl rfl
          · split <;> simp
          · split at h4 <;> split at h2 <;> simp_all
    · rename_i hw
      rw [if_neg hw] at h
      exact ih _ _ (hS.imp id fun f j hj => f j (by omega)) h

theorem kept_drop : ∀ (n : Nat) (l : List Oper), kept P l = true → kept P (l.drop n) = true
  | 0, l, h => h
  | n + 1, [], h => h
  | n + 1, o :: l, h => by
    unfold kept at h
    simp only [Bool.and_eq_true] at h
    rw [List.drop_succ_cons]; exact kept_drop n l h.2

theorem lex_of_cut (hsok : ∀ k ∈ hs, ∃ t, (∃ o, L[k]? = some o ∧ ((∃ T, o.op = .load T (.tmp t)) ∨ ∃ s d, o.op = .convert s d (.tmp t))) ∧ (L.drop k).all (fun o' => o'.dst != some t) = true)
    (htail : ∀ i j, i < L.length → j < L.length → i < j → kindH P L cuts hs i = 4 → kindH P L cuts hs j ≠ 1 ∧ kindH P L cuts hs j ≠ 2) :
    ∀ (ns : List Nat) (k : Nat) (a : Act) (w : World), (∀ n ∈ ns, 0 < n) → kept P (L.drop k) = true → (∀ i ∈ cuts, k ≤ i → i ∈ cutsOf k ns) →
      (Mod F w0 w ∨ ∀ j, k ≤ j → j < L.length → kindH P L cuts hs j ≠ 1 ∧ kindH P L cuts hs j ≠ 2) →
      wpCut P L.toArray (Mod F w0) (PostH P L F w0 hs Q) ns (L.drop k) a w → lexH P (Mod F w0) (kindH P L cuts hs) L.toArray (PostH P L F w0 hs Q) (L.drop k) k a w
  | [], k, a, w, _, hk, hc, hS, h => by
    have := lex_seg (cuts := cuts) (rest := []) (ns := []) hsok htail false (fun seg a w h => by
        obtain ⟨b, w', hb, hbs⟩ := list_some (PostH.plain P L F w0 hs Q) _ _ _ h
        exact ⟨b, w', hb, fun t ht => hbs t (fun o ho => ht o (by simpa using ho))⟩) (PostH.plain P L F w0 hs Q) (L.drop k) k a w (by simp) (by simpa using hk) (fun i hi h1 _ => by
        have := hc i hi h1; cases this) (fun a w hp => hp) hS h
    simpa using this
  | n :: ns, k, a, w, hn, hk, hc, hS, h => by
    have hn0 := hn n (by simp)
    have e1 : (L.drop k).take n ++ (L.drop k).drop n = L.drop k := List.take_append_drop _ _
    have e2 : (L.drop k).drop n = L.drop (k + n) := by rw [List.drop_drop]
    have := lex_seg (cuts := cuts) (rest := (L.drop k).drop n) (ns := ns) hsok htail true (fun seg a w h => by
        obtain ⟨b, w1, ⟨_, hb⟩, hbt⟩ := list_some (CutPost.plain _ _) _ _ _ h
        obtain ⟨c, w2, hc, hct⟩ := cut_some (PostH.plain P L F w0 hs Q) ns _ _ _ hb
        exact ⟨c, w2, hc, fun t ht => (hct t fun o ho => ht o (List.mem_append_right _ ho)).trans (hbt t fun o ho => ht o (List.mem_append_left _ ho))⟩) (CutPost.plain _ _) ((L.drop k).take n) k a w e1 (by rw [e1]; exact hk) (fun i hi h1 h2 => by
        refine ⟨rfl, ?_⟩
        have hlen : ((L.drop k).take n).length ≤ n := List.length_take_le _ _
        rcases List.mem_cons.1 (hc i hi h1) with h | h
        · by_cases hfull : ((L.drop k).take n).length = n
          · omega
          · -- the piece is short: nothing stands behind it
            omega
        · have := cuts_ge ns (k + n) (fun m hm => hn m (List.mem_cons_of_mem _ hm)) i h; omega) (fun a w hp => by
        obtain ⟨hSw, hp⟩ := hp
        by_cases hfull : ((L.drop k).take n).length = n
        · rw [hfull, e2]
          refine lex_of_cut hsok htail ns (k + n) a w (fun m hm => hn m (List.mem_cons_of_mem _ hm)) (by rw [← e2]; exact kept_drop n _ hk) (fun i hi h1 => ?_) (.inl hSw) (by rw [← e2]; exact hp)
          rcases List.mem_cons.1 (hc i hi (by omega)) with h | h
          · omega
          · exact h
        · have hshort : (L.drop k).length < n := by rw [List.length_take] at hfull; omega
          have hnil : (L.drop k).drop n = [] := List.drop_eq_nil_of_le (by omega)
          have hp' : wpCut P L.toArray (Mod F w0) (PostH P L F w0 hs Q) ns (L.drop (k + n)) a w := by rw [← e2]; exact hp
          have := lex_of_cut hsok htail ns (k + n) a w (fun m hm => hn m (List.mem_cons_of_mem _ hm)) (by rw [← e2]; exact kept_drop n _ hk) (fun i hi h1 => by
            rcases List.mem_cons.1 (hc i hi (by omega)) with h | h
            · omega
            · exact h) (.inl hSw) hp'
          rw [← e2, hnil] at this
          rw [hnil]; exact this) hS h
    rw [e1] at this
    exact this
end

/-- A REGION THAT DRAWS ITS ORDER, reads of old memory beside what makes or writes other memory: the walk in the order of the text, in pieces of ns operations (and a last one), serves every order.
    hs: the reads that stand beside such; F: the old blocks that may be written. -/
theorem held_any {P : Program} {l : List Oper} {Q : Exit → Act → World → Prop} {a : Act} {w : World} (ns hs F : List Nat) (hB : okH P l ns hs = true)
    (h : wpCut P l.toArray (Mod F w.drew) (PostH P l F w.drew hs Q) ns l a w.drew) : wpAny P .any l.toArray Q l.toArray.size (Array.replicate l.toArray.size false) a w.drew := by
  unfold okH at hB
  simp only [Bool.and_eq_true] at hB
  obtain ⟨⟨⟨⟨⟨⟨h1, h2⟩, h3⟩, h4⟩, h5⟩, h6⟩, h7⟩ := hB
  have hback : ∀ (j : Nat) (o : Oper), l.toArray[j]? = some o → ∀ e ∈ o.after, Region.binds .any e = true → e.on < j := by
    intro j o ho e he hb
    have ho' : l[j]? = some o := by simpa using ho
    have hj : j < l.length := (List.getElem?_eq_some_iff.1 ho').1
    have := List.all_eq_true.1 h3 j (List.mem_range.2 hj)
    simp only [ho'] at this
    have := List.all_eq_true.1 this e (Array.mem_toList_iff.2 he)
    simpa [hb] using this
  have hf : FineH (kindH P l (cutsOf 0 ns) hs) l.toArray := by
    refine ⟨?_, hback, ?_⟩
    · intro j o cs b ho he
      have ho' : l[j]? = some o := by simpa using ho
      have := List.all_eq_true.1 h1 o (List.mem_of_getElem? ho')
      rw [he] at this; cases this
    · intro i j oi oj hij hi hj hno
      have hi' : l[i]? = some oi := by simpa using hi
      have hj' : l[j]? = some oj := by simpa using hj
      have hjl : j < l.length := (List.getElem?_eq_some_iff.1 hj').1
      have := freeH_spec l 0 h4 i (j - (i + 1)) oi oj hi' (by rw [show i + 1 + (j - (i + 1)) = j by omega]; exact hj')
      rw [show 0 + i + 1 + (j - (i + 1)) = j by omega, show 0 + i = i by omega] at this
      rcases this with h | h
      · exact absurd (ancRows_anc (ops := l.toArray) l [] (fun j => by simp) hback (fun k i hk => by simp at hk) j i (by simpa using hjl) h) hno
      · exact ⟨h.1, allowed_of h.2⟩
  have hns : ∀ n ∈ ns, 0 < n := fun n hn => by simpa using List.all_eq_true.1 h6 n hn
  have htail : ∀ i j, i < l.length → j < l.length → i < j → kindH P l (cutsOf 0 ns) hs i = 4 → kindH P l (cutsOf 0 ns) hs j ≠ 1 ∧ kindH P l (cutsOf 0 ns) hs j ≠ 2 := by
    intro i j hi hj hij h4'
    have := List.all_eq_true.1 h5 i (List.mem_range.2 hi)
    simp only [h4', bne_self_eq_false, Bool.false_or] at this
    have := List.all_eq_true.1 this j (List.mem_range.2 hj)
    simp only [Bool.or_eq_true, decide_eq_true_eq, Bool.and_eq_true, bne_iff_ne] at this
    rcases this with h | h
    · omega
    · exact h
  have hsok : ∀ k ∈ hs, ∃ t, (∃ o, l[k]? = some o ∧ ((∃ T, o.op = .load T (.tmp t)) ∨ ∃ s d, o.op = .convert s d (.tmp t))) ∧ (l.drop k).all (fun o' => o'.dst != some t) = true := by
    intro k hk
    have := List.all_eq_true.1 h7 k hk
    split at this
    · rename_i o ho
      split at this
      · rename_i T t hop; exact ⟨t, ⟨o, ho, .inl ⟨T, hop⟩⟩, this⟩
      · rename_i s d t hop; exact ⟨t, ⟨o, ho, .inr ⟨s, d, hop⟩⟩, this⟩
      · cases this
    · cases this
  refine wpAny_mono (Q := PostH P l F w.drew hs Q) (fun e a w q => by cases e <;> first | exact q.2.2 | exact q.elim) _ _ _ _ ?_
  have hlex := lex_of_cut (cuts := cutsOf 0 ns) hsok htail ns 0 a w.drew hns h2 (fun i hi _ => hi) (.inl (Mod.refl _ _)) h
  have := any_of_lexH (PostH.plain P l F w.drew hs Q) hf l 0 (Array.replicate l.toArray.size false) a w.drew (by simp) (by simp) (fun j hj => by omega) (fun j _ hj => by simp at hj; simp [hj]) hlex
  have := anyH_any _ _ _ _ this
  simpa using this

theorem wp_region_held {P : Program} {id : Nat} {l : List Oper} {Q : Exit → Act → World → Prop} {a : Act} {w : World} (ns hs F : List Nat) (hm : P.follows .mixedOrders = true) (hB : okH P l ns hs = true)
    (h : wpCut P l.toArray (Mod F w.drew) (PostH P l F w.drew hs Q) ns l a w.drew) : (Code.region id l.toArray true).wp P Q a w :=
  wp_region_any hm (held_any ns hs F hB h)
#print axioms wp_region_held
end Go.YtnhnmpgjbopihaaLex
