/- A region of a statement that draws its order, in which a few operations that no edge orders do touch each other: it is walked once for each order of these alone. For any program. -/
import Derived.Test.YtnhnmpgjbopihaaLex
namespace Go.YtnhnmpgjbopihaaLex
set_option linter.unusedVariables false
set_option linter.unusedSimpArgs false
open Go

/-- One more edge: x ahead of the y-th. -/
def edge (x : Nat) : Nat → List Oper → List Oper
  | _, [] => []
  | 0, o :: l => { o with after := o.after.push ⟨x, .data⟩ } :: l
  | y + 1, o :: l => o :: edge x y l
def edges : List (Nat × Nat) → List Oper → List Oper
  | [], l => l
  | p :: E, l => edges E (edge p.1 p.2 l)
/-- The operations of these numbers, in their order. -/
def pick (l : List Oper) : List Nat → List Oper
  | [] => []
  | k :: L => (l.drop k).take 1 ++ pick l L
/-- x comes ahead of y. -/
def before (x y : Nat) : List Nat → Bool
  | [] => true
  | k :: L => k == x || (k != y && before x y L)

theorem before_or (x y : Nat) : ∀ S, before x y S = true ∨ before y x S = true
  | [] => .inl rfl
  | k :: S => by
    simp only [before, Bool.or_eq_true, beq_iff_eq, Bool.and_eq_true, bne_iff_ne]
    by_cases h : k = x
    · exact .inl (.inl h)
    · by_cases h' : k = y
      · exact .inr (.inl h')
      · rcases before_or x y S with q | q
        · exact .inl (.inr ⟨h', q⟩)
        · exact .inr (.inr ⟨h, q⟩)

structure Edged (E : List (Nat × Nat)) (l l1 : List Oper) : Prop where
  len : l1.length = l.length
  same : ∀ k o1, l1[k]? = some o1 → ∃ o, l[k]? = some o ∧ o1 = { o with after := o1.after } ∧ (∀ e ∈ o.after, e ∈ o1.after) ∧ ∀ e ∈ o1.after, e ∈ o.after ∨ (e.on, k) ∈ E

theorem Edged.refl (l : List Oper) : Edged [] l l := ⟨rfl, fun k o h => ⟨o, h, rfl, fun e h => h, fun e h => .inl h⟩⟩
theorem edged_edge (x : Nat) : ∀ (y : Nat) (l : List Oper), Edged [(x, y)] l (edge x y l)
  | _, [] => by cases ‹Nat› <;> exact ⟨rfl, fun k o h => by simp [edge] at h⟩
  | 0, o :: l => ⟨rfl, fun k o1 h => by
      cases k with
      | zero =>
        obtain rfl : { o with after := o.after.push ⟨x, .data⟩ } = o1 := by simpa [edge] using h
        refine ⟨o, rfl, rfl, fun e h => Array.mem_push.2 (.inl h), fun e h => ?_⟩
        rcases Array.mem_push.1 h with h | rfl
        · exact .inl h
        · exact .inr (by simp)
      | succ k => exact ⟨o1, by simpa [edge] using h, rfl, fun e h => h, fun e h => .inl h⟩⟩
  | y + 1, o :: l => by
    have ih := edged_edge x y l
    refine ⟨by simp [edge, ih.len], fun k o1 h => ?_⟩
    cases k with
    | zero =>
      obtain rfl : o = o1 := by simpa [edge] using h
      exact ⟨o, rfl, rfl, fun e h => h, fun e h => .inl h⟩
    | succ k =>
      obtain ⟨o', h1, h2, h3, h4⟩ := ih.same k o1 (by simpa [edge] using h)
      refine ⟨o', by simpa using h1, h2, h3, fun e h => (h4 e h).imp id fun h => ?_⟩
      simp only [List.mem_singleton, Prod.mk.injEq] at h ⊢
      exact ⟨h.1, by omega⟩
theorem Edged.trans {E F : List (Nat × Nat)} {l l1 l2 : List Oper} (h : Edged E l l1) (g : Edged F l1 l2) : Edged (E ++ F) l l2 := by
  refine ⟨by rw [g.len, h.len], fun k o2 hk => ?_⟩
  obtain ⟨o1, h1, h2, h3, h4⟩ := g.same k o2 hk
  obtain ⟨o, g1, g2, g3, g4⟩ := h.same k o1 h1
  refine ⟨o, g1, by rw [h2, g2], fun e he => h3 e (g3 e he), fun e he => ?_⟩
  rcases h4 e he with q | q
  · rcases g4 e q with q | q
    · exact .inl q
    · exact .inr (List.mem_append_left _ q)
  · exact .inr (List.mem_append_right _ q)
theorem edged_edges : ∀ (E : List (Nat × Nat)) (l : List Oper), Edged E l (edges E l)
  | [], l => Edged.refl l
  | p :: E, l => (edged_edge p.1 p.2 l).trans (edged_edges E _)

section
variable {P : Program} {Q : Exit → Act → World → Prop}

theorem yielded_edged {E : List (Nat × Nat)} {l l1 : List Oper} (h : Edged E l l1) (tmps : Array Value) : yielded l1.toArray tmps = yielded l.toArray tmps := by
  have key : ∀ k : Nat, (l1[k]?).map (·.dst) = (l[k]?).map (·.dst) := fun k => by
    cases h1 : l1[k]? with
    | none =>
      have := List.getElem?_eq_none_iff.1 h1
      rw [h.len] at this
      rw [List.getElem?_eq_none_iff.2 this]
    | some o1 =>
      obtain ⟨o, g1, g2, _⟩ := h.same k o1 h1
      rw [g1, g2]; rfl
  funext k
  have := key k
  unfold yielded
  simp only [List.getElem?_toArray]
  cases h1 : l1[k]? <;> cases h2 : l[k]? <;> rw [h1, h2] at this <;> simp_all

theorem wpOp_edged {E : List (Nat × Nat)} {l l1 : List Oper} (h : Edged E l l1) {k : Nat} {K : Act → World → Prop} {a : Act} {w : World} (hh : wpOp P l1.toArray Q k K a w) : wpOp P l.toArray Q k K a w := by
  unfold wpOp at *
  rw [yielded_edged h] at hh
  simp only [List.getElem?_toArray] at hh ⊢
  cases h1 : l1[k]? with
  | none =>
    have := List.getElem?_eq_none_iff.1 h1
    rw [h.len] at this
    rw [List.getElem?_eq_none_iff.2 this]
    rw [h1] at hh; exact hh
  | some o1 =>
    obtain ⟨o, g1, g2, _⟩ := h.same k o1 h1
    rw [g1]
    rw [h1, g2] at hh
    exact hh

theorem wpOps_of_edged {E : List (Nat × Nat)} {l l1 : List Oper} (h : Edged E l l1) (hne : ∀ p ∈ E, p.1 ≠ p.2) :
    ∀ (fuel t : Nat) (listed : Array Bool) (a : Act) (w : World), listed.size = l.length → wpAny P .any l1.toArray Q fuel listed a w →
      (∀ p ∈ E, listed.getD p.1 false = true ∨ before p.1 p.2 (Region.linearise.go .any l.toArray fuel t listed []) = true) →
      wpOps P l.toArray Q (Region.linearise.go .any l.toArray fuel t listed []) a w := by
  have hsub : ∀ listed k, k ∈ Region.ready .any l1.toArray listed → k ∈ Region.ready .any l.toArray listed := fun listed k hk => by
    obtain ⟨hun, o1, ho1, hall⟩ := mem_ready.1 hk
    obtain ⟨o, g1, g2, g3, g4⟩ := h.same k o1 (by simpa using ho1)
    exact mem_ready.2 ⟨hun, o, by simpa using g1, fun e he hb => hall e (g3 e he) hb⟩
  intro fuel
  induction fuel with
  | zero => intro t listed a w hs hw hb; simpa [Region.linearise.go, wpOps] using hw.2
  | succ fuel ih =>
    intro t listed a w hs hw hb
    obtain ⟨h₀, h₁⟩ := hw
    simp only [Region.linearise.go] at hb ⊢
    change ∀ p ∈ E, listed.getD p.1 false = true ∨ before p.1 p.2 (match (Region.ready .any l.toArray listed)[t % (Region.ready .any l.toArray listed).length]? with
      | some i => Region.linearise.go .any l.toArray fuel (t / (Region.ready .any l.toArray listed).length) (listed.setIfInBounds i true) [i]
      | none => [].reverse) = true at hb
    change wpOps P l.toArray Q (match (Region.ready .any l.toArray listed)[t % (Region.ready .any l.toArray listed).length]? with
      | some i => Region.linearise.go .any l.toArray fuel (t / (Region.ready .any l.toArray listed).length) (listed.setIfInBounds i true) [i]
      | none => [].reverse) a w
    cases hi : (Region.ready .any l.toArray listed)[t % (Region.ready .any l.toArray listed).length]? with
    | none =>
      have hnil : Region.ready .any l.toArray listed = [] := by
        cases hr : Region.ready .any l.toArray listed with
        | nil => rfl
        | cons x xs =>
          rw [hr] at hi
          have hlt : t % (x :: xs).length < (x :: xs).length := Nat.mod_lt _ (by simp)
          simp at hi
          simp at hlt
          omega
      have hnil1 : Region.ready .any l1.toArray listed = [] := List.eq_nil_iff_forall_not_mem.2 fun k hk => by
        have := hsub _ _ hk
        rw [hnil] at this; cases this
      simpa [wpOps] using h₀ hnil1
    | some i =>
      have hr := List.mem_of_getElem? hi
      simp only [hi] at hb
      simp only []
      rw [linearise_go_acc, List.reverse_singleton, List.singleton_append] at hb ⊢
      rw [wpOps_cons]
      obtain ⟨hun, o, ho, hall⟩ := mem_ready.1 hr
      have his : i < l.length := by
        have := (Array.getElem?_eq_some_iff.1 ho).1; simpa using this
      have hr1 : i ∈ Region.ready .any l1.toArray listed := by
        obtain ⟨o1, ho1⟩ : ∃ o1, l1[i]? = some o1 := ⟨_, List.getElem?_eq_getElem (by rw [h.len]; exact his)⟩
        obtain ⟨o', g1, g2, g3, g4⟩ := h.same i o1 ho1
        have : o' = o := by rw [List.getElem?_toArray, g1] at ho; exact Option.some.inj ho
        subst this
        refine mem_ready.2 ⟨hun, o1, by simpa using ho1, fun e he hbd => ?_⟩
        rcases g4 e he with q | q
        · exact hall e q hbd
        · rcases hb _ q with q' | q'
          · exact q'
          · have hn := hne _ q
            simp only [before, Bool.or_eq_true, beq_iff_eq, Bool.and_eq_true, bne_iff_ne] at q'
            rcases q' with q' | q'
            · exact absurd q'.symm hn
            · exact absurd rfl q'.1
      refine wpOp_edged h (wpOp_mono (fun a w h' => ih _ (listed.setIfInBounds i true) a w (by simpa using hs) h' fun p hp => ?_) (h₁ i hr1))
      by_cases hpi : i = p.1
      · left; rw [← hpi, Array.getD_eq_getD_getElem?]; simp [hs, his]
      · rw [getD_set_ne false hpi]
        refine (hb p hp).imp id fun q => ?_
        simp only [before, Bool.or_eq_true, beq_iff_eq, Bool.and_eq_true, bne_iff_ne] at q
        exact (q.resolve_left hpi).2
end

/-! The walk in an order of one's own. -/

def idxS (P : Program) (kind : Oper → Nat) (ops : Array Oper) (Q : Exit → Act → World → Prop) : List Nat → Act → World → Prop
  | [], a, w => Q .normal a w
  | k :: rest, a, w => opS P kind ops Q k (idxS P kind ops Q rest) a w

def ancI (l : List Oper) : List Nat → List Nat → List Nat
  | [], rows => rows
  | k :: L, rows => ancI l L (rows.set k (match l[k]? with | some o => ancStep rows o | none => 0))

def runI (P : Program) (l : List Oper) (rows : List Nat) : List Nat → List Nat → Bool
  | _, [] => true
  | seen, k :: rest =>
    (match l[k]? with
     | some o => !rest.contains k && o.after.toList.all (fun e => !Region.binds .any e || seen.contains e.on) &&
        rest.all fun j => (rows.getD j 0).testBit k || match l[j]? with | some o' => commB P l.toArray o o' | none => false
     | none => false) && runI P l rows (k :: seen) rest

def okI (P : Program) (l : List Oper) (L : List Nat) : Bool :=
  l.all (fun o => noSel o.op) && kept P (pick l L) && decide (L.length = l.length) && (List.range l.length).all (fun j => L.contains j) && runI P l (ancI l L (List.replicate l.length 0)) [] L

section
variable {P : Program} {Q : Exit → Act → World → Prop}

theorem ancStep_bit' {ops : Array Oper} {rows : List Nat} {o : Oper} {i j : Nat} (ho : ops[j]? = some o) (hrows : ∀ k, (rows.getD k 0).testBit i = true → Anc ops k i)
    (h : (ancStep rows o).testBit i = true) : Anc ops j i := by
  unfold ancStep at h
  have key : ∀ (es : List Edge) (m : Nat), (∀ e ∈ es, e ∈ o.after) → (es.foldl (fun m e => if Region.binds .any e then m ||| 2 ^ e.on ||| rows.getD e.on 0 else m) m).testBit i = true → m.testBit i = true ∨ Anc ops j i := by
    intro es
    induction es with
    | nil => intro m _ h; exact .inl h
    | cons e es ih =>
      intro m hes h
      rw [List.foldl_cons] at h
      rcases ih _ (fun e he => hes e (List.mem_cons_of_mem _ he)) h with h | h
      · split at h
        · rename_i hb
          have he := hes e (by simp)
          simp only [Nat.testBit_or, Bool.or_eq_true] at h
          rcases h with (h | h) | h
          · exact .inl h
          · right
            rw [Nat.testBit_two_pow] at h
            exact .one ho he hb (by simpa using h)
          · right
            exact .more ho he hb (hrows _ h)
        · exact .inl h
      · exact .inr h
  rcases key o.after.toList 0 (fun e he => Array.mem_toList_iff.1 he) h with h | h
  · simp at h
  · exact h

theorem ancI_anc {l : List Oper} : ∀ (L rows : List Nat), (∀ k i, (rows.getD k 0).testBit i = true → Anc l.toArray k i) → ∀ k i, ((ancI l L rows).getD k 0).testBit i = true → Anc l.toArray k i
  | [], rows, hr, k, i, h => hr k i h
  | m :: L, rows, hr, k, i, h => by
    refine ancI_anc L _ (fun k i h => ?_) k i h
    by_cases hk : m = k
    · subst hk
      rw [List.getD_eq_getElem?_getD, List.getElem?_set] at h
      split at h
      · split at h
        · simp only [Option.getD_some] at h
          split at h
          · rename_i o ho
            exact ancStep_bit' (ops := l.toArray) (by simpa using ho) (fun k h => hr k i h) h
          · simp at h
        · simp at h
      · rename_i hn; exact absurd rfl hn
    · rw [List.getD_eq_getElem?_getD, List.getElem?_set_ne hk, ← List.getD_eq_getElem?_getD] at h
      exact hr k i h

theorem any_of_idx {l : List Oper} {rows : List Nat} (hp : Plain Q) (hsel : ∀ (j : Nat) (o : Oper) cs b, l.toArray[j]? = some o → o.op ≠ .select cs b)
    (hanc : ∀ k i, (rows.getD k 0).testBit i = true → Anc l.toArray k i) :
    ∀ (L seen : List Nat) (listed : Array Bool) (a : Act) (w : World), listed.size = l.length → (∀ j ∈ seen, listed.getD j false = true) → (∀ j ∈ L, listed.getD j true = false) → (∀ j, j < l.length → listed.getD j true = false → j ∈ L) →
      Closed l.toArray listed → runI P l rows seen L = true → idxS P (kindOf P) l.toArray Q L a w → anyS P (kindOf P) l.toArray Q L.length listed a w
  | [], seen, listed, a, w, hs, h1, h2, h3, hc, hr, h => by
    refine ⟨?_, h⟩
    refine List.eq_nil_iff_forall_not_mem.2 fun j hj => ?_
    obtain ⟨hun, oj, hoj, _⟩ := mem_ready.1 hj
    have hjs : j < l.length := by have := (Array.getElem?_eq_some_iff.1 hoj).1; simpa using this
    cases h3 j hjs hun
  | k :: L, seen, listed, a, w, hs, h1, h2, h3, hc, hr, h => by
    unfold runI at hr
    rw [Bool.and_eq_true] at hr
    obtain ⟨hr1, hr2⟩ := hr
    cases h0 : l[k]? with
    | none => rw [h0] at hr1; cases hr1
    | some o =>
      rw [h0] at hr1
      simp only [Bool.and_eq_true, Bool.not_eq_true'] at hr1
      obtain ⟨⟨hk, hed⟩, hfr⟩ := hr1
      have hkL : k ∉ L := by simpa using hk
      have h0' : l.toArray[k]? = some o := by simpa using h0
      have hks : k < l.length := (List.getElem?_eq_some_iff.1 h0).1
      have hun := h2 k (by simp)
      have hed' : ∀ e ∈ o.after, Region.binds .any e = true → listed.getD e.on false = true := fun e he hb => by
        have := List.all_eq_true.1 hed e (Array.mem_toList_iff.2 he)
        simp only [hb, Bool.not_true, Bool.false_or, List.contains_iff_mem] at this
        exact h1 _ (by simpa using this)
      have hrd : k ∈ Region.ready .any l.toArray listed := mem_ready.2 ⟨hun, o, h0', hed'⟩
      refine first h0' hp hsel L.length listed a w hc (fun j oj hj hjk hjun hno => ?_) hrd ?_
      · have hjs : j < l.length := by have := (Array.getElem?_eq_some_iff.1 hj).1; simpa using this
        have hjL : j ∈ L := by
          rcases List.mem_cons.1 (h3 j hjs hjun) with q | q
          · exact absurd q hjk
          · exact q
        have := List.all_eq_true.1 hfr j hjL
        have hj' : l[j]? = some oj := by simpa using hj
        simp only [hj', Bool.or_eq_true] at this
        rcases this with q | q
        · exact absurd (hanc j k q) hno
        · unfold commB at q
          simp only [Bool.and_eq_true, Bool.or_eq_true, beq_iff_eq, decide_eq_true_eq] at q
          exact ⟨q.1, by rcases q.2 with (h | h) | h <;> simp [h]⟩
      · refine opS_mono (fun a' w' h' => any_of_idx hp hsel hanc L (k :: seen) (listed.setIfInBounds k true) a' w' (by simpa using hs) ?_ ?_ ?_ (hc.set hrd) hr2 h') h
        · intro j hj
          by_cases hjk : k = j
          · subst hjk; rw [Array.getD_eq_getD_getElem?]; simp [hs, hks]
          · rw [getD_set_ne false hjk]
            rcases List.mem_cons.1 hj with q | q
            · exact absurd q.symm hjk
            · exact h1 j q
        · intro j hj
          have hjk : k ≠ j := fun e => hkL (by rw [e]; exact hj)
          rw [getD_set_ne true hjk]; exact h2 j (List.mem_cons_of_mem _ hj)
        · intro j hjs hju
          by_cases hjk : k = j
          · subst hjk
            rw [Array.getD_eq_getD_getElem?] at hju
            simp [hs, hks] at hju
          · rw [getD_set_ne true hjk] at hju
            rcases List.mem_cons.1 (h3 j hjs hju) with q | q
            · exact absurd q.symm hjk
            · exact q

theorem pick_cons (l : List Oper) (k : Nat) (L : List Nat) : pick l (k :: L) = (match l[k]? with | some o => o :: pick l L | none => pick l L) := by
  have : (l.drop k).take 1 = (match l[k]? with | some o => [o] | none => []) := by
    cases h : l[k]? with
    | none => rw [List.drop_eq_nil_of_le (List.getElem?_eq_none_iff.1 h)]; rfl
    | some o =>
      obtain ⟨hk, rfl⟩ := List.getElem?_eq_some_iff.1 h
      rw [List.drop_eq_getElem_cons hk]; rfl
  show (l.drop k).take 1 ++ pick l L = _
  rw [this]
  cases l[k]? <;> rfl

theorem pick_mem {l : List Oper} : ∀ {L : List Nat} {o : Oper}, o ∈ pick l L → o ∈ l
  | [], o, h => by cases h
  | k :: L, o, h => by
    rcases List.mem_append.1 h with h | h
    · exact List.mem_of_mem_drop (List.mem_of_mem_take h)
    · exact pick_mem h

theorem idx_of_list {l : List Oper} : ∀ (L : List Nat) (a : Act) (w : World), kept P (pick l L) = true →
    wpList P l.toArray (Post P l Q) (pick l L) a w → idxS P (kindOf P) l.toArray (Post P l Q) L a w
  | [], _, _, _, h => h
  | k :: L, a, w, hk, h => by
    have hp := Post.plain P l Q
    have hall := h
    show opS P (kindOf P) l.toArray (Post P l Q) k (idxS P (kindOf P) l.toArray (Post P l Q) L) a w
    rw [pick_cons] at h hk
    unfold opS
    cases h0 : l[k]? with
    | none =>
      simp only [h0] at h hk
      simp only [List.getElem?_toArray, h0]
      exact idx_of_list L a w hk h
    | some o =>
      simp only [h0] at h hk
      have hol : o ∈ l := List.mem_of_getElem? h0
      rw [pick_cons, h0] at hall
      unfold wpList at h
      simp only [List.getElem?_toArray, h0]
      unfold kept at hk
      simp only [Bool.and_eq_true] at hk
      have ih : ∀ a w, wpList P l.toArray (Post P l Q) (pick l L) a w → idxS P (kindOf P) l.toArray (Post P l Q) L a w := fun a w h => idx_of_list L a w hk.2 h
      split
      · rename_i hw
        rw [if_pos hw] at h
        rcases h with h | ⟨_, h⟩
        · refine ⟨?_, Oper.wp_mono ih h⟩
          obtain ⟨b, w', ⟨hg, _⟩, hb⟩ := list_some hp (o :: pick l L) a w hall
          have hsh : kindOf P o ≤ 1 → ∀ c ∈ checks P o.op, Shaped c.1 (a.eval c.2) := fun hk1 c hc => by
            have hg1 := List.all_eq_true.1 hg o hol
            have hk3 := List.all_eq_true.1 hk.1 c hc
            simp only [Bool.or_eq_true, decide_eq_true_eq] at hg1
            have hg2 := List.all_eq_true.1 (hg1.resolve_left (by omega)) c hc
            refine shaped_of ?_
            obtain ⟨k, x⟩ := c
            cases x with
            | tmp t =>
              simp only [List.all_eq_true, bne_iff_ne] at hk3
              rw [eval_operandAt (.inl ⟨t, rfl⟩)]
              have := hb t hk3
              simp only [operandAt] at hg2 ⊢
              rw [← getD_same this]; exact hg2
            | const v => exact hg2
            | global g => simp at hk3; omega
            | func f => simp at hk3; omega
          obtain ⟨n, w1, he⟩ := wp_ok hp h
          unfold Good
          split
          · rename_i h0
            obtain ⟨⟨v, rfl⟩, rfl, hv⟩ := kind0 h0 (hsh (by omega)) _ _ _ he
            exact ⟨v, hv⟩
          · rename_i h1
            obtain ⟨⟨v, rfl⟩, rfl⟩ := kind1 h1 (hsh (by omega)) _ _ _ he
            exact ⟨v, he⟩
          · trivial
        · exact (hp.out h).elim
      · rename_i hw
        rw [if_neg hw] at h
        exact ih _ _ h

/-- Edges of one's own, and an order of one's own that keeps them: a walk in this order serves all orders that keep them. -/
theorem any_of_walk {E : List (Nat × Nat)} {l : List Oper} {L : List Nat} {a : Act} {w : World} (hB : okI P (edges E l) L = true)
    (h : wpList P (edges E l).toArray (Post P (edges E l) Q) (pick (edges E l) L) a w) : wpAny P .any (edges E l).toArray Q (edges E l).length (Array.replicate (edges E l).length false) a w := by
  generalize edges E l = l1 at *
  unfold okI at hB
  simp only [Bool.and_eq_true, decide_eq_true_eq] at hB
  obtain ⟨⟨⟨⟨h1, h2⟩, h3⟩, h4⟩, h5⟩ := hB
  have hsel : ∀ (j : Nat) (o : Oper) cs b, l1.toArray[j]? = some o → o.op ≠ .select cs b := fun j o cs b ho he => by
    have := List.all_eq_true.1 h1 o (List.mem_of_getElem? (by simpa using ho))
    rw [he] at this; cases this
  refine wpAny_mono (Q := Post P l1 Q) (fun e a w q => by cases e <;> first | exact q.2 | exact q.elim) _ _ _ _ ?_
  have := any_of_idx (Post.plain P l1 Q) hsel (ancI_anc (l := l1) L (List.replicate l1.length 0) (fun k i hk => by simp [List.getD_eq_getElem?_getD, List.getElem?_replicate] at hk; split at hk <;> simp at hk)) L [] (Array.replicate l1.length false) a w (by simp) (by simp)
    (fun j hj => by
      have hjl : j < l1.length ∨ l1.length ≤ j := by omega
      rcases hjl with q | q
      · simp [q]
      · exfalso
        -- each number of the order is one of an operation
        have : ∀ (L seen : List Nat), runI P l1 (ancI l1 L (List.replicate l1.length 0)) seen L = true → True := fun _ _ _ => trivial
        have key : ∀ (rows : List Nat) (M seen : List Nat), runI P l1 rows seen M = true → ∀ j ∈ M, j < l1.length := by
          intro rows M
          induction M with
          | nil => intro seen _ j hj; cases hj
          | cons k M ih =>
            intro seen hr j hj
            unfold runI at hr
            rw [Bool.and_eq_true] at hr
            rcases List.mem_cons.1 hj with rfl | hj
            · cases h0 : l1[j]? with
              | none => rw [h0] at hr; cases hr.1
              | some o => exact (List.getElem?_eq_some_iff.1 h0).1
            · exact ih _ hr.2 j hj
        have := key _ _ _ h5 j hj
        omega)
    (fun j hj _ => by
      have := List.all_eq_true.1 h4 j (List.mem_range.2 hj)
      simpa using this)
    (fun j oj hj hlj => by
      have hjs : j < l1.length := by have := (Array.getElem?_eq_some_iff.1 hj).1; simpa using this
      simp [Array.getD_eq_getD_getElem?, hjs] at hlj)
    h5 (idx_of_list L a w h2 h)
  have := anyS_any _ _ _ _ this
  rw [h3] at this
  exact this

theorem wp_region_sched {id : Nat} {l : List Oper} {a : Act} {w : World} (hm : P.follows .mixedOrders = true)
    (h : ∀ S : List Nat, ∃ E : List (Nat × Nat), (∀ p ∈ E, p.1 ≠ p.2) ∧ (∀ p ∈ E, before p.1 p.2 S = true) ∧ wpAny P .any (edges E l).toArray Q (edges E l).length (Array.replicate (edges E l).length false) a w.drew) :
    (Code.region id l.toArray true).wp P Q a w :=
  wp_region_draw fun t => by
    simp only [Region.schedule, hm, Bool.true_or, if_true]
    obtain ⟨E, h1, h2, h3⟩ := h (Region.linearise.go .any l.toArray l.toArray.size t (Array.replicate l.toArray.size false) [])
    rw [(edged_edges E l).len] at h3
    exact wpOps_of_edged (edged_edges E l) h1 l.length t _ a _ (by simp) h3 fun p hp => .inr (h2 p hp)

/-- TWO OPERATIONS THAT TOUCH EACH OTHER, x and y: a walk with x ahead (in the order L1), one with y ahead (L2). -/
theorem wp_region_two {id : Nat} {l : List Oper} {a : Act} {w : World} (x y : Nat) (L1 L2 : List Nat) (hm : P.follows .mixedOrders = true) (hxy : (x == y) = false)
    (hB1 : okI P (edges [(x, y)] l) L1 = true) (hB2 : okI P (edges [(y, x)] l) L2 = true)
    (h1 : wpList P (edges [(x, y)] l).toArray (Post P (edges [(x, y)] l) Q) (pick (edges [(x, y)] l) L1) a w.drew)
    (h2 : wpList P (edges [(y, x)] l).toArray (Post P (edges [(y, x)] l) Q) (pick (edges [(y, x)] l) L2) a w.drew) :
    (Code.region id l.toArray true).wp P Q a w := by
  have hne : x ≠ y := by simpa using hxy
  refine wp_region_sched hm fun S => ?_
  rcases before_or x y S with q | q
  · exact ⟨[(x, y)], by simpa using hne, by simpa using q, any_of_walk hB1 h1⟩
  · exact ⟨[(y, x)], by simpa using hne.symm, by simpa using q, any_of_walk hB2 h2⟩

/-- TWO CHAINS, A READ a AHEAD OF A CALL b, A READ c AHEAD OF A BUILDING d: four walks. -/
theorem wp_region_chains {id : Nat} {l : List Oper} {x : Act} {w : World} (a b c d : Nat) (L1 L2 L3 L4 : List Nat) (hm : P.follows .mixedOrders = true) (h1 : (b == c) = false) (h2 : (b == d) = false) (h3 : (a == d) = false)
    (hB1 : okI P (edges [(b, c)] l) L1 = true) (hB2 : okI P (edges [(c, b), (b, d)] l) L2 = true) (hB3 : okI P (edges [(a, d), (d, b)] l) L3 = true) (hB4 : okI P (edges [(d, a)] l) L4 = true)
    (w1 : wpList P (edges [(b, c)] l).toArray (Post P (edges [(b, c)] l) Q) (pick (edges [(b, c)] l) L1) x w.drew)
    (w2 : wpList P (edges [(c, b), (b, d)] l).toArray (Post P (edges [(c, b), (b, d)] l) Q) (pick (edges [(c, b), (b, d)] l) L2) x w.drew)
    (w3 : wpList P (edges [(a, d), (d, b)] l).toArray (Post P (edges [(a, d), (d, b)] l) Q) (pick (edges [(a, d), (d, b)] l) L3) x w.drew)
    (w4 : wpList P (edges [(d, a)] l).toArray (Post P (edges [(d, a)] l) Q) (pick (edges [(d, a)] l) L4) x w.drew) :
    (Code.region id l.toArray true).wp P Q x w := by
  have n1 : b ≠ c := by simpa using h1
  have n2 : b ≠ d := by simpa using h2
  have n3 : a ≠ d := by simpa using h3
  refine wp_region_sched hm fun S => ?_
  rcases before_or b c S with q | q
  · exact ⟨[(b, c)], by simpa using n1, by simpa using q, any_of_walk hB1 w1⟩
  · rcases before_or b d S with q' | q'
    · exact ⟨[(c, b), (b, d)], by simpa using ⟨n1.symm, n2⟩, by simpa using ⟨q, q'⟩, any_of_walk hB2 w2⟩
    · rcases before_or a d S with q'' | q''
      · exact ⟨[(a, d), (d, b)], by simpa using ⟨n3, n2.symm⟩, by simpa using ⟨q'', q'⟩, any_of_walk hB3 w3⟩
      · exact ⟨[(d, a)], by simpa using n3.symm, by simpa using q'', any_of_walk hB4 w4⟩
end
#print axioms wp_region_two
end Go.YtnhnmpgjbopihaaLex
