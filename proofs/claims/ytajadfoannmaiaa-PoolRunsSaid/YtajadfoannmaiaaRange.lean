/- A range over a function (a method's value, too) whose sequence is known: a law of the plain walk. Over any program. -/
import Derived.Test.YtajadfoannmaiaaMem
import Derived.RangeFuncNested
import Derived.RangeFuncBound
import Derived.RangeFuncCalls
import Derived.RangeFuncLeaves
import Derived.OwnWalkIn
import Derived.TacticsInMore
import Derived.LoopNIn
import Derived.LoopIn
namespace Go.YtajadfoannmaiaaRange
set_option linter.unusedVariables false
set_option linter.unusedSimpArgs false
open Go Go.RowKit Go.YtajadfoannmaiaaMem

/-- Blocks from B on, as far as there are any, are as they were. -/
structure Over (B : Nat) (w w' : World) : Prop where
  os : w'.os = w.os
  tape : w'.tape = w.tape
  output : w'.output = w.output
  size : w.heap.size ≤ w'.heap.size
  block : ∀ k, B ≤ k → k < w.heap.size → w'.heap[k]? = w.heap[k]?
/-- Blocks below B are as they were, but for those of S. -/
structure Under (B : Nat) (S : List Nat) (w w' : World) : Prop where
  os : w'.os = w.os
  tape : w'.tape = w.tape
  output : w'.output = w.output
  size : w.heap.size ≤ w'.heap.size
  block : ∀ k, k < B → k ∉ S → w'.heap[k]? = w.heap[k]?
theorem Over.of_mod {B : Nat} {S : List Nat} {w w' : World} (h : Mod S w w') (hs : ∀ x, x ∈ S → x < B) : Over B w w' :=
  ⟨h.os, h.tape, h.output, h.size, fun k h1 h2 => h.block k h2 (fun hm => by have := hs k hm; omega)⟩
theorem Over.refl (B : Nat) (w : World) : Over B w w := ⟨rfl, rfl, rfl, Nat.le_refl _, fun _ _ _ => rfl⟩
theorem Over.trans {B : Nat} {a b c : World} (h : Over B a b) (k : Over B b c) : Over B a c :=
  ⟨k.os.trans h.os, k.tape.trans h.tape, k.output.trans h.output, Nat.le_trans h.size k.size, fun i h1 h2 => (k.block i h1 (Nat.lt_of_lt_of_le h2 h.size)).trans (h.block i h1 h2)⟩
theorem Under.refl (B : Nat) (S : List Nat) (w : World) : Under B S w w := ⟨rfl, rfl, rfl, Nat.le_refl _, fun _ _ _ => rfl⟩
theorem Under.trans {B : Nat} {S : List Nat} {a b c : World} (h : Under B S a b) (k : Under B S b c) : Under B S a c :=
  ⟨k.os.trans h.os, k.tape.trans h.tape, k.output.trans h.output, Nat.le_trans h.size k.size, fun i h1 h2 => (k.block i h1 h2).trans (h.block i h1 h2)⟩
theorem Under.mono {B : Nat} {S S' : List Nat} {w w' : World} (h : Under B S w w') (hs : ∀ x, x ∈ S → x ∈ S') : Under B S' w w' := ⟨h.os, h.tape, h.output, h.size, fun k h1 h2 => h.block k h1 (fun hm => h2 (hs k hm))⟩
theorem Under.of_mod {B : Nat} {S : List Nat} {w w' : World} (h : Mod S w w') (hB : B ≤ w.heap.size) : Under B S w w' :=
  ⟨h.os, h.tape, h.output, h.size, fun k h1 h2 => h.block k (Nat.lt_of_lt_of_le h1 hB) h2⟩
theorem Under.mod {S : List Nat} {w w' : World} (h : Under w.heap.size S w w') : Mod S w w' := ⟨h.os, h.tape, h.output, h.size, fun k h1 h2 => h.block k h1 h2⟩
theorem mod_putObj (w : World) (l : Nat) (o : Obj) : Mod [l] w (w.putObj l o) := ⟨rfl, rfl, rfl, by simp, fun k _ hn => World.putObj_heap_other (by simpa using hn)⟩
theorem under_putObj (w : World) {B l : Nat} (hl : B ≤ l) (o : Obj) : Under B [] w (w.putObj l o) := ⟨rfl, rfl, rfl, by simp, fun k hk _ => World.putObj_heap_other (by omega)⟩

/-- A function tells a sequence to its yield, or stops where that says so. -/
def Iter {α : Type} (P : Program) (gf : Nat) (fi lb : Array Value) (encs : α → Array Value) (xs : List α) (Kp : World → World → Prop) (w : World) : Prop :=
  ∀ (l : Nat) (J Jx : List α → World → Prop) (W : World), Kp w W → (∀ pre A B, J pre A → Mod [] A B → J pre B) → (∀ pre A B, Jx pre A → Mod [] A B → Jx pre B) →
    (∀ pre x W1, J pre W1 → (∃ post, xs = pre ++ x :: post) → YieldAt Fence.wide 2 P l (encs x) W1 fun e W' => (e = .returned (.bool true) ∧ J (pre ++ [x]) W' ∧ Kp W1 W') ∨ (e = .returned (.bool false) ∧ Jx (pre ++ [x]) W')) →
    J [] W → CallsIn Fence.wide 3 P gf (fi ++ #[.func (.yield l) #[] #[]] ++ lb) W fun e W' => (∃ v, e = .returned v) ∧ (J xs W' ∨ ∃ pre x post, xs = pre ++ x :: post ∧ Jx (pre ++ [x]) W')
/-- How a round's body ends. -/
def roundEnd {α : Type} (B : Nat) (Kp : World → World → Prop) (I : List α → World → Prop) (Ix : Code → List α → World → Prop) (xs : List α) (W : World) : Exit → Act → World → Prop
  | .normal, _, W' => Over B W W' ∧ Kp W W' ∧ I xs W'
  | .ret, _, W' => Over B W W' ∧ Ix .ret xs W'
  | .exit id, _, W' => Over B W W' ∧ Ix (.exit id) xs W'
  | .goto t, _, W' => Over B W W' ∧ Ix (.goto t) xs W'
  | .panic _, _, _ => False
  | .outgrown, _, _ => False

/-- The loop's two own blocks are as they were. -/
structure Two (B : Nat) (w w' : World) : Prop where
  os : w'.os = w.os
  tape : w'.tape = w.tape
  output : w'.output = w.output
  size : w.heap.size ≤ w'.heap.size
  block : ∀ k, k = B ∨ k = B + 1 → k < w.heap.size → w'.heap[k]? = w.heap[k]?
theorem Over.two {B : Nat} {w w' : World} (h : Over B w w') : Two B w w' := ⟨h.os, h.tape, h.output, h.size, fun k hk => h.block k (by omega)⟩
theorem Two.of_mod {B : Nat} {S : List Nat} {w w' : World} (h : Mod S w w') (hs : ∀ x, x ∈ S → x ≠ B ∧ x ≠ B + 1) : Two B w w' :=
  ⟨h.os, h.tape, h.output, h.size, fun k h1 h2 => h.block k h2 (fun hm => by have := hs k hm; omega)⟩
/-- How a round's body ends. -/
def roundEnd2 {α : Type} (B : Nat) (Kp : World → World → Prop) (I : List α → World → Prop) (Ix : Code → List α → World → Prop) (xs : List α) (W : World) : Exit → Act → World → Prop
  | .normal, _, W' => Two B W W' ∧ Kp W W' ∧ I xs W'
  | .ret, _, W' => Two B W W' ∧ Ix .ret xs W'
  | .exit id, _, W' => Two B W W' ∧ Ix (.exit id) xs W'
  | .goto t, _, W' => Two B W W' ∧ Ix (.goto t) xs W'
  | .panic _, _, _ => False
  | .outgrown, _, _ => False
theorem roundEnd.two {α : Type} {B : Nat} {Kp : World → World → Prop} {I : List α → World → Prop} {Ix : Code → List α → World → Prop} {xs : List α} {W : World} {e : Exit} {a : Act} {W' : World} (h : roundEnd B Kp I Ix xs W e a W') : roundEnd2 B Kp I Ix xs W e a W' := by
  cases e with
  | normal => exact ⟨h.1.two, h.2⟩
  | ret => exact ⟨h.1.two, h.2⟩
  | exit id => exact ⟨h.1.two, h.2⟩
  | goto t => exact ⟨h.1.two, h.2⟩
  | panic _ => exact h.elim
  | outgrown => exact h.elim

theorem wp_range2 {α : Type} {P : Program} {g : Operand} {ps : Array Tmp} {assign body : Code} {Q : Exit → Act → World → Prop} {a : Act} {w : World} {gf : Nat} {fi lb : Array Value} {encs : α → Array Value} {xs : List α} {Kp : World → World → Prop}
    (hg : a.eval g = .func (.func gf) fi lb) (eg : ∀ args w, (callFunc gf args).run P w = .ok (.enter gf args) w) (hit : Iter P gf fi lb encs xs Kp w)
    (hKt : ∀ {A B C : World}, Kp A B → Kp B C → Kp A C) (hKn : ∀ {A B : World}, Under w.heap.size [] A B → Kp A B) (hps : ∀ x, (encs x).size = ps.size)
    (I : List α → World → Prop) (Ix : Code → List α → World → Prop) (hI : ∀ pre A B, I pre A → Under w.heap.size [] A B → Mod [w.heap.size, w.heap.size + 1] A B → I pre B) (hIx : ∀ c pre A B, Ix c pre A → Under w.heap.size [] A B → Mod [w.heap.size, w.heap.size + 1] A B → Ix c pre B) (h0 : I [] w)
    (hround : ∀ (l : Nat) (pre : List α) (x : α) (W : World), l = w.heap.size + 1 → l < W.heap.size → I pre W → (∃ post, xs = pre ++ x :: post) →
      assign.wpIn (Fence.wide.inRound l) 2 P (Exit.then (fun a1 W1 => Two w.heap.size W W1 ∧ Kp W W1 ∧ ∀ o, body.wpIn (Fence.wide.inRound l) 2 P (roundEnd2 w.heap.size Kp I Ix (pre ++ [x]) (W1.putObj l o)) a1 (W1.putObj l o)) (fun _ _ _ => False))
        { tmps := (ps.zip (encs x)).foldl (fun t (p, v) => t.setIfInBounds p v) a.tmps, defers := [] } W)
    (hdone : ∀ (D : Nat) (W : World), w.heap.size ≤ D → I xs W → W.heap[D]? = some (.deferred (some [])) → Q .normal { a with defers := { target := .collected D, args := #[] } :: a.defers } W)
    (hstop : ∀ (D : Nat) (c : Code) (pre : List α) (x : α) (post : List α) (W : World), w.heap.size ≤ D → xs = pre ++ x :: post → Ix c (pre ++ [x]) W → W.heap[D]? = some (.deferred (some [])) → c.wp P Q { a with defers := { target := .collected D, args := #[] } :: a.defers } W) :
    (Code.rangeFunc g ps assign body).wp P Q a w := by
  rw [← wpIn_wide (n := 4)]
  refine wpIn_rangeFunc ?_
  intro fn hfn
  obtain ⟨rec, hrec⟩ : ∃ rec : LoopState → Option Code → Loop, rec = fun st pe => { state := st, pending := pe, fn, tmps := a.tmps, params := ps, assign, body, defers := w.heap.size } := ⟨_, rfl⟩
  obtain ⟨W1, hW1⟩ : ∃ W1, (w.alloc (.deferred (some []))).alloc (.loop (rec .ready none)) = W1 := ⟨_, rfl⟩
  have hL1 : W1.heap[w.heap.size + 1]? = some (.loop (rec .ready none)) := by
    rw [← hW1]; have := World.alloc_heap_new (w.alloc (.deferred (some []))) (.loop (rec .ready none)); rwa [World.size_alloc] at this
  have hK1 : W1.heap[w.heap.size]? = some (.deferred (some [])) := by
    rw [← hW1]; exact (Below.heap_alloc _ _ _ (by simp)).trans (World.alloc_heap_new w _)
  have hM1 : Mod [] w W1 := by rw [← hW1]; exact ((Mod.refl [] w).alloc _).alloc _
  have hU1 : Under w.heap.size [] w W1 := .of_mod hM1 (Nat.le_refl _)
  refine ⟨w.heap.size + 1, [{ target := .collected w.heap.size, args := #[] }], W1, { target := .fn (.func gf) lb, args := fi ++ #[.func (.yield (w.heap.size + 1)) #[] #[]] }, W1, gf, fi ++ #[.func (.yield (w.heap.size + 1)) #[] #[]] ++ lb, W1, ?_, ?_, ?_, ?_, fun _ => by omega, ?_⟩
  · rw [← hW1, hrec]; exact run_enterLoop_outer _ _ _ _ _
  · simp only [resolve, hg]
    simp [go_sem]
  · intro f' _; exact trivial
  · simp [invoke, go_sem, eg]
  · -- the record's and the block's lot, beside the loop's own word
    have hold : ∀ {A B : World} {k : Nat} {o : Obj}, A.heap[k]? = some o → Mod [] A B → B.heap[k]? = some o := fun h hm => hm.heap h (by simp)
    have hsize : ∀ {A : World} {o : Obj}, A.heap[w.heap.size + 1]? = some o → w.heap.size + 1 < A.heap.size := fun h => (Array.getElem?_eq_some_iff.1 h).1
    refine (hit (w.heap.size + 1)
      (fun pre W => I pre W ∧ W.heap[w.heap.size + 1]? = some (.loop (rec .ready none)) ∧ W.heap[w.heap.size]? = some (.deferred (some [])))
      (fun pre W => ∃ c, Ix c pre W ∧ W.heap[w.heap.size + 1]? = some (.loop (rec .done (some c))) ∧ W.heap[w.heap.size]? = some (.deferred (some [])))
      W1 (hKn hU1)
      (fun pre A B h hm => ⟨hI pre A B h.1 (.of_mod hm (by have := hsize h.2.1; omega)) (hm.mono (by simp)), hold h.2.1 hm, hold h.2.2 hm⟩)
      (fun pre A B h hm => by obtain ⟨c, h1, h2, h3⟩ := h; exact ⟨c, hIx c pre A B h1 (.of_mod hm (by have := hsize h2; omega)) (hm.mono (by simp)), hold h2 hm, hold h3 hm⟩)
      ?_ ⟨hI _ _ _ h0 hU1 (hM1.mono (by simp)), hL1, hK1⟩).mono ?_
    · rintro pre x W ⟨hi, hl, hk⟩ hpost
      have hy := run_yield (P := P) (args := encs x) hl (by rw [hrec]; exact hps x)
      rw [hrec] at hy
      refine ⟨fn, _, assign, body, hy, roundIn_of_wpIn hfn (wpIn_mono (hround (w.heap.size + 1) pre x W rfl (hsize hl) hi hpost) ?_)⟩
      rintro e a1 Wa hp
      cases e with
      | normal =>
        obtain ⟨ho, hka, hb⟩ := hp
        have hla : Wa.heap[w.heap.size + 1]? = some (.loop (rec .ready none)) := (ho.block _ (.inr rfl) (hsize hl)).trans hl
        have hda : Wa.heap[w.heap.size]? = some (.deferred (some [])) := (ho.block _ (.inl rfl) (by have := hsize hl; omega)).trans hk
        refine ⟨_, run_beginRound hla (by rw [hrec]), wpIn_mono (hb _) ?_⟩
        have hl2 : (Wa.putObj (w.heap.size + 1) (.loop { rec .ready none with state := .busy })).heap[w.heap.size + 1]? = some (.loop { rec .ready none with state := .busy }) := World.putObj_heap_same (hsize hla)
        have hd2 : (Wa.putObj (w.heap.size + 1) (.loop { rec .ready none with state := .busy })).heap[w.heap.size]? = some (.deferred (some [])) := (World.putObj_heap_other (by omega)).trans hda
        have hu2 : Under w.heap.size [] Wa (Wa.putObj (w.heap.size + 1) (.loop { rec .ready none with state := .busy })) := under_putObj _ (by omega) _
        generalize Wa.putObj (w.heap.size + 1) (.loop { rec .ready none with state := .busy }) = Wb at *
        have last : ∀ (jump : Option Code) (W3 : World), Two w.heap.size Wb W3 →
            (Instr.endRound (w.heap.size + 1) jump).run P W3 = .ok (.bool jump.isNone) (W3.putObj (w.heap.size + 1) (.loop (rec (if jump.isNone then .ready else .done) jump))) ∧
            (W3.putObj (w.heap.size + 1) (.loop (rec (if jump.isNone then .ready else .done) jump))).heap[w.heap.size + 1]? = some (.loop (rec (if jump.isNone then .ready else .done) jump)) ∧
            (W3.putObj (w.heap.size + 1) (.loop (rec (if jump.isNone then .ready else .done) jump))).heap[w.heap.size]? = some (.deferred (some [])) := fun jump W3 hov => by
          have hl3 := (hov.block _ (.inr rfl) (hsize hl2)).trans hl2
          have hd3 := (hov.block _ (.inl rfl) (by have := hsize hl2; omega)).trans hd2
          have hr := run_endRound (P := P) jump hl3
          rw [hrec] at hr ⊢
          exact ⟨hr, World.putObj_heap_same (hsize hl3), (World.putObj_heap_other (by omega)).trans hd3⟩
        have hup : ∀ (o : Obj) (W3 : World), Under w.heap.size [] W3 (W3.putObj (w.heap.size + 1) o) := fun o W3 => under_putObj _ (by omega) _
        have hmp : ∀ (o : Obj) (W3 : World), Mod [w.heap.size, w.heap.size + 1] W3 (W3.putObj (w.heap.size + 1) o) := fun o W3 => (mod_putObj W3 _ o).mono (by simp)
        rintro e a3 W3 hp
        cases e with
        | normal =>
          obtain ⟨hov, hkp, hi3⟩ := hp
          obtain ⟨hr, hl4, hk4⟩ := last none W3 hov
          exact ⟨_, _, hr, .inl ⟨rfl, ⟨hI _ _ _ hi3 (hup _ _) (hmp _ _), hl4, hk4⟩, hKt hka (hKt (hKn hu2) (hKt hkp (hKn (hup _ _))))⟩⟩
        | ret =>
          obtain ⟨hov, hi3⟩ := hp
          obtain ⟨hr, hl4, hk4⟩ := last (some .ret) W3 hov
          exact ⟨_, _, hr, .inr ⟨rfl, .ret, hIx _ _ _ _ hi3 (hup _ _) (hmp _ _), hl4, hk4⟩⟩
        | exit id =>
          obtain ⟨hov, hi3⟩ := hp
          obtain ⟨hr, hl4, hk4⟩ := last (some (.exit id)) W3 hov
          exact ⟨_, _, hr, .inr ⟨rfl, .exit id, hIx _ _ _ _ hi3 (hup _ _) (hmp _ _), hl4, hk4⟩⟩
        | goto t =>
          obtain ⟨hov, hi3⟩ := hp
          obtain ⟨hr, hl4, hk4⟩ := last (some (.goto t)) W3 hov
          exact ⟨_, _, hr, .inr ⟨rfl, .goto t, hIx _ _ _ _ hi3 (hup _ _) (hmp _ _), hl4, hk4⟩⟩
        | panic ch => exact hp.elim
        | outgrown => exact hp.elim
      | ret => exact hp.elim
      | exit id => exact hp.elim
      | goto t => exact hp.elim
      | panic ch => exact hp.elim
      | outgrown => exact hp.elim
    · have hup : ∀ (o : Obj) (W3 : World), Under w.heap.size [] W3 (W3.putObj (w.heap.size + 1) o) := fun o W3 => under_putObj _ (by omega) _
      have hmp : ∀ (o : Obj) (W3 : World), Mod [w.heap.size, w.heap.size + 1] W3 (W3.putObj (w.heap.size + 1) o) := fun o W3 => (mod_putObj W3 _ o).mono (by simp)
      rintro e W2 ⟨⟨v, rfl⟩, (⟨hi, hl, hk⟩ | ⟨pre, x, post, hx, c, hi, hl, hk⟩)⟩
      · exact ⟨none, _, by have := run_endLoop (P := P) hl (by rw [hrec]; simp); rw [hrec] at this; exact this, hdone _ _ (Nat.le_refl _) (hI _ _ _ hi (hup _ _) (hmp _ _)) ((World.putObj_heap_other (by omega)).trans hk)⟩
      · exact ⟨some c, _, by have := run_endLoop (P := P) hl (by rw [hrec]; simp); rw [hrec] at this; exact this, wpIn_wide.2 (hstop _ c pre x post _ (Nat.le_refl _) hx (hIx _ _ _ _ hi (hup _ _) (hmp _ _)) ((World.putObj_heap_other (by omega)).trans hk))⟩

theorem wp_range {α : Type} {P : Program} {g : Operand} {ps : Array Tmp} {assign body : Code} {Q : Exit → Act → World → Prop} {a : Act} {w : World} {gf : Nat} {fi lb : Array Value} {encs : α → Array Value} {xs : List α} {Kp : World → World → Prop}
    (hg : a.eval g = .func (.func gf) fi lb) (eg : ∀ args w, (callFunc gf args).run P w = .ok (.enter gf args) w) (hit : Iter P gf fi lb encs xs Kp w)
    (hKt : ∀ {A B C : World}, Kp A B → Kp B C → Kp A C) (hKn : ∀ {A B : World}, Under w.heap.size [] A B → Kp A B) (hps : ∀ x, (encs x).size = ps.size)
    (I : List α → World → Prop) (Ix : Code → List α → World → Prop) (hI : ∀ pre A B, I pre A → Under w.heap.size [] A B → I pre B) (hIx : ∀ c pre A B, Ix c pre A → Under w.heap.size [] A B → Ix c pre B) (h0 : I [] w)
    (hround : ∀ (l : Nat) (pre : List α) (x : α) (W : World), w.heap.size < l → l < W.heap.size → I pre W → (∃ post, xs = pre ++ x :: post) →
      assign.wpIn (Fence.wide.inRound l) 2 P (Exit.then (fun a1 W1 => Over w.heap.size W W1 ∧ Kp W W1 ∧ ∀ o, body.wpIn (Fence.wide.inRound l) 2 P (roundEnd w.heap.size Kp I Ix (pre ++ [x]) (W1.putObj l o)) a1 (W1.putObj l o)) (fun _ _ _ => False))
        { tmps := (ps.zip (encs x)).foldl (fun t (p, v) => t.setIfInBounds p v) a.tmps, defers := [] } W)
    (hdone : ∀ (D : Nat) (W : World), w.heap.size ≤ D → I xs W → W.heap[D]? = some (.deferred (some [])) → Q .normal { a with defers := { target := .collected D, args := #[] } :: a.defers } W)
    (hstop : ∀ (D : Nat) (c : Code) (pre : List α) (x : α) (post : List α) (W : World), w.heap.size ≤ D → xs = pre ++ x :: post → Ix c (pre ++ [x]) W → W.heap[D]? = some (.deferred (some [])) → c.wp P Q { a with defers := { target := .collected D, args := #[] } :: a.defers } W) :
    (Code.rangeFunc g ps assign body).wp P Q a w := by
  refine wp_range2 hg eg hit hKt hKn hps I Ix (fun pre A B h u _ => hI pre A B h u) (fun c pre A B h u _ => hIx c pre A B h u) h0 (fun l pre x W h1 h2 h3 h4 => wpIn_mono (hround l pre x W (by omega) h2 h3 h4) ?_) hdone hstop
  rintro e a1 W1 hp
  cases e with
  | normal => exact ⟨hp.1.two, hp.2.1, fun o => wpIn_mono (hp.2.2 o) fun e a w h => roundEnd.two h⟩
  | ret => exact hp.elim
  | exit id => exact hp.elim
  | goto t => exact hp.elim
  | panic ch => exact hp.elim
  | outgrown => exact hp.elim
#print axioms wp_range

/-- A function's contract, where its body holds a range over a function: walked plainly. -/
theorem calls_of_wp_marks {P : Program} {f : FuncId} {fn : Func} {c : Code} {args : Array Value} {w : World} {R : Ending → World → Prop} (hf : P.funcs[f]? = some fn) (hb : fn.body = some c)
    (h : c.wp P (bodyPostM Fence.wide 3 P fn R) { tmps := args ++ Array.replicate (fn.ntmps - args.size) undef, defers := [] } w) : Calls P f args w R :=
  callsIn_wide.1 (callsIn_of_wp_marks (n := 3) hf hb trivial (wpIn_wide.2 h) rfl)
theorem leave1 {P : Program} {fn : Func} {R : Ending → World → Prop} {D : Nat} {tmps : Array Value} {W : World} {v : Value} (hK : W.heap[D]? = some (.deferred (some [])))
    (hres : (results fn tmps).run P (W.putObj D (.deferred none)) = .ok v (W.putObj D (.deferred none))) (hR : R (.returned v) (W.putObj D (.deferred none))) :
    bodyPostM Fence.wide 3 P fn R .ret { tmps := tmps, defers := [{ target := .collected D, args := #[] }] } W :=
  ⟨by simp, .inl ⟨_, _, rfl, run_takeDeferred hK, ⟨v, hres, hR⟩⟩⟩
theorem leave2 {P : Program} {fn : Func} {R : Ending → World → Prop} {D E : Nat} {tmps : Array Value} {W : World} {v : Value} (hDE : D ≠ E) (hK : W.heap[D]? = some (.deferred (some []))) (hE : W.heap[E]? = some (.deferred (some [])))
    (hres : (results fn tmps).run P ((W.putObj D (.deferred none)).putObj E (.deferred none)) = .ok v ((W.putObj D (.deferred none)).putObj E (.deferred none))) (hR : R (.returned v) ((W.putObj D (.deferred none)).putObj E (.deferred none))) :
    bodyPostM Fence.wide 3 P fn R .ret { tmps := tmps, defers := [{ target := .collected D, args := #[] }, { target := .collected E, args := #[] }] } W :=
  ⟨by simp, .inl ⟨_, _, rfl, run_takeDeferred hK, ⟨by simp, .inl ⟨_, _, rfl, run_takeDeferred ((World.putObj_heap_other hDE.symm).trans hE), ⟨v, hres, hR⟩⟩⟩⟩⟩
theorem putObj_mod {S : List Nat} {a w : World} (h : Mod S a w) {D : Nat} (hD : a.heap.size ≤ D) (o : Obj) : Mod S a (w.putObj D o) :=
  h.trans' (mod_putObj w D o) (fun b hb => .inr (by simp at hb; omega))
theorem putObj_blk {w : World} {b D : Nat} {T : TypeId} {cs : List Value} {o o' : Obj} (h : Blk w b T cs) (hD : w.heap[D]? = some o) (ho : o.isCells = false) : Blk (w.putObj D o') b T cs := by
  have hne : b ≠ D := fun e => by subst e; unfold Blk at h; rw [h] at hD; cases hD; cases ho
  unfold Blk; rw [World.putObj_heap_other hne]; exact h
theorem mod_under {S : List Nat} {w A B : World} (h : Mod S w A) (u : Under w.heap.size [] A B) : Mod S w B :=
  ⟨u.os.trans h.os, u.tape.trans h.tape, u.output.trans h.output, Nat.le_trans h.size u.size, fun k hk hn => (u.block k hk (by simp)).trans (h.block k hk hn)⟩
theorem blk_under {w A B : World} {b : Nat} {T : TypeId} {cs : List Value} (h : Blk A b T cs) (u : Under w.heap.size [] A B) (hb : b < w.heap.size) : Blk B b T cs := (u.block b hb (by simp)).trans h
end Go.YtajadfoannmaiaaRange
