/- A region that draws its order, within a round of a range over a function: the plain walk's laws serve there, too. Over any program. -/
import Derived.Test.YtajadfoannmaiaaRange
import Derived.Test.YtajadfoannmaiaaHeld
import Derived.Test.YtajadfoannmaiaaOrd
namespace Go.YtajadfoannmaiaaLex
set_option linter.unusedVariables false
set_option linter.unusedSimpArgs false
open Go Go.YtajadfoannmaiaaMem

variable {P : Program} {Q : Exit → Act → World → Prop} {n r : Nat}
theorem rows_round {row : String} {args : Array Value} {w : World} {R : Value → World → Prop} (h : Rows P row args w R) : RowsIn (Fence.wide.inRound r) n P row args w R :=
  fun c cs _ => let ⟨v, w', q, s⟩ := h c cs; ⟨v, w', q, stepsIn_wide.2 s⟩
theorem op_round {o : Oper} {a : Act} {w : World} {next : Act → World → Prop} (hnd : ∀ c, o.op ≠ .defer c) (h : o.wp P a w next Q) : o.wpIn (Fence.wide.inRound r) n P a w next Q := by
  refine ⟨fun _ _ => trivial, ?_⟩
  unfold Oper.wp at h
  show o.uponIn _ n P a next Q ((o.semAt (some r) a.eval).run P w)
  rw [Oper.semAt_some r _ _ hnd]
  cases hx : (execOp a.eval o).run P w with
  | ok x w' =>
    rw [hx] at h
    cases x with
    | value v => exact h
    | skip => exact h
    | defer d => exact h
    | enter f args => exact ⟨fun hd => by simp [Fence.wide, Fence.inRound] at hd, CallsIn.inRound r (callsIn_wide.2 h)⟩
    | row row args => exact ⟨fun hd => by simp [Fence.wide, Fence.inRound] at hd, rows_round h⟩
    | _ => first | exact h | exact h.elim
  | halt hl w' =>
    rw [hx] at h
    cases hl <;> first | exact h | exact h.elim
theorem ops_round {ops : Array Oper} (hnd : ∀ (i : Nat) (o : Oper), ops[i]? = some o → ∀ c, o.op ≠ .defer c) (hno : ¬ LetsOut Q) : ∀ (l : List Nat) (a : Act) (w : World), wpOps P ops Q l a w → wpOpsIn (Fence.wide.inRound r) n P ops Q l a w
  | [], a, w, h => h
  | i :: rest, a, w, h => by
    simp only [wpOps] at h
    simp only [wpOpsIn]
    cases ho : ops[i]? with
    | none => rw [ho] at h; exact ops_round hnd hno rest a w h
    | some o =>
      rw [ho] at h
      simp only at h ⊢
      by_cases hw : Region.wanted o (yielded ops a.tmps) = true
      · rw [if_pos hw] at h ⊢
        rcases h with h | ⟨_, h⟩
        · exact op_round (hnd i o ho) (Oper.wp_mono (fun a w => ops_round hnd hno rest a w) h)
        · exact absurd h hno
      · rw [if_neg hw] at h ⊢
        exact ⟨fun _ _ => trivial, ops_round hnd hno rest _ w h⟩
/-- No statement 'defer' is in it. -/
def noDefer (l : List Oper) : Bool := l.all fun o => match o.op with | .defer _ => false | _ => true
theorem noDefer_spec {l : List Oper} (h : noDefer l = true) : ∀ (i : Nat) (o : Oper), l.toArray[i]? = some o → ∀ c, o.op ≠ .defer c := by
  intro i o ho c hc
  have ho' : l[i]? = some o := by simpa using ho
  have := List.all_eq_true.1 h o (List.mem_of_getElem? ho')
  rw [hc] at this; cases this
theorem wpIn_region_of_any {id : Nat} {l : List Oper} {a : Act} {w : World} (hm : P.follows .mixedOrders = true) (hd : noDefer l = true) (hno : ¬ LetsOut Q)
    (h : wpAny P .any l.toArray Q l.toArray.size (Array.replicate l.toArray.size false) a w.drew) : (Code.region id l.toArray true).wpIn (Fence.wide.inRound r) n P Q a w :=
  wpIn_region_draw fun t => by
    simp only [Region.schedule, hm, Bool.true_or, if_true]
    exact ops_round (noDefer_spec hd) hno _ _ _ (wpAny_sound _ t _ a _ h)
theorem wpIn_region_lex {id : Nat} {l : List Oper} {a : Act} {w : World} (hm : P.follows .mixedOrders = true) (hd : noDefer l = true) (hno : ¬ LetsOut Q) (hB : okB P l = true)
    (h : wpList P l.toArray (Post P l Q) l a w.drew) : (Code.region id l.toArray true).wpIn (Fence.wide.inRound r) n P Q a w := wpIn_region_of_any hm hd hno (lex_any hB h)
theorem wpIn_region_held {id : Nat} {l : List Oper} {a : Act} {w : World} (ns hs F : List Nat) (hm : P.follows .mixedOrders = true) (hd : noDefer l = true) (hno : ¬ LetsOut Q) (hB : okH P l ns hs = true)
    (h : wpCut P l.toArray (Mod F w.drew) (PostH P l F w.drew hs Q) ns l a w.drew) : (Code.region id l.toArray true).wpIn (Fence.wide.inRound r) n P Q a w := wpIn_region_of_any hm hd hno (held_any ns hs F hB h)
#print axioms wpIn_region_held
end Go.YtajadfoannmaiaaLex
