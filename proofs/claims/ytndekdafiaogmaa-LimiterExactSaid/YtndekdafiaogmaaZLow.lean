/- A region of a statement that draws its order is walked once, in the order of its text: a static look (by the kernel) shows that operations which no edge orders do not touch each other. For any program. | Blocks of memory, what a call may have turned of them, slices that read as lists: small words for walks, over any program. | A region that draws its order, with reads beside calls: reads of old memory that the calls leave alone. Walked once, in the order of the text, cut behind each such call. For any program. | A region of a statement that draws its order, in which a few operations that no edge orders do touch each other: it is walked once for each order of these alone. For any program. | A region that draws its order whose first operations make memory, each for itself: every order of these serves, shown once for each operation. Over any program. | A range over a function (a method's value, too) whose sequence is known: a law of the plain walk. Over any program. | A map from texts to whole numbers that a call has made, as a function: look-ups, stores, deletes, len, range. Over any program. | A map that a call has made, as a function from keys to values of any kind: look-ups, stores, deletes, len, range. Over any program. | A row of one's own: a cell is written; the row gets shorter; which blocks it is not. Over any program. -/
import Derived.WalkKit
import Derived.Deep.Draws
import Derived.RangeFuncNested
import Derived.RangeFuncBound
import Derived.RangeFuncCalls
import Derived.RangeFuncLeaves
import Derived.OwnWalkIn
import Derived.TacticsInMore
import Derived.LoopNIn
import Derived.LoopIn
import Derived.Maps.RangeWalk
set_option linter.unusedSimpArgs false
set_option linter.unusedVariables false
section
namespace Go.YtndekdafiaogmaaLex
open Go
/-! What a piece of the machine's meaning does to the world, where it ends well. -/
def NoOk {α : Type} (P : Program) (s : Sem α) : Prop := ∀ w x w1, s.run P w ≠ .ok x w1
def Blind {α : Type} (P : Program) (s : Sem α) : Prop := ∀ w x w1, s.run P w = .ok x w1 → w1 = w ∧ ∀ w', s.run P w' = .ok x w'
def Reads {α : Type} (P : Program) (s : Sem α) : Prop := ∀ w x w1, s.run P w = .ok x w1 → w1 = w
section
variable {P : Program} {α β : Type}
theorem Blind.reads {s : Sem α} (h : Blind P s) : Reads P s := fun w x w1 e => (h w x w1 e).1
theorem NoOk.blind {s : Sem α} (h : NoOk P s) : Blind P s := fun w x w1 e => absurd e (h w x w1)
theorem noOk_halt (h : Halt) : NoOk P (Sem.halt h : Sem α) := fun w x w1 e => by simp [Sem.run] at e
theorem noOk_stuck (s : String) : NoOk P (stuck s : Sem α) := noOk_halt _
theorem noOk_unsupported (u : Unsupported) : NoOk P (unsupported u : Sem α) := noOk_halt _
theorem noOk_goPanic (v : Value) : NoOk P (goPanic v : Sem α) := noOk_halt _
theorem noOk_left {s : Sem α} {f : α → Sem β} (h : NoOk P s) : NoOk P (s >>= f) := fun w x w1 e => by
 change Sem.run P (Sem.bind s f) w = _ at e
 rw [Sem.run_bind'] at e
 cases hs : s.run P w with
 | ok a w' => exact h _ _ _ hs
 | halt q w' => rw [hs] at e; cases e
theorem noOk_right {s : Sem α} {f : α → Sem β} (h : ∀ a, NoOk P (f a)) : NoOk P (s >>= f) := fun w x w1 e => by
 change Sem.run P (Sem.bind s f) w = _ at e
 rw [Sem.run_bind'] at e
 cases hs : s.run P w with
 | ok a w' => rw [hs] at e; exact h a _ _ _ e
 | halt q w' => rw [hs] at e; cases e
theorem noOk_runtimePanic (r : RuntimeError) : NoOk P (runtimePanic r : Sem α) := by
 unfold runtimePanic
 refine noOk_right fun p => ?_
 cases r <;> first | exact noOk_goPanic _ | (refine noOk_right fun _ => ?_; first | exact noOk_goPanic _ | (refine noOk_right fun _ => ?_; exact noOk_goPanic _))
theorem noOk_boundsPanic (k : IntKind) (x y : Int) (c : BoundsCode) : NoOk P (boundsPanic k x y c : Sem α) := by
 unfold boundsPanic
 dsimp only
 split
 ·exact noOk_right fun _ => noOk_runtimePanic _
 ·exact noOk_right fun _ => noOk_runtimePanic _
theorem blind_pure (a : α) : Blind P (pure a : Sem α) := fun w x w1 e => by
 have e' : Result.ok a w = .ok x w1 := e
 injection e' with h1 h2
 subst h1; subst h2
 exact ⟨rfl, fun _ => rfl⟩
theorem blind_program : Blind P (program : Sem Program) := fun w x w1 e => by
 have e' : Result.ok P w = .ok x w1 := e
 injection e' with h1 h2
 subst h1; subst h2
 exact ⟨rfl, fun _ => rfl⟩
theorem blind_bind {s : Sem α} {f : α → Sem β} (h : Blind P s) (g : ∀ a, Blind P (f a)) : Blind P (s >>= f) := fun w x w1 e => by
 change Sem.run P (Sem.bind s f) w = _ at e
 rw [Sem.run_bind'] at e
 cases hs : s.run P w with
 | ok a w' =>
   rw [hs] at e
   obtain ⟨rfl, h2⟩ := h _ _ _ hs
   obtain ⟨rfl, g2⟩ := g a _ _ _ e
   refine ⟨rfl, fun w'' => ?_⟩
   change Sem.run P (Sem.bind s f) w'' = _
   rw [Sem.run_bind', h2 w'']
   exact g2 w''
 | halt q w' => rw [hs] at e; cases e
theorem reads_bind {s : Sem α} {f : α → Sem β} (h : Reads P s) (g : ∀ a, Reads P (f a)) : Reads P (s >>= f) := fun w x w1 e => by
 change Sem.run P (Sem.bind s f) w = _ at e
 rw [Sem.run_bind'] at e
 cases hs : s.run P w with
 | ok a w' =>
   rw [hs] at e
   obtain rfl := h _ _ _ hs
   exact g a _ _ _ e
 | halt q w' => rw [hs] at e; cases e
theorem reads_load (a : Addr) : Reads P (load a) := fun w x w1 e => by
 simp only [load, Sem.run] at e
 split at e
 ·injection e with h1 h2; exact h2.symm
 ·split at e
  ·injection e with h1 h2; exact h2.symm
  ·cases e
theorem reads_shape (r : Nat) : Reads P (shape r) := fun w x w1 e => by
 simp only [shape, Sem.run] at e; injection e with h1 h2; exact h2.symm
theorem reads_getObj (r : Nat) : Reads P (getObj r) := fun w x w1 e => by
 simp only [getObj, Sem.run] at e
 split at e
 ·cases e
 ·injection e with h1 h2; exact h2.symm
 ·cases e
theorem reads_pure (a : α) : Reads P (pure a : Sem α) := (blind_pure a).reads
theorem blind_underlying (t : TypeId) : Blind P (underlying t) := by
 unfold underlying
 refine blind_bind blind_program fun p => ?_
 split
 ·exact blind_pure _
 ·exact (noOk_stuck _).blind
theorem blind_typeInfo (t : TypeId) : Blind P (typeInfo t) := by
 unfold typeInfo
 refine blind_bind blind_program fun p => ?_
 split
 ·exact blind_pure _
 ·exact (noOk_stuck _).blind
theorem blind_sizeOf (t : TypeId) : Blind P (sizeOf t) := by
 unfold sizeOf
 exact blind_bind (blind_typeInfo _) fun _ => blind_pure _
theorem blind_isAgg (t : TypeId) : Blind P (isAgg t) := by
 unfold isAgg
 refine blind_bind (blind_underlying _) fun d => ?_
 split <;> exact blind_pure _
theorem blind_asIntOf (v : Value) : Blind P (asIntOf v) := by
 unfold asIntOf
 split
 ·exact blind_pure _
 ·exact (noOk_unsupported _).blind
 ·exact (noOk_stuck _).blind
theorem blind_asBool (v : Value) : Blind P (asBool v) := by
 unfold asBool
 split
 ·exact blind_pure _
 ·exact (noOk_stuck _).blind
theorem blind_asAgg (v : Value) : Blind P (asAgg v) := by
 unfold asAgg
 split
 ·exact blind_pure _
 ·exact (noOk_stuck _).blind
theorem blind_asAddr (v : Value) : Blind P (asAddr v) := by
 unfold asAddr
 split
 ·exact blind_pure _
 ·exact (noOk_runtimePanic _).blind
 ·exact (noOk_stuck _).blind
theorem blind_sureAddr (v : Value) : Blind P (Instr.sureAddr v) := by
 unfold Instr.sureAddr
 split
 ·exact blind_pure _
 ·exact (noOk_stuck _).blind
theorem blind_part (t : TypeId) (cs : Array Value) (off : Nat) : Blind P (part t cs off) := by
 unfold part
 refine blind_bind (blind_isAgg _) fun b => ?_
 split
 ·exact blind_bind (blind_sizeOf _) fun _ => blind_pure _
 ·split
  ·exact blind_pure _
  ·exact (noOk_stuck _).blind
theorem blind_extract (t : Value) (i : Nat) : Blind P (Instr.extract t i) := by
 unfold Instr.extract
 split
 ·split
  ·exact blind_pure _
  ·exact (noOk_stuck _).blind
 ·exact (noOk_stuck _).blind
theorem blind_field (t : TypeId) (x : Value) (i : Nat) : Blind P (Instr.field t x i) := by
 unfold Instr.field
 refine blind_bind (blind_underlying _) fun d => ?_
 split
 ·split
  ·exact blind_bind (blind_asAgg _) fun _ => blind_part _ _ _
  ·exact (noOk_stuck _).blind
 ·exact (noOk_stuck _).blind
theorem blind_index (t : TypeId) (x i : Value) : Blind P (Instr.index t x i) := by
 unfold Instr.index
 refine blind_bind (blind_asIntOf _) fun ki => ?_
 refine blind_bind (blind_underlying _) fun d => ?_
 split
 ·split
  ·exact blind_bind (blind_sizeOf _) fun _ => blind_part _ _ _
  ·exact (noOk_boundsPanic _ _ _ _).blind
 ·split
  ·exact blind_pure _
  ·exact (noOk_boundsPanic _ _ _ _).blind
 ·exact (noOk_stuck _).blind
theorem blind_indexAt (t : TypeId) (x i : Value) : Blind P (Instr.indexAt t x i) := by
 unfold Instr.indexAt
 repeat' (first | exact blind_pure _ | exact (noOk_stuck _).blind | exact (noOk_unsupported _).blind | exact (noOk_boundsPanic _ _ _ _).blind | exact (noOk_runtimePanic _).blind | exact blind_sizeOf _ | exact blind_underlying _ | exact blind_sureAddr _ | exact blind_asAddr _ | exact blind_asIntOf _ | exact blind_part _ _ _ | refine blind_bind ?_ (fun _ => ?_) | split | dsimp only)
theorem blind_sliceBound (x : Value) (y : Nat) (c : BoundsCode) : Blind P (Instr.sliceBound x y c) := by
 unfold Instr.sliceBound
 repeat' (first | exact blind_pure _ | exact (noOk_stuck _).blind | exact (noOk_unsupported _).blind | exact (noOk_boundsPanic _ _ _ _).blind | exact (noOk_runtimePanic _).blind | exact blind_sizeOf _ | exact blind_underlying _ | exact blind_sureAddr _ | exact blind_asAddr _ | exact blind_asIntOf _ | exact blind_part _ _ _ | refine blind_bind ?_ (fun _ => ?_) | split | dsimp only)
theorem blind_sliceBounds (b : Bool) (n c : Nat) (lo hi mx : Option Value) : Blind P (Instr.sliceBounds b n c lo hi mx) := by
 unfold Instr.sliceBounds
 repeat' (first | exact blind_pure _ | exact (noOk_stuck _).blind | exact (noOk_unsupported _).blind | exact (noOk_boundsPanic _ _ _ _).blind | exact (noOk_runtimePanic _).blind | exact blind_sizeOf _ | exact blind_underlying _ | exact blind_sureAddr _ | exact blind_asAddr _ | exact blind_asIntOf _ | exact blind_part _ _ _ | exact blind_sliceBound _ _ _ | refine blind_bind ?_ (fun _ => ?_) | split | dsimp only)
theorem blind_slice (t : TypeId) (x : Value) (lo hi mx : Option Value) : Blind P (Instr.slice t x lo hi mx) := by
 unfold Instr.slice
 repeat' (first | exact blind_pure _ | exact (noOk_stuck _).blind | exact (noOk_unsupported _).blind | exact (noOk_boundsPanic _ _ _ _).blind | exact (noOk_runtimePanic _).blind | exact blind_sizeOf _ | exact blind_underlying _ | exact blind_sureAddr _ | exact blind_asAddr _ | exact blind_asIntOf _ | exact blind_part _ _ _ | exact blind_sliceBounds _ _ _ _ _ _ | refine blind_bind ?_ (fun _ => ?_) | split | dsimp only)
theorem blind_sliceAt (t : TypeId) (x : Value) (lo hi mx : Option Value) : Blind P (Instr.sliceAt t x lo hi mx) := by
 unfold Instr.sliceAt
 repeat' (first | exact blind_pure _ | exact (noOk_stuck _).blind | exact (noOk_unsupported _).blind | exact (noOk_boundsPanic _ _ _ _).blind | exact (noOk_runtimePanic _).blind | exact blind_sizeOf _ | exact blind_underlying _ | exact blind_sureAddr _ | exact blind_asAddr _ | exact blind_asIntOf _ | exact blind_part _ _ _ | exact blind_slice _ _ _ _ _ | exact blind_sliceBounds _ _ _ _ _ _ | refine blind_bind ?_ (fun _ => ?_) | split | dsimp only)
theorem blind_makeInterface (t : TypeId) (x : Value) : Blind P (Instr.makeInterface t x) := by
 unfold Instr.makeInterface
 refine blind_bind (blind_underlying _) fun d => ?_
 split
 ·exact (noOk_stuck _).blind
 ·exact blind_pure _
theorem blind_followBlind : ∀ (l : List FieldStep) (t : TypeId) (x : Option Value), Blind P (followBlind l t x)
 | [], t, x => by unfold followBlind; exact blind_pure _
 | s :: rest, t, x => by
   unfold followBlind
   refine blind_bind (blind_underlying _) fun d => ?_
   split
   ·split
    ·split
     ·exact blind_pure _
     ·exact blind_followBlind _ _ _
     ·exact (noOk_stuck _).blind
     ·exact blind_pure _
     ·exact blind_bind (blind_part _ _ _) fun _ => blind_followBlind _ _ _
     ·exact (noOk_stuck _).blind
     ·exact blind_followBlind _ _ _
    ·exact (noOk_stuck _).blind
   ·exact (noOk_stuck _).blind
theorem blind_nilAhead : ∀ (n : Nat) (t : TypeId) (v : Value) (s : String), Blind P (nilAhead n t v s)
 | 0, t, v, s => by unfold nilAhead; exact blind_pure _
 | n + 1, t, v, s => by
   unfold nilAhead
   refine blind_bind (blind_typeInfo _) fun i => ?_
   split
   ·refine blind_bind (blind_followBlind _ _ _) fun r => ?_
    split
    ·exact blind_pure _
    ·split
     ·exact blind_nilAhead _ _ _ _
     ·exact blind_pure _
     ·exact (noOk_stuck _).blind
     ·exact blind_pure _
     ·exact blind_pure _
     ·refine blind_bind (blind_underlying _) fun d => ?_
      split <;> exact blind_pure _
   ·exact (noOk_stuck _).blind
theorem blind_mapM {γ δ : Type} (f : γ → Sem δ) (h : ∀ x, Blind P (f x)) (xs : Array γ) : Blind P (xs.mapM f) := by
 rw [Array.mapM_eq_mapM_toList]
 have key : ∀ l : List γ, Blind P (l.mapM f) := fun l => by
  induction l with
  | nil => rw [List.mapM_nil]; exact blind_pure _
  | cons x l ih => rw [List.mapM_cons]; exact blind_bind (h x) fun _ => blind_bind ih fun _ => blind_pure _
 have : Blind P ((fun l : List δ => l.toArray) <$> xs.toList.mapM f) := by
  rw [map_eq_pure_bind]; exact blind_bind (key _) fun _ => blind_pure _
 exact this
theorem blind_zeroVal (t : TypeId) : Blind P (zeroValue t) := by
 unfold zeroValue
 refine blind_bind (blind_typeInfo _) fun i => ?_
 split
 ·exact blind_pure _
 ·exact (noOk_unsupported _).blind
theorem blind_build (t : TypeId) (ps : Array (Nat × Value)) : Blind P (Instr.build t ps) := by
 unfold Instr.build
 refine blind_bind (blind_zeroVal _) fun z => blind_bind (blind_underlying _) fun d => ?_
 split
 ·refine blind_bind (blind_mapM _ (fun f => blind_bind (blind_sizeOf _) fun _ => blind_pure _) _) fun pl => ?_
  split
  ·exact blind_pure _
  ·exact (noOk_stuck _).blind
 ·refine blind_bind (blind_sizeOf _) fun n => ?_
  split
  ·exact blind_pure _
  ·exact (noOk_stuck _).blind
 ·exact (noOk_stuck _).blind
theorem blind_stringOp (op : BinOp) (x y : ByteArray) : Blind P (Op.stringOp op x y) := by
 unfold Op.stringOp
 dsimp only
 split <;> first | exact blind_pure _ | exact (noOk_stuck _).blind | (split <;> first | exact blind_pure _ | exact (noOk_unsupported _).blind)
theorem blind_intArith (op : BinOp) (k : IntKind) (x y : Int) : Blind P (Op.intArith op k x y) := by
 unfold Op.intArith
 split <;> first | exact blind_pure _ | exact (noOk_stuck _).blind
theorem blind_intDiv (op : BinOp) (k : IntKind) (x y : Int) : Blind P (Op.intDiv op k x y) := by
 unfold Op.intDiv
 split
 ·exact (noOk_runtimePanic _).blind
 ·split <;> first | exact blind_pure _ | exact (noOk_stuck _).blind
theorem blind_intBits (op : BinOp) (k : IntKind) (x y : Int) : Blind P (Op.intBits op k x y) := by
 unfold Op.intBits
 dsimp only
 split <;> first | exact blind_pure _ | exact (noOk_stuck _).blind
theorem blind_intCmp (op : BinOp) (x y : Int) : Blind P (Op.intCmp op x y) := by
 unfold Op.intCmp
 split <;> first | exact blind_pure _ | exact (noOk_stuck _).blind
theorem blind_shift (op : BinOp) (k : IntKind) (x : Int) (yk : IntKind) (y : Int) : Blind P (Op.shift op k x yk y) := by
 unfold Op.shift
 split
 ·exact (noOk_runtimePanic _).blind
 ·dsimp only
  split <;> first | exact blind_pure _ | exact (noOk_stuck _).blind
theorem blind_unary (op : UnOp) (x : Value) : Blind P (Op.unary op x) := by
 unfold Op.unary
 split <;> first | exact blind_intArith _ _ _ _ | exact blind_intBits _ _ _ _ | exact blind_pure _ | exact (noOk_unsupported _).blind | exact (noOk_stuck _).blind
theorem blind_binOp_int (op : BinOp) (t : TypeId) (k k' : IntKind) (x y : Int) : Blind P (Go.binOp op t (.int k x) (.int k' y)) := by
 unfold Go.binOp
 split
 case h_1 => exact blind_shift _ _ _ _ _
 case h_2 => exact blind_shift _ _ _ _ _
 case h_3 =>
  split
  ·exact (noOk_stuck _).blind
  ·split <;> first | exact blind_intArith _ _ _ _ | exact blind_intDiv _ _ _ _ | exact blind_intBits _ _ _ _ | exact blind_intCmp _ _ _
 case h_7 => rename_i q1 q2 q3 q4; exact (q1 _ _ _ _ rfl rfl).elim
 case h_8 => rename_i q1 q2 q3 q4; exact (q1 _ _ _ _ rfl rfl).elim
 all_goals first | (exfalso; simp_all; done) | exact (noOk_stuck _).blind
end
/-! One operation, with what is asked of it; the steps in whatever order. -/
section
variable {P : Program} {ops : Array Oper} {Q : Exit → Act → World → Prop}
def Good (P : Program) (kind : Nat) (o : Oper) (a : Act) (w : World) : Prop :=
 match kind with
 | 0 => ∃ v, ∀ w', (execOp a.eval o).run P w' = .ok (.value v) w'
 | 1 => ∃ v, (execOp a.eval o).run P w = .ok (.value v) w
 | _ => True
theorem Good.one {k : Nat} {o : Oper} {a : Act} {w : World} (h : Good P k o a w) (hk : k ≤ 1) : ∃ v, (execOp a.eval o).run P w = .ok (.value v) w := by
 match k, hk with
 | 0, _ => obtain ⟨v, hv⟩ := h; exact ⟨v, hv w⟩
 | 1, _ => exact h
def opS (P : Program) (kind : Oper → Nat) (ops : Array Oper) (Q : Exit → Act → World → Prop) (i : Nat) (K : Act → World → Prop) (a : Act) (w : World) : Prop :=
 match ops[i]? with
 | none => K a w
 | some o => if Region.wanted o (yielded ops a.tmps) then Good P (kind o) o a w ∧ o.wp P a w K Q else K (a.put o.dst undef) w
theorem opS_mono {kind : Oper → Nat} {i : Nat} {a : Act} {w : World} {K K' : Act → World → Prop} (h : ∀ a w, K a w → K' a w) (hh : opS P kind ops Q i K a w) : opS P kind ops Q i K' a w := by
 unfold opS at *
 split
 ·exact h _ _ (by simpa [*] using hh)
 ·rename_i o ho
  simp only [ho] at hh
  split
  ·rename_i hw; simp only [hw, if_true] at hh; exact ⟨hh.1, Oper.wp_mono h hh.2⟩
  ·rename_i hw; simp only [hw] at hh; exact h _ _ hh
theorem opS_wpOp {kind : Oper → Nat} {i : Nat} {a : Act} {w : World} {K : Act → World → Prop} (hh : opS P kind ops Q i K a w) : wpOp P ops Q i K a w := by
 unfold opS at hh; unfold wpOp
 split
 ·simpa [*] using hh
 ·rename_i o ho
  simp only [ho] at hh
  split
  ·rename_i hw; simp only [hw, if_true] at hh; exact .inl hh.2
  ·rename_i hw; simp only [hw] at hh; exact hh
def Plain (Q : Exit → Act → World → Prop) : Prop := ∀ e a w, Q e a w → e = .normal
theorem Plain.panic (h : Plain Q) {c a w} (q : Q (.panic c) a w) : False := by cases h _ _ _ q
theorem Plain.out (h : Plain Q) (q : LetsOut Q) : False := by obtain ⟨a, w, q⟩ := q; cases h _ _ _ q
theorem wp_put {o : Oper} {d : Option Tmp} {v : Value} (hp : Plain Q) (hs : ∀ cs b, o.op ≠ .select cs b) (h1 : ∀ t, d = some t → t ∉ o.looksAt ops) (h2 : ∀ t, d = some t → o.dst ≠ some t)
  {K : Act → World → Prop} {a : Act} {w : World} : o.wp P (a.put d v) w K Q ↔ o.wp P a w (fun a' w' => K (a'.put d v) w') Q := by
 unfold Oper.wp
 rw [execOp_put (ops := ops) o hs a d v h1]
 generalize (execOp a.eval o).run P w = r
 have pc : ∀ (a : Act) u, (a.put d v).put o.dst u = (a.put o.dst u).put d v := fun a u => Act.put_comm a v u h2
 cases r with
 | ok n w' =>
   cases n <;> simp only [Oper.upon]
   case value u => rw [pc]
   case skip => rw [pc]
   case defer q => rw [Act.put_defers, pc]
   case enter f args =>
    constructor
    ·intro h
     refine Calls.mono h fun e w'' he => ?_
     cases e with
     | returned u => simp only at he ⊢; rw [pc] at he; exact he
     | panicked c => exact (hp.panic he).elim
     | outgrown => exact he
    ·intro h
     refine Calls.mono h fun e w'' he => ?_
     cases e with
     | returned u => simp only at he ⊢; rw [pc]; exact he
     | panicked c => exact (hp.panic he).elim
     | outgrown => exact he
   case row r args =>
    constructor
    ·intro h; exact Rows.mono h fun u w'' he => by rw [pc] at he; exact he
    ·intro h; exact Rows.mono h fun u w'' he => by rw [pc]; exact he
 | halt x w' =>
   cases x <;> simp only [Oper.upon]
   case panic u => exact ⟨fun h => (hp.panic h).elim, fun h => (hp.panic h).elim⟩
theorem wp_some {o : Oper} (hp : Plain Q) {K : Act → World → Prop} {a : Act} {w : World} (h : o.wp P a w K Q) :
  ∃ b u w', K (Act.put b o.dst u) w' ∧ b.tmps = a.tmps ∧ b.eval = a.eval := by
 unfold Oper.wp at h
 generalize (execOp a.eval o).run P w = r at h
 cases r with
 | ok n w' =>
   cases n <;> simp only [Oper.upon] at h
   case value u => exact ⟨a, u, _, h, rfl, rfl⟩
   case skip => exact ⟨a, _, _, h, rfl, rfl⟩
   case defer q => exact ⟨_, _, _, h, rfl, rfl⟩
   case enter f args =>
    obtain ⟨e, w'', fr, hr, _⟩ := h []
    cases e with
    | returned u => exact ⟨a, u, _, hr, rfl, rfl⟩
    | panicked c => exact (hp.panic hr).elim
    | outgrown => exact (hp.out hr).elim
   case row r args =>
    obtain ⟨u, w'', hr, _⟩ := h default []
    exact ⟨a, u, _, hr, rfl, rfl⟩
 | halt x w' =>
   cases x <;> simp only [Oper.upon] at h
   case panic u => exact (hp.panic h).elim
theorem wp_value {o : Oper} {a : Act} {w : World} {v : Value} {K : Act → World → Prop} (e : (execOp a.eval o).run P w = .ok (.value v) w) : o.wp P a w K Q ↔ K (a.put o.dst v) w := by
 unfold Oper.wp; rw [e]; rfl
theorem wanted_of {o : Oper} {a b : Act} {d : Option Tmp} {v : Value} (hb : b.tmps = a.tmps) (h : ∀ t, d = some t → t ∉ o.looksAt ops) :
  Region.wanted o (yielded ops (b.put d v).tmps) = Region.wanted o (yielded ops a.tmps) := by
 rw [wanted_put o b d v h, hb]
theorem opS_swap {kind : Oper → Nat} {i j : Nat} {oi oj : Oper} (hi : ops[i]? = some oi) (hj : ops[j]? = some oj) (hp : Plain Q)
  (hsi : ∀ cs b, oi.op ≠ .select cs b) (hsj : ∀ cs b, oj.op ≠ .select cs b) (hap : oi.apart ops oj = true)
  (hk : kind oi = 0 ∨ kind oj = 0 ∨ (kind oi ≤ 1 ∧ kind oj ≤ 1)) {K : Act → World → Prop} {a : Act} {w : World}
  (h : opS P kind ops Q i (opS P kind ops Q j K) a w) : opS P kind ops Q j (opS P kind ops Q i K) a w := by
 obtain ⟨h1, h2, h3⟩ := Oper.apart_spec hap
 have h2' : ∀ d, oj.dst = some d → oi.dst ≠ some d := fun d hd he => h2 d he hd
 have gi : ∀ b : Act, ∀ u w, Good P (kind oi) oi (b.put oj.dst u) w ↔ Good P (kind oi) oi b w := fun b u w => by
  unfold Good; rw [execOp_put (ops := ops) oi hsi b oj.dst u h3]
 have gj : ∀ b : Act, ∀ u w, Good P (kind oj) oj (b.put oi.dst u) w ↔ Good P (kind oj) oj b w := fun b u w => by
  unfold Good; rw [execOp_put (ops := ops) oj hsj b oi.dst u h1]
 have wi : ∀ b : Act, ∀ u, Region.wanted oi (yielded ops (b.put oj.dst u).tmps) = Region.wanted oi (yielded ops b.tmps) := fun b u => wanted_put oi b oj.dst u h3
 have wj : ∀ b : Act, ∀ u, Region.wanted oj (yielded ops (b.put oi.dst u).tmps) = Region.wanted oj (yielded ops b.tmps) := fun b u => wanted_put oj b oi.dst u h1
 have pc : ∀ (b : Act) (u v : Value), (b.put oi.dst u).put oj.dst v = (b.put oj.dst v).put oi.dst u := fun b u v => Act.put_comm b u v h2
 -- j behind i's slot
 have jput : ∀ (K : Act → World → Prop) (b : Act) (u : Value) (w : World), opS P kind ops Q j K (b.put oi.dst u) w ↔ opS P kind ops Q j (fun a' w' => K (a'.put oi.dst u) w') b w := fun K b u w => by
  unfold opS; simp only [hj, wj, gj, wp_put (ops := ops) hp hsj h1 h2]
  rw [pc]
 have iput : ∀ (K : Act → World → Prop) (b : Act) (u : Value) (w : World), opS P kind ops Q i K (b.put oj.dst u) w ↔ opS P kind ops Q i (fun a' w' => K (a'.put oj.dst u) w') b w := fun K b u w => by
  unfold opS; simp only [hi, wi, gi, wp_put (ops := ops) hp hsi h3 h2']
  rw [← pc]
 -- what i comes to at b, i being looked at behind j
 have iskip : ∀ (b : Act) (w : World), Region.wanted oi (yielded ops b.tmps) = false → opS P kind ops Q i K b w = K (b.put oi.dst undef) w := fun b w hb => by
  unfold opS; simp only [hi, hb, Bool.false_eq_true, if_false]
 have jskip : ∀ (K : Act → World → Prop) (b : Act) (w : World), Region.wanted oj (yielded ops b.tmps) = false → opS P kind ops Q j K b w = K (b.put oj.dst undef) w := fun K b w hb => by
  unfold opS; simp only [hj, hb, Bool.false_eq_true, if_false]
 have ival : ∀ (K : Act → World → Prop) (b : Act) (w : World) (v : Value), Region.wanted oi (yielded ops b.tmps) = true → (execOp b.eval oi).run P w = .ok (.value v) w → (opS P kind ops Q i K b w ↔ Good P (kind oi) oi b w ∧ K (b.put oi.dst v) w) := fun K b w v hb he => by
  unfold opS; simp only [hi, hb, if_true, wp_value he]
 have jval : ∀ (K : Act → World → Prop) (b : Act) (w : World) (v : Value), Region.wanted oj (yielded ops b.tmps) = true → (execOp b.eval oj).run P w = .ok (.value v) w → (opS P kind ops Q j K b w ↔ Good P (kind oj) oj b w ∧ K (b.put oj.dst v) w) := fun K b w v hb he => by
  unfold opS; simp only [hj, hb, if_true, wp_value he]
 -- whatever j comes to, i's slot, guard and operands are as they were
 have jkeep : ∀ (K K' : Act → World → Prop) (b : Act) (w : World), (∀ u w', K (b.put oj.dst u) w' → K' (b.put oj.dst u) w') → (∀ d u w', K (({ b with defers := d :: b.defers } : Act).put oj.dst u) w' → K' (({ b with defers := d :: b.defers } : Act).put oj.dst u) w') →
   opS P kind ops Q j K b w → opS P kind ops Q j K' b w := fun K K' b w hK hD hh => by
  unfold opS at *
  simp only [hj] at *
  split
  ·rename_i hw
   simp only [hw, if_true] at hh
   refine ⟨hh.1, ?_⟩
   have h2 := hh.2
   unfold Oper.wp at *
   generalize (execOp b.eval oj).run P w = r at *
   cases r with
   | ok n w' =>
     cases n <;> simp only [Oper.upon] at h2 ⊢
     case value u => exact hK _ _ h2
     case skip => exact hK _ _ h2
     case defer q => exact hD _ _ _ h2
     case enter f args =>
      refine Calls.mono h2 fun e w'' he => ?_
      cases e with
      | returned u => exact hK _ _ he
      | panicked c => exact he
      | outgrown => exact he
     case row r args => exact Rows.mono h2 fun u w'' he => hK _ _ he
   | halt x w' =>
     cases x <;> simp only [Oper.upon] at h2 ⊢
     case panic u => exact h2
  ·rename_i hw
   simp only [hw] at hh
   exact hK _ _ hh
 by_cases hwi : Region.wanted oi (yielded ops a.tmps) = true
 case neg =>
  have hwi' : Region.wanted oi (yielded ops a.tmps) = false := by simpa using hwi
  rw [show opS P kind ops Q i (opS P kind ops Q j K) a w = opS P kind ops Q j K (a.put oi.dst undef) w from by unfold opS; simp only [hi, hwi', Bool.false_eq_true, if_false]] at h
  rw [jput] at h
  refine jkeep _ _ a w (fun u w' hh => ?_) (fun d u w' hh => ?_) h
  ·rw [iskip _ _ (by rw [wi]; exact hwi')]; exact hh
  ·rw [iskip _ _ (by rw [wi]; exact hwi')]; exact hh
 case pos =>
  have hgw : Good P (kind oi) oi a w ∧ oi.wp P a w (opS P kind ops Q j K) Q := by unfold opS at h; simp only [hi, hwi, if_true] at h; exact h
  obtain ⟨hg, hw⟩ := hgw
  by_cases hi0 : kind oi = 0
  ·-- i yields one value in every world
   obtain ⟨v, hv⟩ : ∃ v, ∀ w', (execOp a.eval oi).run P w' = .ok (.value v) w' := by rw [hi0] at hg; exact hg
   have hj1 : opS P kind ops Q j K (a.put oi.dst v) w := ((ival _ a w v hwi (hv w)).1 h).2
   rw [jput] at hj1
   refine jkeep _ _ a w (fun u w' hh => ?_) (fun d u w' hh => ?_) hj1
   ·refine (ival _ _ w' v (by rw [wi]; exact hwi) (by rw [execOp_put (ops := ops) oi hsi a oj.dst u h3]; exact hv w')).2 ⟨?_, hh⟩
    rw [gi, hi0]; exact ⟨v, hv⟩
   ·refine (ival _ _ w' v (by rw [wi]; exact hwi) (by rw [execOp_put (ops := ops) oi hsi _ oj.dst u h3]; exact hv w')).2 ⟨?_, hh⟩
    rw [gi, hi0]; exact ⟨v, hv⟩
  ·by_cases hwj : Region.wanted oj (yielded ops a.tmps) = true
   case neg =>
    have hwj' : Region.wanted oj (yielded ops a.tmps) = false := by simpa using hwj
    rw [jskip _ _ _ hwj', iput]
    have hwj2 : ∀ (b : Act) u, b.tmps = a.tmps → Region.wanted oj (yielded ops (b.put oi.dst u).tmps) = false := fun b u hb => by rw [wanted_of hb h1]; exact hwj'
    unfold opS at h ⊢
    simp only [hi, hwi, if_true] at h ⊢
    refine ⟨h.1, ?_⟩
    have h2 := h.2
    unfold Oper.wp at *
    generalize (execOp a.eval oi).run P w = r at *
    have fin : ∀ (b : Act) u w', b.tmps = a.tmps → (match ops[j]? with
      | none => K (b.put oi.dst u) w'
      | some o => if Region.wanted o (yielded ops (b.put oi.dst u).tmps) = true then Good P (kind o) o (b.put oi.dst u) w' ∧ o.upon P (b.put oi.dst u) K Q ((execOp (b.put oi.dst u).eval o).run P w') else K ((b.put oi.dst u).put o.dst undef) w') → K ((b.put oi.dst u).put oj.dst undef) w' := fun b u w' hb hh => by
     simp only [hj, hwj2 b u hb, Bool.false_eq_true, if_false] at hh; exact hh
    cases r with
    | ok n w' =>
      cases n <;> simp only [Oper.upon] at h2 ⊢
      case value u => exact fin _ _ _ rfl h2
      case skip => exact fin _ _ _ rfl h2
      case defer q => exact fin _ _ _ rfl h2
      case enter f args =>
       refine Calls.mono h2 fun e w'' he => ?_
       cases e with
       | returned u => exact fin _ _ _ rfl he
       | panicked c => exact he
       | outgrown => exact he
      case row r args => exact Rows.mono h2 fun u w'' he => fin _ _ _ rfl he
    | halt x w' =>
      cases x <;> simp only [Oper.upon] at h2 ⊢
      case panic u => exact h2
   case pos =>
    by_cases hj0 : kind oj = 0
    ·-- j yields one value in every world
     obtain ⟨b, u0, w0, hb1, hb2, hb3⟩ := wp_some hp hw
     have hwjb : Region.wanted oj (yielded ops (b.put oi.dst u0).tmps) = true := by rw [wanted_of hb2 h1]; exact hwj
     have hG : Good P (kind oj) oj (b.put oi.dst u0) w0 := by unfold opS at hb1; simp only [hj, hwjb, if_true] at hb1; exact hb1.1
     rw [gj, hj0] at hG
     obtain ⟨v, hv⟩ := hG
     rw [hb3] at hv
     refine (jval _ a w v hwj (hv w)).2 ⟨by rw [hj0]; exact ⟨v, hv⟩, ?_⟩
     rw [iput]
     unfold opS at h ⊢
     simp only [hi, hwi, if_true] at h ⊢
     refine ⟨h.1, ?_⟩
     have h2 := h.2
     have fin : ∀ (b : Act) u w', b.tmps = a.tmps → b.eval = a.eval → opS P kind ops Q j K (b.put oi.dst u) w' → K ((b.put oi.dst u).put oj.dst v) w' := fun b u w' hb he hh =>
      ((jval _ _ w' v (by rw [wanted_of hb h1]; exact hwj) (by rw [execOp_put (ops := ops) oj hsj b oi.dst u h1, he]; exact hv w')).1 hh).2
     change oi.wp P a w (opS P kind ops Q j K) Q at h2
     unfold Oper.wp at *
     generalize (execOp a.eval oi).run P w = r at *
     cases r with
     | ok n w' =>
       cases n <;> simp only [Oper.upon] at h2 ⊢
       case value u => exact fin _ _ _ rfl rfl h2
       case skip => exact fin _ _ _ rfl rfl h2
       case defer q => exact fin _ _ _ rfl rfl h2
       case enter f args =>
        refine Calls.mono h2 fun e w'' he => ?_
        cases e with
        | returned u => exact fin _ _ _ rfl rfl he
        | panicked c => exact he
        | outgrown => exact he
       case row r args => exact Rows.mono h2 fun u w'' he => fin _ _ _ rfl rfl he
     | halt x w' =>
       cases x <;> simp only [Oper.upon] at h2 ⊢
       case panic u => exact h2
    ·obtain ⟨hi1, hj1⟩ : kind oi ≤ 1 ∧ kind oj ≤ 1 := by rcases hk with h | h | h <;> first | exact absurd h hi0 | exact absurd h hj0 | exact h
     obtain ⟨v, hv⟩ := hg.one hi1
     have hh := ((ival _ a w v hwi hv).1 h).2
     have hwj2 : Region.wanted oj (yielded ops (a.put oi.dst v).tmps) = true := by rw [wj]; exact hwj
     have hG : Good P (kind oj) oj (a.put oi.dst v) w := by unfold opS at hh; simp only [hj, hwj2, if_true] at hh; exact hh.1
     rw [gj] at hG
     obtain ⟨u, hu⟩ := hG.one hj1
     have hK := ((jval _ _ w u hwj2 (by rw [execOp_put (ops := ops) oj hsj a oi.dst v h1]; exact hu)).1 hh).2
     refine (jval _ a w u hwj hu).2 ⟨hG, ?_⟩
     refine (ival _ _ w v (by rw [wi]; exact hwi) (by rw [execOp_put (ops := ops) oi hsi a oj.dst u h3]; exact hv)).2 ⟨by rw [gi]; exact hg, ?_⟩
     rw [← pc]; exact hK
end
/-! The order of the text serves every order. -/
inductive Anc (ops : Array Oper) : Nat → Nat → Prop
 | one {j i : Nat} {oj : Oper} {e : Edge} : ops[j]? = some oj → e ∈ oj.after → Region.binds .any e = true → e.on = i → Anc ops j i
 | more {j i : Nat} {oj : Oper} {e : Edge} : ops[j]? = some oj → e ∈ oj.after → Region.binds .any e = true → Anc ops e.on i → Anc ops j i
section
variable {P : Program} {ops : Array Oper} {Q : Exit → Act → World → Prop}
def Closed (ops : Array Oper) (listed : Array Bool) : Prop :=
 ∀ j oj, ops[j]? = some oj → listed.getD j false = true → ∀ e ∈ oj.after, Region.binds .any e = true → listed.getD e.on false = true
theorem Closed.anc {listed : Array Bool} (h : Closed ops listed) {j i : Nat} (ha : Anc ops j i) (hj : listed.getD j false = true) : listed.getD i false = true := by
 induction ha with
 | one ho he hb hon => rw [← hon]; exact h _ _ ho hj _ he hb
 | more ho he hb _ ih => exact ih (h _ _ ho hj _ he hb)
theorem ready_anc {listed : Array Bool} (h : Closed ops listed) {j i : Nat} (hj : j ∈ Region.ready .any ops listed) (ha : Anc ops j i) : listed.getD i false = true := by
 obtain ⟨_, oj, ho, hall⟩ := mem_ready.1 hj
 cases ha with
 | one ho' he hb hon => rw [ho] at ho'; cases ho'; rw [← hon]; exact hall _ he hb
 | more ho' he hb hr => rw [ho] at ho'; cases ho'; exact h.anc hr (hall _ he hb)
theorem Closed.set {listed : Array Bool} (h : Closed ops listed) {j : Nat} (hj : j ∈ Region.ready .any ops listed) : Closed ops (listed.setIfInBounds j true) := by
 intro k ok hk hl e he hb
 obtain ⟨_, oj, ho, hall⟩ := mem_ready.1 hj
 by_cases hjk : j = k
 ·subst hjk; rw [ho] at hk; cases hk; exact getD_set_true (hall e he hb)
 ·rw [getD_set_ne false hjk] at hl; exact getD_set_true (h k ok hk hl e he hb)
def anyS (P : Program) (kind : Oper → Nat) (ops : Array Oper) (Q : Exit → Act → World → Prop) : Nat → Array Bool → Act → World → Prop
 | 0, listed, a, w => Region.ready .any ops listed = [] ∧ Q .normal a w
 | fuel + 1, listed, a, w =>
   (Region.ready .any ops listed = [] → Q .normal a w) ∧
   ∀ i ∈ Region.ready .any ops listed, opS P kind ops Q i (anyS P kind ops Q fuel (listed.setIfInBounds i true)) a w
theorem anyS_any {kind : Oper → Nat} : ∀ (fuel : Nat) (listed : Array Bool) (a : Act) (w : World), anyS P kind ops Q fuel listed a w → wpAny P .any ops Q fuel listed a w
 | 0, _, _, _, h => h
 | f + 1, _, _, _, h => ⟨h.1, fun i hi => wpOp_mono (fun a w h' => anyS_any f _ a w h') (opS_wpOp (h.2 i hi))⟩
theorem getD_get {listed : Array Bool} {i : Nat} (h : listed.getD i true = false) : listed.getD i false = false := by
 rcases Nat.lt_or_ge i listed.size with h' | h'
 ·simp [h'] at h ⊢; exact h
 ·simp [Array.getElem?_eq_none h'] at h
theorem first {kind : Oper → Nat} {i : Nat} {oi : Oper} (hi : ops[i]? = some oi) (hp : Plain Q) (hsel : ∀ (j : Nat) (o : Oper) cs b, ops[j]? = some o → o.op ≠ .select cs b) :
  ∀ (fuel : Nat) (listed : Array Bool) (a : Act) (w : World), Closed ops listed →
   (∀ j oj, ops[j]? = some oj → j ≠ i → listed.getD j true = false → ¬ Anc ops j i → oi.apart ops oj = true ∧ (kind oi = 0 ∨ kind oj = 0 ∨ (kind oi ≤ 1 ∧ kind oj ≤ 1))) →
   i ∈ Region.ready .any ops listed → opS P kind ops Q i (anyS P kind ops Q fuel (listed.setIfInBounds i true)) a w → anyS P kind ops Q (fuel + 1) listed a w := by
 intro fuel
 induction fuel with
 | zero =>
   intro listed a w hc hfree hr H
   refine ⟨fun h => (by rw [h] at hr; cases hr), fun j hj => ?_⟩
   by_cases hji : j = i
   ·subst hji; exact H
   ·exfalso
    have hun := (mem_ready.1 hr).1
    have hjr : ∀ a w, ¬ anyS P kind ops Q 0 (listed.setIfInBounds i true) a w := fun a w h => by
     have := ready_mono hj hji
     rw [h.1] at this; cases this
    unfold opS at H
    simp only [hi] at H
    split at H
    ·obtain ⟨b, u, w', hk, _⟩ := wp_some hp H.2
     exact hjr _ _ hk
    ·exact hjr _ _ H
 | succ f ih =>
   intro listed a w hc hfree hr H
   have hun := (mem_ready.1 hr).1
   refine ⟨fun h => (by rw [h] at hr; cases hr), fun j hj => ?_⟩
   by_cases hji : j = i
   ·subst hji; exact H
   ·obtain ⟨hjun, oj, hoj, _⟩ := mem_ready.1 hj
    have hno : ¬ Anc ops j i := fun ha => by
     have h1 := ready_anc hc hj ha
     rw [getD_get hun] at h1; cases h1
    obtain ⟨hap, hk⟩ := hfree j oj hoj hji hjun hno
    have H1 : opS P kind ops Q i (opS P kind ops Q j (anyS P kind ops Q f ((listed.setIfInBounds i true).setIfInBounds j true))) a w :=
     opS_mono (fun a w h => h.2 j (ready_mono hj hji)) H
    have H2 := opS_swap hi hoj hp (fun cs b => hsel i oi cs b hi) (fun cs b => hsel j oj cs b hoj) hap hk H1
    refine opS_mono (fun a' w' h' => ih (listed.setIfInBounds j true) a' w' (hc.set hj) ?_ (ready_mono hr (Ne.symm hji)) ?_) H2
    ·intro k ok hk hki hun2 hno2
     refine hfree k ok hk hki ?_ hno2
     by_cases hjk : j = k
     ·subst hjk; exact hjun
     ·rw [getD_set_ne true hjk] at hun2; exact hun2
    ·rw [Array.setIfInBounds_comm _ _ hji]; exact h'
def lexS (P : Program) (kind : Oper → Nat) (ops : Array Oper) (Q : Exit → Act → World → Prop) : List Oper → Nat → Act → World → Prop
 | [], _, a, w => Q .normal a w
 | _ :: rest, k, a, w => opS P kind ops Q k (lexS P kind ops Q rest (k + 1)) a w
structure Fine (kind : Oper → Nat) (ops : Array Oper) : Prop where
 sel : ∀ (j : Nat) (o : Oper) cs b, ops[j]? = some o → o.op ≠ .select cs b
 back : ∀ (j : Nat) (o : Oper), ops[j]? = some o → ∀ e ∈ o.after, Region.binds .any e = true → e.on < j
 free : ∀ (i j : Nat) (oi oj : Oper), i < j → ops[i]? = some oi → ops[j]? = some oj → ¬ Anc ops j i → oi.apart ops oj = true ∧ (kind oi = 0 ∨ kind oj = 0 ∨ (kind oi ≤ 1 ∧ kind oj ≤ 1))
theorem any_of_lex {kind : Oper → Nat} (hp : Plain Q) (hf : Fine kind ops) : ∀ (l : List Oper) (k : Nat) (listed : Array Bool) (a : Act) (w : World), (∀ j, l[j]? = ops[k + j]?) →
  listed.size = ops.size → (∀ j, j < k → listed.getD j false = true) → (∀ j, k ≤ j → j < ops.size → listed.getD j true = false) →
  lexS P kind ops Q l k a w → anyS P kind ops Q l.length listed a w
 | [], k, listed, a, w, hl, hs, h1, h2, h => by
   refine ⟨?_, h⟩
   refine List.eq_nil_iff_forall_not_mem.2 fun j hj => ?_
   obtain ⟨hun, oj, hoj, _⟩ := mem_ready.1 hj
   have hjs : j < ops.size := (Array.getElem?_eq_some_iff.1 hoj).1
   rcases Nat.lt_or_ge j k with hjk | hjk
   ·have := h1 j hjk; rw [getD_get hun] at this; cases this
   ·have := hl (j - k)
    rw [show k + (j - k) = j by omega, hoj] at this
    simp at this
 | o :: l, k, listed, a, w, hl, hs, h1, h2, h => by
   have h0 : ops[k]? = some o := by simpa using (hl 0).symm
   have hks : k < ops.size := (Array.getElem?_eq_some_iff.1 h0).1
   have hr : k ∈ Region.ready .any ops listed := mem_ready.2 ⟨h2 k (Nat.le_refl _) hks, o, h0, fun e he hb => h1 _ (hf.back k o h0 e he hb)⟩
   have hc : Closed ops listed := by
    intro j oj hj hlj e he hb
    rcases Nat.lt_or_ge j k with hjk | hjk
    ·exact h1 _ (by have := hf.back j oj hj e he hb; omega)
    ·have hjs : j < ops.size := (Array.getElem?_eq_some_iff.1 hj).1
     rw [getD_get (h2 j hjk hjs)] at hlj; cases hlj
   refine first h0 hp hf.sel l.length listed a w hc (fun j oj hj hjk hun hno => ?_) hr ?_
   ·have hjs : j < ops.size := (Array.getElem?_eq_some_iff.1 hj).1
    rcases Nat.lt_or_ge j k with hlt | hge
    ·have := h1 j hlt; rw [getD_get hun] at this; cases this
    ·exact hf.free k j o oj (by omega) h0 hj hno
   ·refine opS_mono (fun a' w' h' => any_of_lex hp hf l (k + 1) (listed.setIfInBounds k true) a' w' (fun j => by have := hl (j + 1); simpa [Nat.add_assoc, Nat.add_comm 1 j] using this) (by simp [hs]) ?_ ?_ h') h
    ·intro j hj
     by_cases hjk : k = j
     ·subst hjk; rw [Array.getD_eq_getD_getElem?]; simp [hs, hks]
     ·rw [getD_set_ne false hjk]; exact h1 j (by omega)
    ·intro j hj hjs
     rw [getD_set_ne true (by omega)]; exact h2 j (by omega) hjs
end
/-! The look. -/
def eqPlain (P : Program) : Nat → TypeId → Bool
 | 0, _ => false
 | d + 1, t => match P.underlying t with
   | some (.int _) | some .bool | some .string => true
   | some (.struct fs) => fs.toList.all fun f => eqPlain P d f.type
   | _ => false
def cls (P : Program) (t : TypeId) : Nat :=
 match P.underlying t with
 | some (.int _) => 1
 | some .bool => 2
 | some .string => 3
 | some (.pointer _) => 4
 | some (.slice _) => 5
 | _ => 0
def isNil : Operand → Bool
 | .const (.pointer none) => true
 | _ => false
def isCmp : BinOp → Bool
 | .eql | .neq => true
 | _ => false
def checks (P : Program) (o : Op) : List (Nat × Operand) :=
 match o with
 | .binOp _ t x y _ => if cls P t = 4 then [] else if cls P t = 0 then [(6, x), (6, y)] else [(cls P t, x), (cls P t, y)]
 | .convert s _ x => [(cls P s, x)]
 | .call c => match c.callee with
   | .builtin .min | .builtin .max => (c.args.toList.map fun x => (1, x))
   | _ => []
 | _ => []
def bigField (P : Program) (s : TypeId) (f : Nat) : Bool :=
 match P.underlying s with
 | some (.struct fs) => match fs[f]? with
   | some fd => match P.info? fd.type with
     | some i => i.size != 0
     | none => false
   | none => false
 | _ => false
def bytesT (P : Program) (t : TypeId) : Bool :=
 match P.underlying t with
 | some (.slice e) => match P.underlying e with
   | some (.int .u8) => true
   | _ => false
 | _ => false
def kindOf (P : Program) (o : Oper) : Nat :=
 match o.op with
 | .move _ | .assign _ | .pick _ _ _ | .nilCheck _ | .field _ _ _ | .indexAddr _ _ _ | .index _ _ _ | .extract _ _ | .unOp _ _ _ | .slice _ _ _ _ _ | .makeInterface _ _ | .build _ _ => 0
 | .fieldAddr s _ f => if bigField P s f then 0 else 2
 | .binOp op t x y _ =>
   match cls P t with
   | 1 | 2 | 3 => 0
   | 4 => if isCmp op && (isNil x || isNil y) then 0 else 2
   | 0 => if isCmp op && eqPlain P 6 t && !P.eqGuardType P.depth t then 1 else 2
   | _ => 2
 | .convert s d _ => if cls P s = 1 && cls P d = 1 then 0 else if bytesT P s && cls P d = 3 then 1 else 2
 | .load _ _ => 1
 | .call c => match c.callee with
   | .builtin .len => match c.argTypes[0]? with
     | some t => if cls P t = 3 || cls P t = 5 then 0 else 2
     | none => 2
   | .builtin .min | .builtin .max => 0
   | _ => 2
 | _ => 2
def shapeOk : Nat → Value → Bool
 | 1, .int _ _ => true
 | 2, .bool _ => true
 | 3, .string _ => true
 | 5, .slice _ _ _ => true
 | 6, .agg _ => true
 | _, .tuple _ => true
 | _, _ => false
def operandAt (tmps : Array Value) : Operand → Value
 | .tmp t => tmps.getD t undef
 | .const v => v
 | _ => .pointer none
def good (P : Program) (l : List Oper) (tmps : Array Value) : Bool := l.all fun o => decide (2 ≤ kindOf P o) || (checks P o.op).all fun c => shapeOk c.1 (operandAt tmps c.2)
def ancStep (rows : List Nat) (o : Oper) : Nat := o.after.toList.foldl (fun m e => if Region.binds .any e then m ||| 2 ^ e.on ||| rows.getD e.on 0 else m) 0
def ancRows : List Oper → List Nat → List Nat
 | [], rows => rows
 | o :: l, rows => ancRows l (rows ++ [ancStep rows o])
def noSel : Op → Bool
 | .select _ _ => false
 | _ => true
def kept (P : Program) : List Oper → Bool
 | [] => true
 | o :: l => ((checks P o.op).all fun c => match c.2 with | .tmp t => (o :: l).all (fun o' => o'.dst != some t) | .const _ => true | _ => decide (2 ≤ kindOf P o)) && kept P l
def commB (P : Program) (ops : Array Oper) (x y : Oper) : Bool :=
 x.apart ops y && (kindOf P x == 0 || kindOf P y == 0 || (decide (kindOf P x ≤ 1) && decide (kindOf P y ≤ 1)))
def freeB (P : Program) (ops : Array Oper) (rows : List Nat) : Nat → List Oper → Bool
 | _, [] => true
 | i, o :: l => ((List.range l.length).all fun d => (rows.getD (i + 1 + d) 0).testBit i || match l[d]? with | some o' => commB P ops o o' | none => true) && freeB P ops rows (i + 1) l
def okB (P : Program) (l : List Oper) : Bool :=
 l.all (fun o => noSel o.op) && kept P l &&
 ((List.range l.length).all fun j => match l[j]? with | some o => o.after.toList.all (fun e => !Region.binds .any e || decide (e.on < j)) | none => true) &&
 freeB P l.toArray (ancRows l []) 0 l
/-! Each kind is what it says. -/
section
variable {P : Program}
def BlindV (P : Program) (s : Sem Next) : Prop := ∀ w x w1, s.run P w = .ok x w1 → (∃ v, x = .value v) ∧ w1 = w ∧ ∀ w', s.run P w' = .ok x w'
def ReadsV (P : Program) (s : Sem Next) : Prop := ∀ w x w1, s.run P w = .ok x w1 → (∃ v, x = .value v) ∧ w1 = w
theorem run_v {s : Sem Value} {w w1 : World} {x : Next} (e : (do pure (Next.value (← s)) : Sem Next).run P w = .ok x w1) : ∃ v, x = .value v ∧ s.run P w = .ok v w1 := by
 change Sem.run P (Sem.bind s fun v => pure (Next.value v)) w = _ at e
 rw [Sem.run_bind'] at e
 cases hs : s.run P w with
 | ok v w' =>
   rw [hs] at e
   have e' : Result.ok (Next.value v) w' = .ok x w1 := e
   injection e' with h1 h2
   subst h1; subst h2
   exact ⟨v, rfl, rfl⟩
 | halt q w' => rw [hs] at e; cases e
theorem v_run {s : Sem Value} {w w1 : World} {v : Value} (e : s.run P w = .ok v w1) : (do pure (Next.value (← s)) : Sem Next).run P w = .ok (.value v) w1 := by
 change Sem.run P (Sem.bind s fun v => pure (Next.value v)) w = _
 rw [Sem.run_bind', e]; rfl
theorem blindV_of {s : Sem Value} (h : Blind P s) : BlindV P (do pure (Next.value (← s)) : Sem Next) := fun w x w1 e => by
 obtain ⟨v, rfl, hs⟩ := run_v e
 obtain ⟨rfl, h2⟩ := h _ _ _ hs
 exact ⟨⟨v, rfl⟩, rfl, fun w' => v_run (h2 w')⟩
theorem readsV_of {s : Sem Value} (h : Reads P s) : ReadsV P (do pure (Next.value (← s)) : Sem Next) := fun w x w1 e => by
 obtain ⟨v, rfl, hs⟩ := run_v e
 exact ⟨⟨v, rfl⟩, h _ _ _ hs⟩
theorem blindV_value (v : Value) : BlindV P (pure (Next.value v) : Sem Next) := fun w x w1 e => by
 have e' : Result.ok (Next.value v) w = .ok x w1 := e
 injection e' with h1 h2
 subst h1; subst h2
 exact ⟨⟨v, rfl⟩, rfl, fun _ => rfl⟩
theorem blindV_noOk {s : Sem Next} (h : NoOk P s) : BlindV P s := fun w x w1 e => absurd e (h w x w1)
theorem blindV_bind {α : Type} {s : Sem α} {f : α → Sem Next} (h : Blind P s) (g : ∀ a, BlindV P (f a)) : BlindV P (s >>= f) := fun w x w1 e => by
 change Sem.run P (Sem.bind s f) w = _ at e
 rw [Sem.run_bind'] at e
 cases hs : s.run P w with
 | ok a w' =>
   rw [hs] at e
   obtain ⟨rfl, h2⟩ := h _ _ _ hs
   obtain ⟨hv, rfl, g2⟩ := g a _ _ _ e
   refine ⟨hv, rfl, fun w'' => ?_⟩
   change Sem.run P (Sem.bind s f) w'' = _
   rw [Sem.run_bind', h2 w'']
   exact g2 w''
 | halt q w' => rw [hs] at e; cases e
theorem blind_underlying_bind {α : Type} {t : TypeId} {f : TypeDesc → Sem α} (h : ∀ d, P.underlying t = some d → Blind P (f d)) : Blind P (underlying t >>= f) := fun w x w1 e => by
 cases hd : P.underlying t with
 | some d =>
   have hu : ∀ w, (underlying t).run P w = .ok d w := fun w => by
    unfold underlying
    change Sem.run P (Sem.bind program _) w = _
    rw [Sem.run_bind']
    change (Result.ok P w).andThen _ = _
    simp only [Result.andThen_ok, hd]
    rfl
   have hr : ∀ w, Sem.run P (underlying t >>= f) w = (f d).run P w := fun w => by
    change Sem.run P (Sem.bind (underlying t) f) w = _
    rw [Sem.run_bind', hu]; rfl
   rw [hr] at e
   obtain ⟨rfl, h2⟩ := h d hd _ _ _ e
   exact ⟨rfl, fun w' => by rw [hr]; exact h2 w'⟩
 | none =>
   exfalso
   change Sem.run P (Sem.bind (underlying t) f) w = _ at e
   rw [Sem.run_bind'] at e
   have hu : (underlying t).run P w = .halt (.stuck "no such type") w := by
    unfold underlying
    change Sem.run P (Sem.bind program _) w = _
    rw [Sem.run_bind']
    change (Result.ok P w).andThen _ = _
    simp only [Result.andThen_ok, hd]
    rfl
   rw [hu] at e; cases e
theorem reads_underlying_bind {α : Type} {t : TypeId} {f : TypeDesc → Sem α} (h : ∀ d, P.underlying t = some d → Reads P (f d)) : Reads P (underlying t >>= f) := fun w x w1 e => by
 change Sem.run P (Sem.bind (underlying t) f) w = _ at e
 rw [Sem.run_bind'] at e
 cases hd : P.underlying t with
 | some d =>
   have hu : (underlying t).run P w = .ok d w := by
    unfold underlying
    change Sem.run P (Sem.bind program _) w = _
    rw [Sem.run_bind']
    change (Result.ok P w).andThen _ = _
    simp only [Result.andThen_ok, hd]
    rfl
   rw [hu] at e; exact h d hd _ _ _ e
 | none =>
   have hu : (underlying t).run P w = .halt (.stuck "no such type") w := by
    unfold underlying
    change Sem.run P (Sem.bind program _) w = _
    rw [Sem.run_bind']
    change (Result.ok P w).andThen _ = _
    simp only [Result.andThen_ok, hd]
    rfl
   rw [hu] at e; cases e
theorem blind_equalIn_bool (d : Nat) (t : TypeId) (a b : Bool) : Blind P (Op.equalIn d t (.bool a) (.bool b)) := by
 cases d with
 | zero => unfold Op.equalIn; exact (noOk_unsupported _).blind
 | succ d =>
   unfold Op.equalIn
   refine blind_bind (blind_underlying _) fun d => ?_
   split <;> first | exact blind_pure _ | exact (noOk_stuck _).blind | exact (noOk_unsupported _).blind | contradiction
theorem blind_equalIn_tuple_l (d : Nat) (t : TypeId) (a : Array Value) (y : Value) : Blind P (Op.equalIn d t (.tuple a) y) := by
 cases d with
 | zero => unfold Op.equalIn; exact (noOk_unsupported _).blind
 | succ d =>
   unfold Op.equalIn
   refine blind_bind (blind_underlying _) fun d => ?_
   split <;> first | exact blind_pure _ | exact (noOk_stuck _).blind | exact (noOk_unsupported _).blind | contradiction
theorem blind_equalIn_tuple_r (d : Nat) (t : TypeId) (a : Array Value) (y : Value) : Blind P (Op.equalIn d t y (.tuple a)) := by
 cases d with
 | zero => unfold Op.equalIn; exact (noOk_unsupported _).blind
 | succ d =>
   unfold Op.equalIn
   refine blind_bind (blind_underlying _) fun d => ?_
   split <;> first | exact blind_pure _ | exact (noOk_stuck _).blind | exact (noOk_unsupported _).blind | contradiction
theorem blind_equalIn_nil_r (d : Nat) (t : TypeId) (y : Value) : Blind P (Op.equalIn d t y (.pointer none)) := by
 cases d with
 | zero => unfold Op.equalIn; exact (noOk_unsupported _).blind
 | succ d =>
   unfold Op.equalIn
   refine blind_bind (blind_underlying _) fun d => ?_
   split <;> first | exact blind_pure _ | exact (noOk_stuck _).blind | exact (noOk_unsupported _).blind | (exfalso; simp_all; done) | (unfold samePointer; split <;> first | exact blind_pure _ | (exfalso; simp_all; done))
theorem blind_equalIn_nil_l (d : Nat) (t : TypeId) (y : Value) : Blind P (Op.equalIn d t (.pointer none) y) := by
 cases d with
 | zero => unfold Op.equalIn; exact (noOk_unsupported _).blind
 | succ d =>
   unfold Op.equalIn
   refine blind_bind (blind_underlying _) fun d => ?_
   split <;> first | exact blind_pure _ | exact (noOk_stuck _).blind | exact (noOk_unsupported _).blind | (exfalso; simp_all; done) | (unfold samePointer; split <;> first | exact blind_pure _ | (exfalso; simp_all; done))
inductive Shaped : Nat → Value → Prop
 | int (k n) : Shaped 1 (.int k n)
 | bool (b) : Shaped 2 (.bool b)
 | str (s) : Shaped 3 (.string s)
 | slice (a n c) : Shaped 5 (.slice a n c)
 | agg (c) : Shaped 6 (.agg c)
 | none (c a) : Shaped c (.tuple a)
theorem Shaped.not_nilIface {c : Nat} {v : Value} (h : Shaped c v) : v ≠ .nilIface := by intro e; subst e; cases h
theorem Shaped.not_agg {c : Nat} {v : Value} (h : Shaped c v) (hc : c = 1 ∨ c = 2 ∨ c = 3) : ∀ l, v ≠ .agg l := by
 intro l e; subst e; cases h; omega
theorem shaped_of {c : Nat} {v : Value} (h : shapeOk c v = true) : Shaped c v := by
 unfold shapeOk at h
 split at h
 ·exact .int _ _
 ·exact .bool _
 ·exact .str _
 ·exact .slice _ _ _
 ·exact .agg _
 ·exact .none _ _
 ·cases h
theorem blind_binOp_shaped {c : Nat} {x y : Value} (hx : Shaped c x) (hy : Shaped c y) (hc : c = 1 ∨ c = 2 ∨ c = 3) (op : BinOp) (t : TypeId) : Blind P (Go.binOp op t x y) := by
 have eq : ∀ x y, Blind P (Op.equal t x y) → Blind P (do pure (.bool (← Op.equal t x y)) : Sem Value) := fun x y h => blind_bind h fun _ => blind_pure _
 have ne : ∀ x y, Blind P (Op.equal t x y) → Blind P (do pure (.bool (!(← Op.equal t x y))) : Sem Value) := fun x y h => blind_bind h fun _ => blind_pure _
 have l : ∀ a y, Blind P (Op.equal t (.tuple a) y) := fun a y => blind_equalIn_tuple_l _ _ _ _
 have r : ∀ a y, Blind P (Op.equal t y (.tuple a)) := fun a y => blind_equalIn_tuple_r _ _ _ _
 have b : ∀ a y, Blind P (Op.equal t (.bool a) (.bool y)) := fun a y => blind_equalIn_bool _ _ _ _
 cases hx with
 | int k n => cases hy with
   | int k' n' => exact blind_binOp_int _ _ _ _ _ _
   | none c a => cases op <;> (unfold Go.binOp; first | exact eq _ _ (r _ _) | exact ne _ _ (r _ _) | exact (noOk_stuck _).blind)
 | bool v => cases hy with
   | bool v' => cases op <;> (unfold Go.binOp; first | exact eq _ _ (b _ _) | exact ne _ _ (b _ _) | exact (noOk_stuck _).blind)
   | none c a => cases op <;> (unfold Go.binOp; first | exact eq _ _ (r _ _) | exact ne _ _ (r _ _) | exact (noOk_stuck _).blind)
 | str s => cases hy with
   | str s' => cases op <;> (unfold Go.binOp; exact blind_stringOp _ _ _)
   | none c a => cases op <;> (unfold Go.binOp; first | exact eq _ _ (r _ _) | exact ne _ _ (r _ _) | exact (noOk_stuck _).blind)
 | slice a n m => rcases hc with h | h | h <;> cases h
 | agg c => rcases hc with h | h | h <;> cases h
 | none c a => cases hy <;> cases op <;> (unfold Go.binOp; first | exact eq _ _ (l _ _) | exact ne _ _ (l _ _) | exact (noOk_stuck _).blind)
theorem blind_eqGuard_r {op : BinOp} {t : TypeId} {x y : Operand} {a b : Value} (h : b ≠ .nilIface) (h2 : ∀ c, b ≠ .agg c) : Blind P (eqGuard op t x y a b) := by
 unfold eqGuard
 split
 all_goals (repeat' (first | exact blind_pure _ | (exfalso; simp_all; done) | split))
theorem blind_eqGuard_l {op : BinOp} {t : TypeId} {x y : Operand} {a b : Value} (h : a ≠ .nilIface) (h2 : ∀ c, a ≠ .agg c) : Blind P (eqGuard op t x y a b) := by
 unfold eqGuard
 split
 all_goals (repeat' (first | exact blind_pure _ | (exfalso; simp_all; done) | split))
theorem blind_binOp_nil_r {op : BinOp} (ho : isCmp op = true) (t : TypeId) (x : Value) : Blind P (Go.binOp op t x (.pointer none)) := by
 have e : Blind P (Op.equal t x (.pointer none)) := blind_equalIn_nil_r _ _ _
 cases op <;> first | (cases ho; done) | skip
 ·unfold Go.binOp; cases x <;> exact blind_bind e fun _ => blind_pure _
 ·unfold Go.binOp; cases x <;> exact blind_bind e fun _ => blind_pure _
theorem blind_binOp_nil_l {op : BinOp} (ho : isCmp op = true) (t : TypeId) (x : Value) : Blind P (Go.binOp op t (.pointer none) x) := by
 have e : Blind P (Op.equal t (.pointer none) x) := blind_equalIn_nil_l _ _ _
 cases op <;> first | (cases ho; done) | skip
 ·unfold Go.binOp; cases x <;> exact blind_bind e fun _ => blind_pure _
 ·unfold Go.binOp; cases x <;> exact blind_bind e fun _ => blind_pure _
theorem blind_minFold : ∀ (l : List Value) (x : Value), Shaped 1 x → (∀ y ∈ l, Shaped 1 y) → Blind P (l.foldlM Builtin.min2 x)
 | [], x, _, _ => blind_pure _
 | y :: l, x, hx, hl => by
   have hl' : ∀ y ∈ l, Shaped 1 y := fun y hy => hl y (List.mem_cons_of_mem _ hy)
   have hy := hl y (by simp)
   rw [List.foldlM_cons]
   cases hx with
   | int k n => cases hy with
     | int k' n' =>
       show Blind P (l.foldlM Builtin.min2 (.int k (if n' < n then n' else n)))
       exact blind_minFold l _ (.int _ _) hl'
     | none c a => exact (noOk_left (by unfold Builtin.min2; exact noOk_stuck _)).blind
   | none c a => cases hy <;> exact (noOk_left (by unfold Builtin.min2; exact noOk_stuck _)).blind
theorem blind_maxFold : ∀ (l : List Value) (x : Value), Shaped 1 x → (∀ y ∈ l, Shaped 1 y) → Blind P (l.foldlM Builtin.max2 x)
 | [], x, _, _ => blind_pure _
 | y :: l, x, hx, hl => by
   have hl' : ∀ y ∈ l, Shaped 1 y := fun y hy => hl y (List.mem_cons_of_mem _ hy)
   have hy := hl y (by simp)
   rw [List.foldlM_cons]
   cases hx with
   | int k n => cases hy with
     | int k' n' =>
       show Blind P (l.foldlM Builtin.max2 (.int k (if n' > n then n' else n)))
       exact blind_maxFold l _ (.int _ _) hl'
     | none c a => exact (noOk_left (by unfold Builtin.max2; exact noOk_stuck _)).blind
   | none c a => cases hy <;> exact (noOk_left (by unfold Builtin.max2; exact noOk_stuck _)).blind
theorem blind_min (ts : Array TypeId) (t : TypeId) (args : Array Value) (h : ∀ y ∈ args.toList, Shaped 1 y) : Blind P (Builtin.min_ ts t args) := by
 unfold Builtin.min_
 split
 ·exact (noOk_stuck _).blind
 ·rename_i x rest e
  rw [e] at h
  exact blind_minFold rest x (h x (by simp)) (fun y hy => h y (List.mem_cons_of_mem _ hy))
theorem blind_max (ts : Array TypeId) (t : TypeId) (args : Array Value) (h : ∀ y ∈ args.toList, Shaped 1 y) : Blind P (Builtin.max_ ts t args) := by
 unfold Builtin.max_
 split
 ·exact (noOk_stuck _).blind
 ·rename_i x rest e
  rw [e] at h
  exact blind_maxFold rest x (h x (by simp)) (fun y hy => h y (List.mem_cons_of_mem _ hy))
theorem blind_len (ts : Array TypeId) (t : TypeId) (args : Array Value) {t0 : TypeId} (h0 : ts[0]? = some t0) (h : cls P t0 = 3 ∨ cls P t0 = 5) : Blind P (Builtin.len_ ts t args) := by
 unfold Builtin.len_
 simp only [h0]
 cases ha : args[0]? with
 | none => exact (noOk_stuck _).blind
 | some x =>
   refine blind_underlying_bind fun d hd => ?_
   unfold cls at h
   rw [hd] at h
   split <;> first | exact blind_pure _ | exact (noOk_stuck _).blind | (exfalso; simp_all; done)
theorem cls1 {t : TypeId} (h : cls P t = 1) : ∃ k, P.underlying t = some (.int k) := by
 unfold cls at h; split at h <;> first | (cases h; done) | exact ⟨_, by assumption⟩
theorem cls3 {t : TypeId} (h : cls P t = 3) : P.underlying t = some .string := by
 unfold cls at h; split at h <;> first | (cases h; done) | assumption
theorem bytesT_of {t : TypeId} (h : bytesT P t = true) : ∃ e, P.underlying t = some (.slice e) ∧ P.underlying e = some (.int .u8) := by
 unfold bytesT at h
 split at h
 ·split at h
  ·exact ⟨_, by assumption, by assumption⟩
  ·cases h
 ·cases h
theorem blind_convert {s d : TypeId} {x : Value} (hs : cls P s = 1) (hd : cls P d = 1) (hx : Shaped 1 x) : Blind P (Go.convert s d x) := by
 obtain ⟨k1, hs⟩ := cls1 hs
 obtain ⟨k2, hd⟩ := cls1 hd
 unfold Go.convert
 refine blind_underlying_bind fun a ha => blind_underlying_bind fun b hb => ?_
 rw [hs] at ha; rw [hd] at hb
 cases ha; cases hb
 cases hx with
 | int k n => exact blind_pure _
 | none c l => exact (noOk_unsupported _).blind
theorem reads_loadCellsFrom (a : Addr) : ∀ (n i : Nat) (acc : Array Value), Reads P (loadCellsFrom a i n acc)
 | 0, i, acc => by unfold loadCellsFrom; exact reads_pure _
 | n + 1, i, acc => by unfold loadCellsFrom; exact reads_bind (reads_load _) fun _ => reads_loadCellsFrom a n _ _
theorem reads_loadAt (t : TypeId) (v : Value) : Reads P (Instr.loadAt t v) := by
 unfold Instr.loadAt
 refine reads_bind (blind_sureAddr _).reads fun a => ?_
 unfold loadVar
 refine reads_bind (blind_isAgg _).reads fun b => ?_
 split
 ·refine reads_bind (blind_sizeOf _).reads fun n => ?_
  refine reads_bind ?_ fun _ => reads_pure _
  unfold loadCells; exact reads_loadCellsFrom _ _ _ _
 ·exact reads_load _
theorem reads_forIn {α β : Type} (f : α → β → Sem (ForInStep β)) (h : ∀ a b, Reads P (f a b)) : ∀ (l : List α) (b : β), Reads P (forIn l b f)
 | [], b => by rw [List.forIn_nil]; exact reads_pure _
 | a :: l, b => by
   rw [List.forIn_cons]
   refine reads_bind (h _ _) fun r => ?_
   split
   ·exact reads_pure _
   ·exact reads_forIn f h l _
theorem reads_forIn_mem {α β : Type} (f : α → β → Sem (ForInStep β)) : ∀ (l : List α) (h : ∀ a ∈ l, ∀ b, Reads P (f a b)) (b : β), Reads P (forIn l b f)
 | [], _, b => by rw [List.forIn_nil]; exact reads_pure _
 | a :: l, h, b => by
   rw [List.forIn_cons]
   refine reads_bind (h _ (by simp) _) fun r => ?_
   split
   ·exact reads_pure _
   ·exact reads_forIn_mem f l (fun a ha => h a (List.mem_cons_of_mem _ ha)) _
theorem reads_bytesToString (x : Value) : Reads P (Conv.bytesToString x) := by
 unfold Conv.bytesToString
 split
 ·exact reads_pure _
 ·dsimp only
  refine reads_bind (by unfold loadCells; exact reads_loadCellsFrom _ _ _ _) fun cs => ?_
  refine reads_bind ?_ fun _ => reads_pure _
  rw [← Array.forIn_toList]
  refine reads_forIn _ (fun c s => ?_) _ _
  split
  ·exact reads_bind (reads_pure _) fun _ => reads_pure _
  ·exact reads_bind (noOk_stuck _).blind.reads fun _ => reads_pure _
 ·exact (noOk_stuck _).blind.reads
theorem reads_convert {s d : TypeId} {x : Value} (hs : bytesT P s = true) (hd : cls P d = 3) (hx : Shaped 5 x) : Reads P (Go.convert s d x) := by
 obtain ⟨e, hs, he⟩ := bytesT_of hs
 have hd := cls3 hd
 unfold Go.convert
 refine reads_underlying_bind fun a ha => reads_underlying_bind fun b hb => ?_
 rw [hs] at ha; rw [hd] at hb
 cases ha; cases hb
 cases hx with
 | slice k n c =>
   refine reads_underlying_bind fun e' he' => ?_
   rw [he] at he'; cases he'
   exact reads_bytesToString _
 | none c l =>
   refine reads_underlying_bind fun e' he' => ?_
   rw [he] at he'; cases he'
   exact reads_bytesToString _
theorem reads_numberAt (r : Nat) : Reads P (numberAt r) := by
 unfold numberAt
 refine reads_bind (reads_shape _) fun s => ?_
 split
 ·exact reads_pure _
 ·refine reads_bind (reads_getObj _) fun o => ?_
  split <;> exact reads_pure _
theorem reads_behindNumber (a : Addr) : Reads P (behindNumber a) := by
 unfold behindNumber; exact reads_bind (reads_numberAt _) fun _ => reads_pure _
theorem reads_viewAt (r : Nat) : Reads P (viewAt r) := by
 unfold viewAt
 refine reads_bind (reads_shape _) fun s => ?_
 split
 ·exact reads_pure _
 ·refine reads_bind (reads_getObj _) fun o => ?_
  split <;> exact reads_pure _
theorem reads_noView (a : Addr) : Reads P (noView a) := by
 unfold noView
 refine reads_bind (reads_viewAt _) fun o => ?_
 split
 ·exact (noOk_unsupported _).blind.reads
 ·exact reads_pure _
theorem reads_byteOf (a : Addr) : Reads P (byteOf a) := by
 unfold byteOf
 repeat' (first | exact reads_pure _ | exact (noOk_stuck _).blind.reads | exact reads_noView _ | exact reads_shape _ | exact blind_program.reads | refine reads_bind ?_ (fun _ => ?_) | split | dsimp only)
theorem reads_equalIn : ∀ (d n : Nat) (t : TypeId) (x y : Value), eqPlain P n t = true → Reads P (Op.equalIn d t x y)
 | 0, n, t, x, y, _ => by unfold Op.equalIn; exact (noOk_unsupported _).blind.reads
 | d + 1, 0, t, x, y, h => by unfold eqPlain at h; cases h
 | d + 1, n + 1, t, x, y, h => by
   have ih := fun t x y h => reads_equalIn d n t x y h
   unfold eqPlain at h
   unfold Op.equalIn
   refine reads_underlying_bind fun u hu => ?_
   rw [hu] at h
   split at h
   case h_5 => cases h
   case h_4 fs he =>
    cases he
    split <;> first | exact reads_pure _ | exact (noOk_stuck _).blind.reads | exact (noOk_unsupported _).blind.reads | (exfalso; simp_all; done) | skip
    rename_i fields xs ys heq
    cases heq
    repeat' (first | exact reads_pure _ | exact (noOk_unsupported _).blind.reads | exact blind_program.reads | exact (blind_part _ _ _).reads | exact ih _ _ _ (List.all_eq_true.1 h _ (by assumption)) |
     (rw [← Array.forIn_toList]; refine reads_forIn_mem _ _ (fun f hf b => ?_) _) | refine reads_bind ?_ (fun _ => ?_) | split | dsimp only)
   all_goals
    rename_i he
    cases he
    split <;> first | exact reads_pure _ | exact (noOk_stuck _).blind.reads | exact (noOk_unsupported _).blind.reads | (exfalso; simp_all; done) | skip
   ·split <;> first | exact reads_pure _ | exact (noOk_stuck _).blind.reads
   ·repeat' (first | exact reads_pure _ | exact (noOk_unsupported _).blind.reads | exact blind_program.reads | exact reads_behindNumber _ | exact reads_byteOf _ | exact (blind_typeInfo _).reads | refine reads_bind ?_ (fun _ => ?_) | split | dsimp only)
theorem reads_eqGuard {op : BinOp} {t : TypeId} {x y : Operand} {a b : Value} (h : P.eqGuardType P.depth t = false) (ha : Shaped 6 a) (hb : Shaped 6 b) : Reads P (eqGuard op t x y a b) := by
 intro w r w1 e
 unfold eqGuard at e
 cases ha with
 | none c l => cases hb <;> (split at e <;> (have e' : Result.ok () w = .ok r w1 := e; injection e' with _ h2; exact h2.symm))
 | agg l => cases hb with
   | none c l' => split at e <;> (have e' : Result.ok () w = .ok r w1 := e; injection e' with _ h2; exact h2.symm)
   | agg l' =>
     split at e
     case h_3 => have e' : Result.ok () w = .ok r w1 := e; injection e' with _ h2; exact h2.symm
     all_goals
      simp only [Bool.not_true, Bool.false_eq_true, if_false] at e
      change Sem.run P (Sem.bind program _) w = _ at e
      rw [Sem.run_bind'] at e
      change (Result.ok P w).andThen _ = _ at e
      simp only [Result.andThen_ok] at e
      change Sem.run P (Sem.bind program _) w = _ at e
      rw [Sem.run_bind'] at e
      change (Result.ok P w).andThen _ = _ at e
      simp only [Result.andThen_ok, h, Bool.not_false, if_true] at e
      have e' : Result.ok () w = .ok r w1 := e
      injection e' with _ h2; exact h2.symm
theorem reads_cmp {op : BinOp} {t : TypeId} {a b : Value} (ho : isCmp op = true) (h : eqPlain P 6 t = true) (ha : Shaped 6 a) (hb : Shaped 6 b) : Reads P (Go.binOp op t a b) := by
 have he : Reads P (Op.equal t a b) := reads_equalIn _ 6 t a b h
 cases op <;> first | (cases ho; done) | skip
 all_goals
  unfold Go.binOp
  cases ha <;> cases hb <;> exact reads_bind he fun _ => reads_pure _
theorem eval_operandAt {a : Act} {x : Operand} (h : (∃ t, x = .tmp t) ∨ ∃ v, x = .const v) : a.eval x = operandAt a.tmps x := by
 rcases h with ⟨t, rfl⟩ | ⟨v, rfl⟩
 ·simp [Act.eval, operandAt, Array.getD_eq_getD_getElem?]
 ·rfl
theorem blind_fieldAt {s : TypeId} {x : Value} {f : Nat} (h : bigField P s f = true) : Blind P (Instr.fieldAt s x f) := by
 unfold bigField at h
 unfold Instr.fieldAt
 refine blind_underlying_bind fun d hd => ?_
 rw [hd] at h
 split
 ·rename_i fs
  simp only at h
  split
  ·rename_i fd hf
   rw [hf] at h
   simp only at h
   refine blind_bind (blind_sureAddr _) fun a => ?_
   unfold fieldPlace
   cases hi : P.info? fd.type with
   | none => rw [hi] at h; cases h
   | some i =>
     rw [hi] at h
     have hne : i.size ≠ 0 := by simpa using h
     have hz : ∀ w, (sizeOf fd.type).run P w = .ok i.size w := fun w => by
      unfold sizeOf typeInfo
      change Sem.run P (Sem.bind (Sem.bind program _) _) w = _
      rw [Sem.run_bind', Sem.run_bind']
      change ((Result.ok P w).andThen _).andThen _ = _
      simp only [Result.andThen_ok, hi]
      rfl
     intro w x w1 e
     have hr : ∀ w, Sem.run P (do let a ← (do if (← sizeOf fd.type) = 0 then partAt a fd.offset fd.byteOffset else pure (a.add fd.offset)); pure (Value.pointer (some a)) : Sem Value) w = .ok (Value.pointer (some (a.add fd.offset))) w := fun w => by
      change Sem.run P (Sem.bind (Sem.bind (sizeOf fd.type) fun n => if n = 0 then partAt a fd.offset fd.byteOffset else pure (a.add fd.offset)) _) w = _
      rw [Sem.run_bind', Sem.run_bind', hz]
      simp only [Result.andThen_ok, if_neg hne]
      rfl
     rw [hr] at e
     injection e with h1 h2
     subst h1; subst h2
     exact ⟨rfl, hr⟩
  ·exact (noOk_stuck _).blind
 ·exact (noOk_stuck _).blind
theorem kind0 {o : Oper} {a : Act} (hk : kindOf P o = 0) (hc : ∀ c ∈ checks P o.op, Shaped c.1 (a.eval c.2)) : BlindV P (execOp a.eval o) := by
 obtain ⟨dst, op, type, pos, after, guard⟩ := o
 unfold kindOf at hk
 unfold checks at hc
 unfold execOp
 cases op <;> simp only at hk hc ⊢
 case move x => exact blindV_value _
 case assign x => exact blindV_value _
 case pick c x y => exact blindV_bind (blind_asBool _) fun _ => blindV_value _
 case nilCheck x =>
  split
  ·exact blindV_noOk (noOk_runtimePanic _)
  ·exact blindV_noOk (noOk_runtimePanic _)
  ·exact blindV_noOk (noOk_runtimePanic _)
  ·split
   ·exact blindV_noOk (noOk_runtimePanic _)
   ·refine blindV_bind blind_program fun p => blindV_bind (blind_nilAhead _ _ _ _) fun r => ?_
    split
    ·exact blindV_noOk (noOk_left (noOk_unsupported _))
    ·exact blindV_value (Value.func (Fn.method _) _ _)
   ·exact blindV_value _
  ·exact blindV_value _
 case binOp op t x y yt =>
  refine blindV_of ?_
  split at hk
  case h_1 h | h_2 h | h_3 h =>
   have hne : ¬ cls P t = 4 := by omega
   have hne0 : ¬ cls P t = 0 := by omega
   rw [if_neg hne, if_neg hne0] at hc
   have hx := hc (cls P t, x) (by simp)
   have hy := hc (cls P t, y) (by simp)
   have h13 : cls P t = 1 ∨ cls P t = 2 ∨ cls P t = 3 := by omega
   exact blind_bind (blind_eqGuard_r hy.not_nilIface (hy.not_agg h13)) fun _ => blind_binOp_shaped hx hy h13 _ _
  case h_4 h =>
   split at hk
   ·rename_i hb
    simp only [Bool.and_eq_true, Bool.or_eq_true] at hb
    obtain ⟨hop, hn⟩ := hb
    rcases hn with hn | hn
    ·have : a.eval x = .pointer none := by
      unfold isNil at hn; split at hn
      ·rfl
      ·cases hn
     rw [this]
     exact blind_bind (blind_eqGuard_l (by simp) (by simp)) fun _ => blind_binOp_nil_l hop _ _
    ·have : a.eval y = .pointer none := by
      unfold isNil at hn; split at hn
      ·rfl
      ·cases hn
     rw [this]
     exact blind_bind (blind_eqGuard_r (by simp) (by simp)) fun _ => blind_binOp_nil_r hop _ _
   ·cases hk
  case h_5 => split at hk <;> cases hk
  case h_6 => cases hk
 case unOp op t x => exact blindV_of (blind_unary _ _)
 case convert s d x =>
  split at hk
  ·rename_i hb
   simp only [Bool.and_eq_true, decide_eq_true_eq] at hb
   have hx := hc (cls P s, x) (by simp)
   rw [hb.1] at hx
   exact blindV_of (blind_convert hb.1 hb.2 hx)
  ·split at hk <;> cases hk
 case makeInterface t x => exact blindV_of (blind_makeInterface _ _)
 case slice t x lo hi mx => exact blindV_of (blind_sliceAt _ _ _ _ _)
 case build t ps => exact blindV_of (blind_build _ _)
 case fieldAddr s x f =>
  split at hk
  ·rename_i hb; exact blindV_of (blind_fieldAt hb)
  ·cases hk
 case field t x f => exact blindV_of (blind_field _ _ _)
 case indexAddr t x i => exact blindV_of (blind_indexAt _ _ _)
 case index t x i => exact blindV_of (blind_index _ _ _)
 case extract t i => exact blindV_of (blind_extract _ _)
 case call c =>
  obtain ⟨callee, args, ts⟩ := c
  simp only at hk hc
  cases callee with
  | builtin b =>
    have hr : ∀ s : Sem Value, (Go.builtin b ts type (args.map fun | .const _ => true | _ => false) (args.map a.eval) = (do pure (Next.value (← s)) : Sem Next)) → BlindV P (do pure (Next.value (← s)) : Sem Next) →
      BlindV P (do let d ← resolve a.eval { callee := .builtin b, args := args, argTypes := ts } type; invoke d.target d.args) := fun s e h => by
     have : (do let d ← resolve a.eval { callee := .builtin b, args := args, argTypes := ts } type; invoke d.target d.args : Sem Next) = (do pure (Next.value (← s)) : Sem Next) := e
     rw [this]; exact h
    cases b <;> simp only at hk hc <;> first | (cases hk; done) | skip
    case len =>
     cases h0 : ts[0]? with
     | none => rw [h0] at hk; cases hk
     | some t0 =>
       rw [h0] at hk
       simp only at hk
       split at hk
       ·rename_i hb
        exact hr _ rfl (blindV_of (blind_len _ _ _ h0 (by simpa using hb)))
       ·cases hk
    case max => exact hr _ rfl (blindV_of (blind_max _ _ _ fun y hy => by
     obtain ⟨z, hz, rfl⟩ : ∃ z ∈ args.toList, a.eval z = y := by simpa using hy
     exact hc (1, z) (List.mem_map.2 ⟨z, hz, rfl⟩)))
    case min => exact hr _ rfl (blindV_of (blind_min _ _ _ fun y hy => by
     obtain ⟨z, hz, rfl⟩ : ∃ z ∈ args.toList, a.eval z = y := by simpa using hy
     exact hc (1, z) (List.mem_map.2 ⟨z, hz, rfl⟩)))
  | value f => cases hk
  | invoke r m => cases hk
 all_goals (cases hk)
theorem kind1 {o : Oper} {a : Act} (hk : kindOf P o = 1) (hc : ∀ c ∈ checks P o.op, Shaped c.1 (a.eval c.2)) : ReadsV P (execOp a.eval o) := by
 obtain ⟨dst, op, type, pos, after, guard⟩ := o
 unfold kindOf at hk
 unfold checks at hc
 unfold execOp
 cases op <;> simp only at hk hc ⊢
 case load t x => exact readsV_of (reads_loadAt _ _)
 case convert s d x =>
  split at hk
  ·cases hk
  ·split at hk
   ·rename_i hb
    simp only [Bool.and_eq_true, decide_eq_true_eq] at hb
    have hx := hc (cls P s, x) (by simp)
    obtain ⟨e, he, _⟩ := bytesT_of hb.1
    have h5 : cls P s = 5 := by unfold cls; rw [he]
    rw [h5] at hx
    exact readsV_of (reads_convert hb.1 hb.2 hx)
   ·cases hk
 case binOp op t x y yt =>
  split at hk
  case h_4 => split at hk <;> cases hk
  case h_5 h0 =>
   split at hk
   case isFalse => cases hk
   rename_i hb
   simp only [Bool.and_eq_true, Bool.not_eq_true'] at hb
   have hne : ¬ cls P t = 4 := by omega
   rw [if_neg hne, if_pos h0] at hc
   have hx := hc (6, x) (by simp)
   have hy := hc (6, y) (by simp)
   exact readsV_of (reads_bind (reads_eqGuard hb.2 hx hy) fun _ => reads_cmp hb.1.1 hb.1.2 hx hy)
  all_goals cases hk
 case fieldAddr s x f => split at hk <;> cases hk
 case call c =>
  obtain ⟨callee, args, ts⟩ := c
  simp only at hk
  cases callee with
  | builtin b =>
    cases b <;> simp only at hk <;> first | (cases hk; done) | skip
    case len =>
     cases h0 : ts[0]? with
     | none => rw [h0] at hk; cases hk
     | some t0 => rw [h0] at hk; simp only at hk; split at hk <;> cases hk
  | value f => cases hk
  | invoke r m => cases hk
 all_goals (cases hk)
end
/-! From the plain walk of the list, and the look, to every order. -/
def Post (P : Program) (l : List Oper) (Q : Exit → Act → World → Prop) : Exit → Act → World → Prop
 | .normal, a, w => good P l a.tmps = true ∧ Q .normal a w
 | _, _, _ => False
theorem Post.plain (P : Program) (l : List Oper) (Q : Exit → Act → World → Prop) : Plain (Post P l Q) := fun e a w h => by cases e <;> first | rfl | exact h.elim
section
variable {P : Program} {ops : Array Oper} {Q : Exit → Act → World → Prop}
theorem put_get {a : Act} {d : Option Tmp} {v : Value} {t : Nat} (h : d ≠ some t) : (a.put d v).tmps[t]? = a.tmps[t]? := by
 cases d with
 | none => rfl
 | some d => simp [Act.put, Array.getElem?_setIfInBounds_ne (fun e => h (by rw [e]) : d ≠ t)]
theorem list_some (hp : Plain Q) : ∀ (l : List Oper) (a : Act) (w : World), wpList P ops Q l a w →
  ∃ b w', Q .normal b w' ∧ ∀ t, (∀ o ∈ l, o.dst ≠ some t) → b.tmps[t]? = a.tmps[t]?
 | [], a, w, h => ⟨a, w, h, fun _ _ => rfl⟩
 | o :: l, a, w, h => by
   unfold wpList at h
   split at h
   ·rcases h with h | ⟨_, h⟩
    ·obtain ⟨b, u, w', hk, hb, _⟩ := wp_some hp h
     obtain ⟨c, w'', hq, hc⟩ := list_some hp l _ _ hk
     refine ⟨c, w'', hq, fun t ht => ?_⟩
     rw [hc t (fun o' ho' => ht o' (List.mem_cons_of_mem _ ho')), put_get (ht o (by simp)), hb]
    ·exact (hp.out h).elim
   ·obtain ⟨c, w'', hq, hc⟩ := list_some hp l _ _ h
    refine ⟨c, w'', hq, fun t ht => ?_⟩
    rw [hc t (fun o' ho' => ht o' (List.mem_cons_of_mem _ ho')), put_get (ht o (by simp))]
theorem wp_ok (hp : Plain Q) {o : Oper} {a : Act} {w : World} {K : Act → World → Prop} (h : o.wp P a w K Q) : ∃ n w', (execOp a.eval o).run P w = .ok n w' := by
 unfold Oper.wp at h
 cases hr : (execOp a.eval o).run P w with
 | ok n w' => exact ⟨n, w', rfl⟩
 | halt x w' =>
   rw [hr] at h
   cases x <;> simp only [Oper.upon] at h
   case panic u => exact (hp.panic h).elim
theorem getD_same {xs ys : Array Value} {t : Nat} (h : xs[t]? = ys[t]?) (d : Value) : xs.getD t d = ys.getD t d := by
 simp only [Array.getD_eq_getD_getElem?, h]
theorem lex_of_list {L : List Oper} : ∀ (l : List Oper) (k : Nat) (a : Act) (w : World), (∀ j, l[j]? = ops[k + j]?) → (∀ o ∈ l, o ∈ L) → kept P l = true →
  wpList P ops (Post P L Q) l a w → lexS P (kindOf P) ops (Post P L Q) l k a w
 | [], _, _, _, _, _, _, h => h
 | o :: l, k, a, w, hl, hL, hk, h => by
   have hp := Post.plain P L Q
   have h0 : ops[k]? = some o := by simpa using (hl 0).symm
   have hl' : ∀ j, l[j]? = ops[k + 1 + j]? := fun j => by have := hl (j + 1); simpa [Nat.add_assoc, Nat.add_comm 1 j] using this
   have hall := h
   unfold kept at hk
   simp only [Bool.and_eq_true] at hk
   have ih : ∀ a w, wpList P ops (Post P L Q) l a w → lexS P (kindOf P) ops (Post P L Q) l (k + 1) a w := fun a w h => lex_of_list l (k + 1) a w hl' (fun o ho => hL o (List.mem_cons_of_mem _ ho)) hk.2 h
   unfold wpList at h
   show opS P (kindOf P) ops (Post P L Q) k (lexS P (kindOf P) ops (Post P L Q) l (k + 1)) a w
   unfold opS
   simp only [h0]
   split
   ·rename_i hw
    rw [if_pos hw] at h
    rcases h with h | ⟨_, h⟩
    ·refine ⟨?_, Oper.wp_mono ih h⟩
     -- the shapes, off the end of the walk
     obtain ⟨b, w', ⟨hg, _⟩, hb⟩ := list_some hp (o :: l) a w hall
     have hsh : kindOf P o ≤ 1 → ∀ c ∈ checks P o.op, Shaped c.1 (a.eval c.2) := fun hk1 c hc => by
      have hg1 := List.all_eq_true.1 hg o (hL o (by simp))
      have hk3 := List.all_eq_true.1 hk.1 c hc
      simp only [Bool.or_eq_true, decide_eq_true_eq] at hg1
      have hg2 := List.all_eq_true.1 (hg1.resolve_left (by omega)) c hc
      refine shaped_of ?_
      obtain ⟨k, x⟩ := c
      cases x with
      | tmp t =>
        simp only [List.all_eq_true, bne_iff_ne] at hk3
        rw [eval_operandAt (.inl ⟨t, rfl⟩)]
        have := hb t hk3
        simp only [operandAt] at hg2 ⊢
        rw [← getD_same this]; exact hg2
      | const v => exact hg2
      | global g => simp at hk3; omega
      | func f => simp at hk3; omega
     obtain ⟨n, w1, he⟩ := wp_ok hp h
     unfold Good
     split
     ·rename_i h0
      obtain ⟨⟨v, rfl⟩, rfl, hv⟩ := kind0 h0 (hsh (by omega)) _ _ _ he
      exact ⟨v, hv⟩
     ·rename_i h1
      obtain ⟨⟨v, rfl⟩, rfl⟩ := kind1 h1 (hsh (by omega)) _ _ _ he
      exact ⟨v, he⟩
     ·trivial
    ·exact (hp.out h).elim
   ·rename_i hw
    rw [if_neg hw] at h
    exact ih _ _ h
theorem ancStep_bit {rows : List Nat} {o : Oper} {i j : Nat} (ho : ops[j]? = some o) (hrows : ∀ k, k < j → (rows.getD k 0).testBit i = true → Anc ops k i) (hlt : ∀ e ∈ o.after, Region.binds .any e = true → e.on < j)
  (h : (ancStep rows o).testBit i = true) : Anc ops j i := by
 unfold ancStep at h
 have key : ∀ (es : List Edge) (m : Nat), (∀ e ∈ es, e ∈ o.after) → (es.foldl (fun m e => if Region.binds .any e then m ||| 2 ^ e.on ||| rows.getD e.on 0 else m) m).testBit i = true → m.testBit i = true ∨ Anc ops j i := by
  intro es
  induction es with
  | nil => intro m _ h; exact .inl h
  | cons e es ih =>
    intro m hes h
    rw [List.foldl_cons] at h
    rcases ih _ (fun e he => hes e (List.mem_cons_of_mem _ he)) h with h | h
    ·split at h
     ·rename_i hb
      have he := hes e (by simp)
      simp only [Nat.testBit_or, Bool.or_eq_true] at h
      rcases h with (h | h) | h
      ·exact .inl h
      ·right
       rw [Nat.testBit_two_pow] at h
       exact .one ho he hb (by simpa using h)
      ·right
       exact .more ho he hb (hrows _ (hlt e he hb) h)
     ·exact .inl h
    ·exact .inr h
 rcases key o.after.toList 0 (fun e he => Array.mem_toList_iff.1 he) h with h | h
 ·simp at h
 ·exact h
theorem ancRows_anc : ∀ (l : List Oper) (rows : List Nat), (∀ j, l[j]? = ops[rows.length + j]?) → (∀ j o, ops[j]? = some o → ∀ e ∈ o.after, Region.binds .any e = true → e.on < j) →
  (∀ k i, k < rows.length → (rows.getD k 0).testBit i = true → Anc ops k i) → ∀ k i, k < rows.length + l.length → ((ancRows l rows).getD k 0).testBit i = true → Anc ops k i
 | [], rows, _, _, hr, k, i, hk, h => hr k i (by simpa using hk) h
 | o :: l, rows, hl, hb, hr, k, i, hk, h => by
   have h0 : ops[rows.length]? = some o := by simpa using (hl 0).symm
   refine ancRows_anc l (rows ++ [ancStep rows o]) (fun j => by have := hl (j + 1); simpa [Nat.add_assoc, Nat.add_comm 1 j] using this) hb ?_ k i (by simp at hk ⊢; omega) h
   intro k i hk h
   simp only [List.length_append, List.length_cons, List.length_nil] at hk
   rcases Nat.lt_or_ge k rows.length with hlt | hge
   ·refine hr k i hlt ?_
    simpa [List.getD_eq_getElem?_getD, List.getElem?_append_left hlt] using h
   ·obtain rfl : k = rows.length := by omega
    refine ancStep_bit h0 (fun k hk h => hr k i hk h) (fun e he hbb => hb _ _ h0 e he hbb) ?_
    simpa [List.getD_eq_getElem?_getD] using h
theorem freeB_spec {P : Program} {ops : Array Oper} {rows : List Nat} : ∀ (l : List Oper) (s : Nat), freeB P ops rows s l = true → ∀ i d oi oj, l[i]? = some oi → l[i + 1 + d]? = some oj →
  (rows.getD (s + i + 1 + d) 0).testBit (s + i) = true ∨ commB P ops oi oj = true
 | [], s, _, i, d, oi, oj, hi, _ => by simp at hi
 | o :: l, s, h, i, d, oi, oj, hi, hj => by
   unfold freeB at h
   simp only [Bool.and_eq_true] at h
   cases i with
   | zero =>
     obtain rfl : o = oi := by simpa using hi
     have hj' : l[d]? = some oj := by simpa [Nat.add_comm] using hj
     have hd : d < l.length := (List.getElem?_eq_some_iff.1 hj').1
     have := List.all_eq_true.1 h.1 d (List.mem_range.2 hd)
     simp only [hj', Bool.or_eq_true] at this
     simpa using this
   | succ i =>
     have := freeB_spec l (s + 1) h.2 i d oi oj (by simpa using hi) (by rw [show i + 1 + 1 + d = (i + 1 + d) + 1 by omega] at hj; simpa using hj)
     rw [show s + (i + 1) + 1 + d = s + 1 + i + 1 + d by omega, show s + (i + 1) = s + 1 + i by omega]
     exact this
theorem fine_of {P : Program} {l : List Oper} (h : okB P l = true) : Fine (kindOf P) l.toArray ∧ kept P l = true := by
 unfold okB at h
 simp only [Bool.and_eq_true] at h
 obtain ⟨⟨⟨h1, h2⟩, h3⟩, h4⟩ := h
 have hback : ∀ (j : Nat) (o : Oper), l.toArray[j]? = some o → ∀ e ∈ o.after, Region.binds .any e = true → e.on < j := by
  intro j o ho e he hb
  have ho' : l[j]? = some o := by simpa using ho
  have hj : j < l.length := (List.getElem?_eq_some_iff.1 ho').1
  have := List.all_eq_true.1 h3 j (List.mem_range.2 hj)
  simp only [ho'] at this
  have := List.all_eq_true.1 this e (Array.mem_toList_iff.2 he)
  simpa [hb] using this
 refine ⟨⟨?_, hback, ?_⟩, h2⟩
 ·intro j o cs b ho he
  have ho' : l[j]? = some o := by simpa using ho
  have := List.all_eq_true.1 h1 o (List.mem_of_getElem? ho')
  rw [he] at this; cases this
 ·intro i j oi oj hij hi hj hno
  have hi' : l[i]? = some oi := by simpa using hi
  have hj' : l[j]? = some oj := by simpa using hj
  have hjl : j < l.length := (List.getElem?_eq_some_iff.1 hj').1
  have := freeB_spec l 0 h4 i (j - (i + 1)) oi oj hi' (by rw [show i + 1 + (j - (i + 1)) = j by omega]; exact hj')
  rw [show 0 + i + 1 + (j - (i + 1)) = j by omega, show 0 + i = i by omega] at this
  rcases this with h | h
  ·exact absurd (ancRows_anc (ops := l.toArray) l [] (fun j => by simp) hback (fun k i hk => by simp at hk) j i (by simpa using hjl) h) hno
  ·unfold commB at h
   simp only [Bool.and_eq_true, Bool.or_eq_true, beq_iff_eq, decide_eq_true_eq] at h
   exact ⟨h.1, by rcases h.2 with (h | h) | h <;> simp [h]⟩
theorem wpAny_mono {Q Q' : Exit → Act → World → Prop} (hQ : ∀ e a w, Q e a w → Q' e a w) : ∀ (f : Nat) (listed : Array Bool) (a : Act) (w : World), wpAny P .any ops Q f listed a w → wpAny P .any ops Q' f listed a w
 | 0, _, _, _, h => ⟨h.1, hQ _ _ _ h.2⟩
 | f + 1, _, _, _, h => ⟨fun e => hQ _ _ _ (h.1 e), fun i hi => by
    have := h.2 i hi
    have lo : LetsOut Q → LetsOut Q' := fun ⟨a, w, q⟩ => ⟨a, w, hQ _ _ _ q⟩
    unfold wpOp at *
    split
    ·rename_i hn; simp only [hn] at this; exact wpAny_mono hQ f _ _ _ this
    ·rename_i o ho
     simp only [ho] at this
     split
     ·rename_i hw
      simp only [hw, if_true] at this
      rcases this with this | ⟨h1, h2⟩
      ·left
       unfold Oper.wp at *
       generalize (execOp _ o).run P _ = r at *
       cases r with
       | ok n w' =>
         cases n <;> simp only [Oper.upon] at this ⊢
         case value u => exact wpAny_mono hQ f _ _ _ this
         case skip => exact wpAny_mono hQ f _ _ _ this
         case defer q => exact wpAny_mono hQ f _ _ _ this
         case enter g args =>
          refine Calls.mono this fun e w'' he => ?_
          cases e with
          | returned u => exact wpAny_mono hQ f _ _ _ he
          | panicked c => exact hQ _ _ _ he
          | outgrown => exact lo he
         case row r args => exact Rows.mono this fun u w'' he => wpAny_mono hQ f _ _ _ he
       | halt x w' =>
         cases x <;> simp only [Oper.upon] at this ⊢
         case panic u => exact hQ _ _ _ this
      ·exact .inr ⟨h1, lo h2⟩
     ·rename_i hw
      simp only [hw] at this
      exact wpAny_mono hQ f _ _ _ this⟩
theorem lex_any {P : Program} {l : List Oper} {Q : Exit → Act → World → Prop} {a : Act} {w : World} (hB : okB P l = true)
  (h : wpList P l.toArray (Post P l Q) l a w.drew) : wpAny P .any l.toArray Q l.toArray.size (Array.replicate l.toArray.size false) a w.drew := by
 obtain ⟨hf, hk⟩ := fine_of hB
 refine wpAny_mono (Q := Post P l Q) (fun e a w q => by cases e <;> first | exact q.2 | exact q.elim) _ _ _ _ ?_
 have := any_of_lex (Post.plain P l Q) hf l 0 (Array.replicate l.toArray.size false) a w.drew (by simp) (by simp) (fun j hj => by omega) (fun j _ hj => by simp at hj; simp [hj])
  (lex_of_list l 0 a w.drew (by simp) (fun o ho => ho) hk h)
 have := anyS_any _ _ _ _ this
 simpa using this
theorem wp_region_lex {P : Program} {id : Nat} {l : List Oper} {Q : Exit → Act → World → Prop} {a : Act} {w : World} (hm : P.follows .mixedOrders = true) (hB : okB P l = true)
  (h : wpList P l.toArray (Post P l Q) l a w.drew) : (Code.region id l.toArray true).wp P Q a w :=
 wp_region_any hm (lex_any hB h)
end
end Go.YtndekdafiaogmaaLex
end
section
namespace Go.YtndekdafiaogmaaMem
open Go Go.RowKit
def Blk (w : World) (b : Nat) (T : TypeId) (cs : List Value) : Prop := w.heap[b]? = some (.cells cs.toArray T (0, 0))
theorem lt_of_some {w : World} {b : Nat} {o : Obj} (h : w.heap[b]? = some o) : b < w.heap.size := (Array.getElem?_eq_some_iff.1 h).1
theorem Blk.lt {w b T cs} (h : Blk w b T cs) : b < w.heap.size := lt_of_some h
theorem Blk.cell {w b T cs} (h : Blk w b T cs) {i : Nat} {v : Value} (hi : cs[i]? = some v) : w.cell? ⟨b, i, none⟩ = some v := by
 unfold Blk at h; simp [World.cell?, h, hi]
theorem Blk.free {w b T cs} (h : Blk w b T cs) (i : Nat) : w.frozen? ⟨b, i, none⟩ = false := by
 unfold Blk at h; simp [World.frozen?, h]
theorem Blk.drew {w b T cs} (h : Blk w b T cs) : Blk w.drew b T cs := h
theorem Blk.drewN {w b T cs} (h : Blk w b T cs) (n : Nat) : Blk (w.drewN n) b T cs := h
theorem Blk.alloc {w b T cs} (h : Blk w b T cs) (o : Obj) : Blk (w.alloc o) b T cs := by
 have := h.lt
 unfold Blk; rw [Below.heap_alloc _ _ _ this]; exact h
theorem Blk.new (w : World) (cs : List Value) (T : TypeId) : Blk (w.alloc (.cells cs.toArray T)) w.heap.size T cs := by
 show (w.heap.push _)[w.heap.size]? = _; simp
theorem Blk.other {w b T cs} (h : Blk w b T cs) {a : Addr} (hne : b ≠ a.block) (v : Value) : Blk (w.setCell a v) b T cs := by
 unfold Blk; rw [Below.heap_setCell _ _ _ _ hne]; exact h
theorem Blk.set {w b T cs} (h : Blk w b T cs) (i : Nat) (v : Value) : Blk (w.setCell ⟨b, i, none⟩ v) b T (cs.set i v) := by
 unfold Blk at *
 simp only [World.setCell, Array.getElem?_modify, h]
 simp
structure Mod (S : List Nat) (w w' : World) : Prop where
 os : w'.os = w.os
 tape : w'.tape = w.tape
 output : w'.output = w.output
 size : w.heap.size ≤ w'.heap.size
 block : ∀ k, k < w.heap.size → k ∉ S → w'.heap[k]? = w.heap[k]?
theorem Mod.refl (S : List Nat) (w : World) : Mod S w w := ⟨rfl, rfl, rfl, Nat.le_refl _, fun _ _ _ => rfl⟩
theorem Mod.trans' {S S' : List Nat} {a b c : World} (h : Mod S a b) (k : Mod S' b c) (hs : ∀ x, x ∈ S' → x ∈ S ∨ a.heap.size ≤ x) : Mod S a c :=
 ⟨k.os.trans h.os, k.tape.trans h.tape, k.output.trans h.output, Nat.le_trans h.size k.size,
  fun i hi hn => (k.block i (Nat.lt_of_lt_of_le hi h.size) fun hm => (hs i hm).elim hn (by omega)).trans (h.block i hi hn)⟩
theorem Mod.trans {S : List Nat} {a b c : World} (h : Mod S a b) (k : Mod S b c) : Mod S a c := h.trans' k fun _ hx => .inl hx
theorem Mod.mono {S S' : List Nat} {w w' : World} (h : Mod S w w') (hs : ∀ x, x ∈ S → x ∈ S' ∨ w.heap.size ≤ x) : Mod S' w w' :=
 ⟨h.os, h.tape, h.output, h.size, fun i hi hn => h.block i hi fun hm => (hs i hm).elim hn (by omega)⟩
theorem Mod.drew {S : List Nat} {a w : World} (h : Mod S a w) : Mod S a w.drew := ⟨h.os, h.tape, h.output, h.size, h.block⟩
theorem Mod.drewN {S : List Nat} {a w : World} (h : Mod S a w) (n : Nat) : Mod S a (w.drewN n) := ⟨h.os, h.tape, h.output, h.size, h.block⟩
theorem Mod.alloc {S : List Nat} {a w : World} (h : Mod S a w) (o : Obj) : Mod S a (w.alloc o) :=
 h.trans ⟨rfl, rfl, rfl, by simp, fun k hk _ => Below.heap_alloc _ _ _ hk⟩
theorem Mod.setCell {S : List Nat} {a w : World} (h : Mod S a w) {p : Addr} (hp : p.block ∈ S ∨ a.heap.size ≤ p.block) (u : Value) : Mod S a (w.setCell p u) :=
 h.trans' (S' := [p.block]) ⟨rfl, rfl, rfl, by simp [World.setCell], fun k _ hn => Below.heap_setCell _ _ _ _ (by simpa using hn)⟩ (by simpa using hp)
theorem Mod.grown {S : List Nat} {a w w' : World} {row : Option Nat} (h : Mod S a w) (hg : w.grownBy w' row) (hr : ∀ k, row = some k → k ∈ S ∨ a.heap.size ≤ k) : Mod S a w' :=
 h.trans' (S' := row.toList) ⟨hg.os, hg.tape, hg.output, hg.size, fun k hk hn => hg.block k hk (fun e => hn (by simp [← e]))⟩ (by intro x hx; exact hr x (by simpa using hx))
theorem Mod.below {w w' : World} (h : Mod [] w w') : Below w.heap.size w w' := ⟨h.os, h.tape, h.output, h.size, fun k hk => h.block k hk (by simp)⟩
theorem Mod.heap {S : List Nat} {w w' : World} (h : Mod S w w') {b : Nat} {o : Obj} (hb : w.heap[b]? = some o) (hn : b ∉ S) : w'.heap[b]? = some o := by
 rw [h.block b (lt_of_some hb) hn]; exact hb
theorem Mod.blk {S : List Nat} {w w' : World} (h : Mod S w w') {b : Nat} {T : TypeId} {cs : List Value} (hb : Blk w b T cs) (hn : b ∉ S) : Blk w' b T cs := h.heap hb hn
theorem Mod.cell {S : List Nat} {w w' : World} (h : Mod S w w') {a : Addr} (hb : a.block < w.heap.size) (hn : a.block ∉ S) : w'.cell? a = w.cell? a := World.cell?_of_block (w := w) (h.block _ hb hn)
theorem Mod.frozen {S : List Nat} {w w' : World} (h : Mod S w w') {a : Addr} (hb : a.block < w.heap.size) (hn : a.block ∉ S) : w'.frozen? a = w.frozen? a := World.frozen?_of_block (w := w) (h.block _ hb hn)
theorem Mod.lt {S : List Nat} {w w' : World} (h : Mod S w w') {b : Nat} (hb : b < w.heap.size) : b < w'.heap.size := Nat.lt_of_lt_of_le hb h.size
theorem cell_lt {w : World} {a : Addr} {v : Value} (h : w.cell? a = some v) : a.block < w.heap.size := by
 unfold World.cell? at h
 split at h
 ·rename_i he; exact lt_of_some he
 ·cases h
def Sl (w : World) (v : Value) (xs : List Value) : Prop :=
 (xs = [] ∧ ∃ a cap, v = .slice a 0 cap) ∨
 ∃ b off cap, v = .slice (some ⟨b, off, none⟩) xs.length cap ∧ xs.length ≤ cap ∧ cap ≤ maxLen ∧ b < w.heap.size ∧ ∀ i u, xs[i]? = some u → w.cell? ⟨b, off + i, none⟩ = some u
theorem Sl.nil (w : World) (a : Option Addr) (cap : Nat) : Sl w (.slice a 0 cap) [] := .inl ⟨rfl, a, cap, rfl⟩
theorem Sl.mod {S : List Nat} {w w' : World} {v : Value} {xs : List Value} (h : Sl w v xs) (hm : Mod S w w') (hn : ∀ b, v.ownBlock = some b → xs.length = 0 ∨ b ∉ S) : Sl w' v xs := by
 rcases h with h | ⟨b, off, cap, rfl, h1, h2, h3, h4⟩
 ·exact .inl h
 ·refine .inr ⟨b, off, cap, rfl, h1, h2, hm.lt h3, fun i u hu => ?_⟩
  have hi := (List.getElem?_eq_some_iff.1 hu).1
  rw [hm.cell h3 ((hn b rfl).resolve_left (by omega))]; exact h4 i u hu
theorem Sl.len {w : World} {v : Value} {xs : List Value} (h : Sl w v xs) : xs.length ≤ maxLen := by
 rcases h with ⟨rfl, _⟩ | ⟨b, off, cap, rfl, h1, h2, h3, h4⟩
 ·exact Nat.zero_le _
 ·omega
theorem Sl.heap {w w' : World} {v : Value} {xs : List Value} (h : Sl w v xs) (hh : w'.heap = w.heap) : Sl w' v xs := by
 rcases h with h | ⟨b, off, cap, rfl, h1, h2, h3, h4⟩
 ·exact .inl h
 ·exact .inr ⟨b, off, cap, rfl, h1, h2, by rw [hh]; exact h3, fun i u hu => by have := h4 i u hu; unfold World.cell? at *; rw [hh]; exact this⟩
theorem add_eq (b off i : Nat) : (⟨b, off, none⟩ : Addr).add i = ⟨b, off + i, none⟩ := by
 unfold Addr.add; split
 ·rename_i h; subst h; rfl
 ·rfl
theorem Sl.own {w : World} {base : Nat} {e : TypeId} {v : Value} {n : Nat} {xs : List Value} (h : w.ownsRow base e 1 v n xs) : Sl w v xs := by
 have hl := h.1
 rcases h.2 with ⟨rfl, rfl⟩ | ⟨g, cap, cur, rfl, h1, h2, h3, h4, h5, h6⟩
 ·refine .inl ⟨?_, _, _, rfl⟩
  exact List.eq_nil_of_length_eq_zero (by simpa using hl)
 ·refine .inr ⟨g, 0, cap, by rw [hl, Nat.mul_one], by omega, h4, lt_of_some h2, fun i u hu => ?_⟩
  have := h.cells (g := g) rfl i u hu
  rw [add_eq] at this; exact this
theorem own_block {w : World} {base : Nat} {e : TypeId} {size : Nat} {v : Value} {n : Nat} {xs : List Value} (h : w.ownsRow base e size v n xs) : ∀ b, v.ownBlock = some b → base ≤ b := fun b hb => (h.lt b hb).1
theorem Mod.own {S : List Nat} {w w' : World} {base : Nat} {e : TypeId} {size : Nat} {v : Value} {n : Nat} {xs : List Value} (hm : Mod S w w') (h : w.ownsRow base e size v n xs) (hn : ∀ b, v.ownBlock = some b → b ∉ S) : w'.ownsRow base e size v n xs := by
 obtain ⟨h1, h2⟩ := h
 refine ⟨h1, ?_⟩
 rcases h2 with h2 | ⟨g, cap, cur, rfl, hg, hh, r⟩
 ·exact .inl h2
 ·exact .inr ⟨g, cap, cur, rfl, hg, hm.heap hh (hn g rfl), r⟩
theorem grown_mod {w w0 w' : World} {v : Value} (hm : Mod [] w w0) (hg : w0.grownBy w' v.ownBlock) : Mod v.ownBlock.toList w w' :=
 (hm.mono (by simp)).grown hg (fun k hk => .inl (by simp [hk]))
theorem own_slice {w : World} {base : Nat} {e : TypeId} {size : Nat} {v : Value} {n : Nat} {xs : List Value} (h : w.ownsRow base e size v n xs) : ∃ a c, v = .slice a n c := by
 rcases h.2 with ⟨rfl, rfl⟩ | ⟨g, cap, cur, rfl, _⟩
 ·exact ⟨_, _, rfl⟩
 ·exact ⟨_, _, rfl⟩
def vb (bs : List UInt8) : List Value := bs.map fun b => .int .u8 b.toNat
@[simp] theorem vb_length (bs : List UInt8) : (vb bs).length = bs.length := by simp [vb]
@[simp] theorem vb_nil : vb [] = [] := rfl
theorem run_loadCells {P : Program} {w : World} {b off : Nat} : ∀ (xs : List Value) (i : Nat) (acc : Array Value), (∀ j u, xs[j]? = some u → w.cell? ⟨b, off + (i + j), none⟩ = some u) →
  (loadCellsFrom ⟨b, off, none⟩ i xs.length acc).run P w = .ok (acc ++ xs.toArray) w
 | [], i, acc, _ => by simp [loadCellsFrom, Sem.run_pure]
 | x :: xs, i, acc, h => by
   have h0 := h 0 x rfl
   simp only [List.length_cons, loadCellsFrom]
   change Sem.run P (Sem.bind (load _) _) w = _
   rw [Sem.run_bind']
   have hl : (load ((⟨b, off, none⟩ : Addr).add i)).run P w = .ok x w := by
    rw [add_eq, show off + i = off + (i + 0) by omega]
    simp only [load, Sem.run, h0]
   rw [hl]
   simp only [Result.andThen_ok]
   rw [run_loadCells xs (i + 1) (acc.push x) (fun j u hu => by rw [show off + (i + 1 + j) = off + (i + (j + 1)) by omega]; exact h (j + 1) u (by simpa using hu))]
   simp
theorem pushAll (bs : List UInt8) : ∀ (s : ByteArray), ((bs.map fun b => ((b.toNat : Nat) : Int)).foldl (fun r n => r.push (UInt8.ofNat n.toNat)) s) = ⟨s.data ++ bs.toArray⟩ := by
 induction bs with
 | nil => intro s; simp
 | cons b bs ih =>
   intro s
   simp only [List.map_cons, List.foldl_cons]
   rw [ih]
   simp [ByteArray.push]
theorem run_str {P : Program} {w : World} {v : Value} {bs : List UInt8} (h : Sl w v (vb bs)) {src dst e : TypeId} (hs : P.underlying src = some (.slice e)) (he : P.underlying e = some (.int .u8)) (hd : P.underlying dst = some .string) :
  (convert src dst v).run P w = .ok (.string ⟨bs.toArray⟩) w := by
 rcases h with ⟨hn, a, cap, rfl⟩ | ⟨b, off, cap, rfl, h1, h2, h3, h4⟩
 ·obtain rfl : bs = [] := by cases bs; rfl; simp [vb] at hn
  rw [run_convert_bytes_string w src dst e a 0 cap hs he hd]
  cases a with
  | none => rfl
  | some a => rw [run_bytesToString w a 0 cap [] rfl]; rfl
 ·rw [run_convert_bytes_string w src dst e _ _ cap hs he hd]
  rw [run_bytesToString w _ _ cap (bs.map fun b => ((b.toNat : Nat) : Int))]
  ·rw [pushAll]; simp
  ·unfold loadCells
   rw [run_loadCells (vb bs) 0 #[] (fun j u hu => by rw [Nat.zero_add]; exact h4 j u hu)]
   simp [vb]
def At (w : World) (a : Option Addr) (xs : List Value) (k : Nat) : Prop := ∃ b off, a = some ⟨b, off, none⟩ ∧ b < w.heap.size ∧ ∀ i u, xs[i]? = some u → w.cell? ⟨b, off + i, none⟩ = some u
theorem Sl.open {w : World} {v : Value} {xs : List Value} (h : Sl w v xs) : ∃ a c, v = .slice a xs.length c ∧ xs.length ≤ maxLen ∧ ∀ k, k < xs.length → At w a xs k := by
 have hl := h.len
 rcases h with ⟨rfl, a, cap, rfl⟩ | ⟨b, off, cap, rfl, h1, h2, h3, h4⟩
 ·exact ⟨a, cap, rfl, hl, fun k hk => by simp at hk⟩
 ·exact ⟨_, cap, rfl, hl, fun k hk => ⟨b, off, rfl, h3, h4⟩⟩
theorem Sl.part {w : World} {b off c i m : Nat} {bs : List UInt8} (hb : b < w.heap.size) (hcell : ∀ i u, (vb bs)[i]? = some u → w.cell? ⟨b, off + i, none⟩ = some u) (h1 : i + m ≤ bs.length) (h2 : m ≤ c) (h3 : c ≤ maxLen) :
  Sl w (.slice (some ⟨b, off + i, none⟩) m c) (vb ((bs.drop i).take m)) := by
 have hlen : (vb ((bs.drop i).take m)).length = m := by simp; omega
 refine .inr ⟨b, off + i, c, by rw [hlen], by rw [hlen]; exact h2, h3, hb, fun j u hu => ?_⟩
 have hj : j < m := by have := (List.getElem?_eq_some_iff.1 hu).1; rw [hlen] at this; exact this
 rw [show off + i + j = off + (i + j) by omega]
 refine hcell (i + j) u ?_
 unfold vb at hu ⊢
 rw [List.getElem?_map, List.getElem?_take_of_lt hj, List.getElem?_drop] at hu
 rw [List.getElem?_map]; exact hu
theorem and_mask (x : Int) (i : Nat) (hi : i < 63) : bits .and .i64 x (2 ^ i - 1) = x % 2 ^ i := by
 have hpos : 0 < 2 ^ i := Nat.two_pow_pos i
 have hle : 2 ^ i ≤ 2 ^ 62 := Nat.pow_le_pow_right (by decide) (by omega)
 have hc : ((2 : Int) ^ i - 1) = ((2 ^ i - 1 : Nat) : Int) := by rw [Int.natCast_sub hpos]; simp
 rw [hc]
 simp only [bits, BitVec.ofInt_natCast, BitVec.toNat_and, BitVec.toNat_ofNat, BitVec.toNat_ofInt]
 simp only [show IntKind.i64.bits = 64 from rfl]
 rw [Nat.mod_eq_of_lt (show 2 ^ i - 1 < 2 ^ 64 by omega), Nat.and_two_pow_sub_one_eq_mod]
 have hr : ((x % ((2 ^ 64 : Nat) : Int)).toNat % 2 ^ i : Nat) = (x % 2 ^ i : Int) := by
  rw [Int.natCast_emod, Int.toNat_of_nonneg (Int.emod_nonneg _ (by decide))]
  rw [Int.emod_emod_of_dvd]
  ·simp
  ·exact_mod_cast Nat.pow_dvd_pow 2 (show i ≤ 64 by omega)
 have hlt : ((x % ((2 ^ 64 : Nat) : Int)).toNat % 2 ^ i) < 2 ^ i := Nat.mod_lt _ hpos
 rw [← hr, IntKind.wrap_i64]
 omega
end Go.YtndekdafiaogmaaMem
end
section
namespace Go.YtndekdafiaogmaaLex
open Go Go.YtndekdafiaogmaaMem
/-! One operation. Kinds: 0 a value, the same everywhere; 1 a value, the same in every world of S; 2 goes from S to S; 5 a value; else anything. -/
section
variable {P : Program} {ops : Array Oper} {Q : Exit → Act → World → Prop} {S : World → Prop}
def GoodH (P : Program) (S : World → Prop) (kind : Nat) (o : Oper) (a : Act) (w : World) : Prop :=
 match kind with
 | 0 => ∃ v, ∀ w', (execOp a.eval o).run P w' = .ok (.value v) w'
 | 1 => S w ∧ ∃ v, ∀ w', S w' → (execOp a.eval o).run P w' = .ok (.value v) w'
 | 5 => ∃ v, (execOp a.eval o).run P w = .ok (.value v) w
 | 2 => S w
 | _ => True
def KK (S : World → Prop) (kind : Nat) (K : Act → World → Prop) : Act → World → Prop := fun a w => (kind = 2 → S w) ∧ K a w
theorem GoodH.one {k : Nat} {o : Oper} {a : Act} {w : World} (h : GoodH P S k o a w) (hk : k = 0 ∨ k = 1 ∨ k = 5) : ∃ v, (execOp a.eval o).run P w = .ok (.value v) w := by
 rcases hk with rfl | rfl | rfl
 ·obtain ⟨v, hv⟩ := h; exact ⟨v, hv w⟩
 ·obtain ⟨hs, v, hv⟩ := h; exact ⟨v, hv w hs⟩
 ·exact h
def opH (P : Program) (S : World → Prop) (kind : Nat → Nat) (ops : Array Oper) (Q : Exit → Act → World → Prop) (i : Nat) (K : Act → World → Prop) (a : Act) (w : World) : Prop :=
 match ops[i]? with
 | none => K a w
 | some o => if Region.wanted o (yielded ops a.tmps) then GoodH P S (kind i) o a w ∧ o.wp P a w (KK S (kind i) K) Q else K (a.put o.dst undef) w
theorem opH_mono {kind : Nat → Nat} {i : Nat} {a : Act} {w : World} {K K' : Act → World → Prop} (h : ∀ a w, K a w → K' a w) (hh : opH P S kind ops Q i K a w) : opH P S kind ops Q i K' a w := by
 unfold opH at *
 split
 ·exact h _ _ (by simpa [*] using hh)
 ·rename_i o ho
  simp only [ho] at hh
  split
  ·rename_i hw; simp only [hw, if_true] at hh; exact ⟨hh.1, Oper.wp_mono (fun a w hk => ⟨hk.1, h _ _ hk.2⟩) hh.2⟩
  ·rename_i hw; simp only [hw] at hh; exact h _ _ hh
theorem opH_wpOp {kind : Nat → Nat} {i : Nat} {a : Act} {w : World} {K : Act → World → Prop} (hh : opH P S kind ops Q i K a w) : wpOp P ops Q i K a w := by
 unfold opH at hh; unfold wpOp
 split
 ·simpa [*] using hh
 ·rename_i o ho
  simp only [ho] at hh
  split
  ·rename_i hw; simp only [hw, if_true] at hh; exact .inl (Oper.wp_mono (fun a w hk => hk.2) hh.2)
  ·rename_i hw; simp only [hw] at hh; exact hh
theorem wp_keep {o : Oper} {a : Act} {w : World} {K K' : Act → World → Prop} (hk : ∀ (b : Act) u w', b.tmps = a.tmps → b.eval = a.eval → K (b.put o.dst u) w' → K' (b.put o.dst u) w') (h : o.wp P a w K Q) : o.wp P a w K' Q := by
 unfold Oper.wp at *
 generalize (execOp a.eval o).run P w = r at *
 cases r with
 | ok n w' =>
   cases n <;> simp only [Oper.upon] at h ⊢
   case value u => exact hk _ _ _ rfl rfl h
   case skip => exact hk _ _ _ rfl rfl h
   case defer q => exact hk _ _ _ rfl rfl h
   case enter f args =>
    refine Calls.mono h fun e w'' he => ?_
    cases e with
    | returned u => exact hk _ _ _ rfl rfl he
    | panicked c => exact he
    | outgrown => exact he
   case row r args => exact Rows.mono h fun u w'' he => hk _ _ _ rfl rfl he
 | halt x w' =>
   cases x <;> simp only [Oper.upon] at h ⊢
   case panic u => exact h
def Allowed (a b : Nat) : Prop := a = 0 ∨ b = 0 ∨ ((a = 1 ∨ a = 5) ∧ (b = 1 ∨ b = 5)) ∨ (a = 1 ∧ b = 2) ∨ (a = 2 ∧ b = 1)
theorem opH_swap {kind : Nat → Nat} {i j : Nat} {oi oj : Oper} (hi : ops[i]? = some oi) (hj : ops[j]? = some oj) (hp : Plain Q)
  (hsi : ∀ cs b, oi.op ≠ .select cs b) (hsj : ∀ cs b, oj.op ≠ .select cs b) (hap : oi.apart ops oj = true)
  (hk : Allowed (kind i) (kind j)) {K : Act → World → Prop} {a : Act} {w : World}
  (h : opH P S kind ops Q i (opH P S kind ops Q j K) a w) : opH P S kind ops Q j (opH P S kind ops Q i K) a w := by
 obtain ⟨h1, h2, h3⟩ := Oper.apart_spec hap
 have h2' : ∀ d, oj.dst = some d → oi.dst ≠ some d := fun d hd he => h2 d he hd
 have ei : ∀ (b : Act) u, execOp (b.put oj.dst u).eval oi = execOp b.eval oi := fun b u => execOp_put (ops := ops) oi hsi b oj.dst u h3
 have ej : ∀ (b : Act) u, execOp (b.put oi.dst u).eval oj = execOp b.eval oj := fun b u => execOp_put (ops := ops) oj hsj b oi.dst u h1
 have gi : ∀ b : Act, ∀ u w, GoodH P S (kind i) oi (b.put oj.dst u) w ↔ GoodH P S (kind i) oi b w := fun b u w => by unfold GoodH; rw [ei]
 have gj : ∀ b : Act, ∀ u w, GoodH P S (kind j) oj (b.put oi.dst u) w ↔ GoodH P S (kind j) oj b w := fun b u w => by unfold GoodH; rw [ej]
 have wi : ∀ b : Act, ∀ u, Region.wanted oi (yielded ops (b.put oj.dst u).tmps) = Region.wanted oi (yielded ops b.tmps) := fun b u => wanted_put oi b oj.dst u h3
 have wj : ∀ b : Act, ∀ u, Region.wanted oj (yielded ops (b.put oi.dst u).tmps) = Region.wanted oj (yielded ops b.tmps) := fun b u => wanted_put oj b oi.dst u h1
 have pc : ∀ (b : Act) (u v : Value), (b.put oi.dst u).put oj.dst v = (b.put oj.dst v).put oi.dst u := fun b u v => Act.put_comm b u v h2
 have jput : ∀ (K : Act → World → Prop) (b : Act) (u : Value) (w : World), opH P S kind ops Q j K (b.put oi.dst u) w ↔ opH P S kind ops Q j (fun a' w' => K (a'.put oi.dst u) w') b w := fun K b u w => by
  unfold opH; simp only [hj, wj, gj, wp_put (ops := ops) hp hsj h1 h2, KK]
  rw [pc]; exact Iff.rfl
 have iput : ∀ (K : Act → World → Prop) (b : Act) (u : Value) (w : World), opH P S kind ops Q i K (b.put oj.dst u) w ↔ opH P S kind ops Q i (fun a' w' => K (a'.put oj.dst u) w') b w := fun K b u w => by
  unfold opH; simp only [hi, wi, gi, wp_put (ops := ops) hp hsi h3 h2', KK]
  rw [← pc]; exact Iff.rfl
 have iskip : ∀ (K : Act → World → Prop) (b : Act) (w : World), Region.wanted oi (yielded ops b.tmps) = false → opH P S kind ops Q i K b w = K (b.put oi.dst undef) w := fun K b w hb => by
  unfold opH; simp only [hi, hb, Bool.false_eq_true, if_false]
 have jskip : ∀ (K : Act → World → Prop) (b : Act) (w : World), Region.wanted oj (yielded ops b.tmps) = false → opH P S kind ops Q j K b w = K (b.put oj.dst undef) w := fun K b w hb => by
  unfold opH; simp only [hj, hb, Bool.false_eq_true, if_false]
 have iwant : ∀ (K : Act → World → Prop) (b : Act) (w : World), Region.wanted oi (yielded ops b.tmps) = true → (opH P S kind ops Q i K b w ↔ GoodH P S (kind i) oi b w ∧ oi.wp P b w (KK S (kind i) K) Q) := fun K b w hb => by
  unfold opH; simp only [hi, hb, if_true]
 have jwant : ∀ (K : Act → World → Prop) (b : Act) (w : World), Region.wanted oj (yielded ops b.tmps) = true → (opH P S kind ops Q j K b w ↔ GoodH P S (kind j) oj b w ∧ oj.wp P b w (KK S (kind j) K) Q) := fun K b w hb => by
  unfold opH; simp only [hj, hb, if_true]
 have jkeep : ∀ (K K' : Act → World → Prop) (b : Act) (w : World), (∀ (c : Act) u w', c.tmps = b.tmps → c.eval = b.eval → (kind j = 2 → Region.wanted oj (yielded ops b.tmps) = true → S w') → K (c.put oj.dst u) w' → K' (c.put oj.dst u) w') →
   opH P S kind ops Q j K b w → opH P S kind ops Q j K' b w := fun K K' b w hK hh => by
  by_cases hw : Region.wanted oj (yielded ops b.tmps) = true
  ·rw [jwant _ _ _ hw] at hh ⊢
   exact ⟨hh.1, wp_keep (fun c u w' hc he hk => ⟨hk.1, hK c u w' hc he (fun e _ => hk.1 e) hk.2⟩) hh.2⟩
  ·have hw' : Region.wanted oj (yielded ops b.tmps) = false := by simpa using hw
   rw [jskip _ _ _ hw'] at hh ⊢
   exact hK b _ _ rfl rfl (fun _ h => absurd h hw) hh
 by_cases hwi : Region.wanted oi (yielded ops a.tmps) = true
 case neg =>
  have hwi' : Region.wanted oi (yielded ops a.tmps) = false := by simpa using hwi
  rw [iskip _ _ _ hwi', jput] at h
  refine jkeep _ _ a w (fun c u w' hc he _ hh => ?_) h
  rw [iskip _ _ _ (by rw [wi, hc]; exact hwi')]; exact hh
 case pos =>
  obtain ⟨hg, hw⟩ := (iwant _ _ _ hwi).1 h
  have wi' : ∀ (c : Act) u, c.tmps = a.tmps → Region.wanted oi (yielded ops (c.put oj.dst u).tmps) = true := fun c u hc => by rw [wi, hc]; exact hwi
  by_cases hi0 : kind i = 0
  ·obtain ⟨v, hv⟩ : ∃ v, ∀ w', (execOp a.eval oi).run P w' = .ok (.value v) w' := by rw [hi0] at hg; exact hg
   have hj1 : opH P S kind ops Q j K (a.put oi.dst v) w := ((wp_value (hv w)).1 hw).2
   rw [jput] at hj1
   refine jkeep _ _ a w (fun c u w' hc he _ hh => ?_) hj1
   refine (iwant _ _ _ (wi' c u hc)).2 ⟨?_, ?_⟩
   ·rw [gi, hi0]; exact ⟨v, by rw [he]; exact hv⟩
   ·refine (wp_value (by rw [ei, he]; exact hv w')).2 ⟨fun e => (by rw [hi0] at e; cases e), hh⟩
  ·by_cases hwj : Region.wanted oj (yielded ops a.tmps) = true
   case neg =>
    have hwj' : Region.wanted oj (yielded ops a.tmps) = false := by simpa using hwj
    rw [jskip _ _ _ hwj', iput]
    refine (iwant _ _ _ hwi).2 ⟨hg, wp_keep (fun c u w' hc he hk => ⟨hk.1, ?_⟩) hw⟩
    have := hk.2
    rw [jskip _ _ _ (by rw [wj, hc]; exact hwj')] at this
    exact this
   case pos =>
    have wj' : ∀ (c : Act) u, c.tmps = a.tmps → Region.wanted oj (yielded ops (c.put oi.dst u).tmps) = true := fun c u hc => by rw [wj, hc]; exact hwj
    by_cases hj0 : kind j = 0
    ·obtain ⟨b, u0, w0, hb1, hb2, hb3⟩ := wp_some hp hw
     have hG := ((jwant _ _ _ (wj' b u0 hb2)).1 hb1.2).1
     rw [gj, hj0] at hG
     obtain ⟨v, hv⟩ := hG
     rw [hb3] at hv
     refine (jwant _ _ _ hwj).2 ⟨by rw [hj0]; exact ⟨v, hv⟩, (wp_value (hv w)).2 ⟨fun e => (by rw [hj0] at e; cases e), ?_⟩⟩
     rw [iput]
     refine (iwant _ _ _ hwi).2 ⟨hg, wp_keep (fun c u w' hc he hk => ⟨hk.1, ?_⟩) hw⟩
     have := ((jwant _ _ _ (wj' c u hc)).1 hk.2).2
     exact ((wp_value (by rw [ej, he]; exact hv w')).1 this).2
    ·rcases hk with h0 | h0 | ⟨hi1, hj1⟩ | ⟨hi1, hj1⟩ | ⟨hi1, hj1⟩
     ·exact absurd h0 hi0
     ·exact absurd h0 hj0
     ·-- both read
      have hi2 : kind i ≠ 2 := by omega
      have hj2 : kind j ≠ 2 := by omega
      obtain ⟨v, hv⟩ := hg.one (by omega)
      have hh := ((wp_value hv).1 hw).2
      obtain ⟨hG, hwj2⟩ := (jwant _ _ _ (wj' a v rfl)).1 hh
      rw [gj] at hG
      obtain ⟨u, hu⟩ := hG.one (by omega)
      have hK := ((wp_value (by rw [ej]; exact hu)).1 hwj2).2
      refine (jwant _ _ _ hwj).2 ⟨hG, (wp_value hu).2 ⟨fun e => absurd e hj2, (iwant _ _ _ (wi' a u rfl)).2 ⟨by rw [gi]; exact hg, (wp_value (by rw [ei]; exact hv)).2 ⟨fun e => absurd e hi2, ?_⟩⟩⟩⟩
      rw [← pc]; exact hK
     ·-- i reads what j leaves alone
      rw [hi1] at hg
      obtain ⟨hs, v, hv⟩ := hg
      have hh := ((wp_value (hv w hs)).1 hw).2
      rw [jput] at hh
      refine jkeep _ _ a w (fun c u w' hc he hS hk => ?_) hh
      have hs' := hS hj1 hwj
      refine (iwant _ _ _ (wi' c u hc)).2 ⟨?_, (wp_value (by rw [ei, he]; exact hv w' hs')).2 ⟨fun e => (by rw [hi1] at e; cases e), hk⟩⟩
      rw [gi, hi1]; exact ⟨hs', v, by rw [he]; exact hv⟩
     ·-- j reads what i leaves alone
      obtain ⟨b, u0, w0, hb1, hb2, hb3⟩ := wp_some hp hw
      have hG := ((jwant _ _ _ (wj' b u0 hb2)).1 hb1.2).1
      rw [gj, hj1] at hG
      obtain ⟨_, v, hv⟩ := hG
      rw [hb3] at hv
      have hs : S w := by rw [hi1] at hg; exact hg
      refine (jwant _ _ _ hwj).2 ⟨by rw [hj1]; exact ⟨hs, v, hv⟩, (wp_value (hv w hs)).2 ⟨fun e => (by rw [hj1] at e; cases e), ?_⟩⟩
      rw [iput]
      refine (iwant _ _ _ hwi).2 ⟨hg, wp_keep (fun c u w' hc he hk => ⟨hk.1, ?_⟩) hw⟩
      have := ((jwant _ _ _ (wj' c u hc)).1 hk.2).2
      exact ((wp_value (by rw [ej, he]; exact hv w' (hk.1 hi1))).1 this).2
def anyH (P : Program) (S : World → Prop) (kind : Nat → Nat) (ops : Array Oper) (Q : Exit → Act → World → Prop) : Nat → Array Bool → Act → World → Prop
 | 0, listed, a, w => Region.ready .any ops listed = [] ∧ Q .normal a w
 | fuel + 1, listed, a, w =>
   (Region.ready .any ops listed = [] → Q .normal a w) ∧
   ∀ i ∈ Region.ready .any ops listed, opH P S kind ops Q i (anyH P S kind ops Q fuel (listed.setIfInBounds i true)) a w
theorem anyH_any {kind : Nat → Nat} : ∀ (fuel : Nat) (listed : Array Bool) (a : Act) (w : World), anyH P S kind ops Q fuel listed a w → wpAny P .any ops Q fuel listed a w
 | 0, _, _, _, h => h
 | f + 1, _, _, _, h => ⟨h.1, fun i hi => wpOp_mono (fun a w h' => anyH_any f _ a w h') (opH_wpOp (h.2 i hi))⟩
theorem firstH {kind : Nat → Nat} {i : Nat} {oi : Oper} (hi : ops[i]? = some oi) (hp : Plain Q) (hsel : ∀ (j : Nat) (o : Oper) cs b, ops[j]? = some o → o.op ≠ .select cs b) :
  ∀ (fuel : Nat) (listed : Array Bool) (a : Act) (w : World), Closed ops listed →
   (∀ j oj, ops[j]? = some oj → j ≠ i → listed.getD j true = false → ¬ Anc ops j i → oi.apart ops oj = true ∧ Allowed (kind i) (kind j)) →
   i ∈ Region.ready .any ops listed → opH P S kind ops Q i (anyH P S kind ops Q fuel (listed.setIfInBounds i true)) a w → anyH P S kind ops Q (fuel + 1) listed a w := by
 intro fuel
 induction fuel with
 | zero =>
   intro listed a w hc hfree hr H
   refine ⟨fun h => (by rw [h] at hr; cases hr), fun j hj => ?_⟩
   by_cases hji : j = i
   ·subst hji; exact H
   ·exfalso
    have hjr : ∀ a w, ¬ anyH P S kind ops Q 0 (listed.setIfInBounds i true) a w := fun a w h => by
     have := ready_mono hj hji
     rw [h.1] at this; cases this
    unfold opH at H
    simp only [hi] at H
    split at H
    ·obtain ⟨b, u, w', hk, _⟩ := wp_some hp H.2
     exact hjr _ _ hk.2
    ·exact hjr _ _ H
 | succ f ih =>
   intro listed a w hc hfree hr H
   have hun := (mem_ready.1 hr).1
   refine ⟨fun h => (by rw [h] at hr; cases hr), fun j hj => ?_⟩
   by_cases hji : j = i
   ·subst hji; exact H
   ·obtain ⟨hjun, oj, hoj, _⟩ := mem_ready.1 hj
    have hno : ¬ Anc ops j i := fun ha => by
     have h1 := ready_anc hc hj ha
     rw [getD_get hun] at h1; cases h1
    obtain ⟨hap, hk⟩ := hfree j oj hoj hji hjun hno
    have H1 : opH P S kind ops Q i (opH P S kind ops Q j (anyH P S kind ops Q f ((listed.setIfInBounds i true).setIfInBounds j true))) a w :=
     opH_mono (fun a w h => h.2 j (ready_mono hj hji)) H
    have H2 := opH_swap hi hoj hp (fun cs b => hsel i oi cs b hi) (fun cs b => hsel j oj cs b hoj) hap hk H1
    refine opH_mono (fun a' w' h' => ih (listed.setIfInBounds j true) a' w' (hc.set hj) ?_ (ready_mono hr (Ne.symm hji)) ?_) H2
    ·intro k ok hk hki hun2 hno2
     refine hfree k ok hk hki ?_ hno2
     by_cases hjk : j = k
     ·subst hjk; exact hjun
     ·rw [getD_set_ne true hjk] at hun2; exact hun2
    ·rw [Array.setIfInBounds_comm _ _ hji]; exact h'
def lexH (P : Program) (S : World → Prop) (kind : Nat → Nat) (ops : Array Oper) (Q : Exit → Act → World → Prop) : List Oper → Nat → Act → World → Prop
 | [], _, a, w => Q .normal a w
 | _ :: rest, k, a, w => opH P S kind ops Q k (lexH P S kind ops Q rest (k + 1)) a w
structure FineH (kind : Nat → Nat) (ops : Array Oper) : Prop where
 sel : ∀ (j : Nat) (o : Oper) cs b, ops[j]? = some o → o.op ≠ .select cs b
 back : ∀ (j : Nat) (o : Oper), ops[j]? = some o → ∀ e ∈ o.after, Region.binds .any e = true → e.on < j
 free : ∀ (i j : Nat) (oi oj : Oper), i < j → ops[i]? = some oi → ops[j]? = some oj → ¬ Anc ops j i → oi.apart ops oj = true ∧ Allowed (kind i) (kind j)
theorem any_of_lexH {kind : Nat → Nat} (hp : Plain Q) (hf : FineH kind ops) : ∀ (l : List Oper) (k : Nat) (listed : Array Bool) (a : Act) (w : World), (∀ j, l[j]? = ops[k + j]?) →
  listed.size = ops.size → (∀ j, j < k → listed.getD j false = true) → (∀ j, k ≤ j → j < ops.size → listed.getD j true = false) →
  lexH P S kind ops Q l k a w → anyH P S kind ops Q l.length listed a w
 | [], k, listed, a, w, hl, hs, h1, h2, h => by
   refine ⟨?_, h⟩
   refine List.eq_nil_iff_forall_not_mem.2 fun j hj => ?_
   obtain ⟨hun, oj, hoj, _⟩ := mem_ready.1 hj
   have hjs : j < ops.size := (Array.getElem?_eq_some_iff.1 hoj).1
   rcases Nat.lt_or_ge j k with hjk | hjk
   ·have := h1 j hjk; rw [getD_get hun] at this; cases this
   ·have := hl (j - k)
    rw [show k + (j - k) = j by omega, hoj] at this
    simp at this
 | o :: l, k, listed, a, w, hl, hs, h1, h2, h => by
   have h0 : ops[k]? = some o := by simpa using (hl 0).symm
   have hks : k < ops.size := (Array.getElem?_eq_some_iff.1 h0).1
   have hr : k ∈ Region.ready .any ops listed := mem_ready.2 ⟨h2 k (Nat.le_refl _) hks, o, h0, fun e he hb => h1 _ (hf.back k o h0 e he hb)⟩
   have hc : Closed ops listed := by
    intro j oj hj hlj e he hb
    rcases Nat.lt_or_ge j k with hjk | hjk
    ·exact h1 _ (by have := hf.back j oj hj e he hb; omega)
    ·have hjs : j < ops.size := (Array.getElem?_eq_some_iff.1 hj).1
     rw [getD_get (h2 j hjk hjs)] at hlj; cases hlj
   refine firstH h0 hp hf.sel l.length listed a w hc (fun j oj hj hjk hun hno => ?_) hr ?_
   ·have hjs : j < ops.size := (Array.getElem?_eq_some_iff.1 hj).1
    rcases Nat.lt_or_ge j k with hlt | hge
    ·have := h1 j hlt; rw [getD_get hun] at this; cases this
    ·exact hf.free k j o oj (by omega) h0 hj hno
   ·refine opH_mono (fun a' w' h' => any_of_lexH hp hf l (k + 1) (listed.setIfInBounds k true) a' w' (fun j => by have := hl (j + 1); simpa [Nat.add_assoc, Nat.add_comm 1 j] using this) (by simp [hs]) ?_ ?_ h') h
    ·intro j hj
     by_cases hjk : k = j
     ·subst hjk; rw [Array.getD_eq_getD_getElem?]; simp [hs, hks]
     ·rw [getD_set_ne false hjk]; exact h1 j (by omega)
    ·intro j hj hjs
     rw [getD_set_ne true (by omega)]; exact h2 j (by omega) hjs
end
/-! What reads old memory reads the same. -/
def IsC (w : World) (b : Nat) : Prop := ∃ c T f, w.heap[b]? = some (.cells c T f)
theorem isC_of_cell {w : World} {a : Addr} {v : Value} (h : w.cell? a = some v) : IsC w a.block := by
 unfold World.cell? at h
 split at h
 ·rename_i c T f he; exact ⟨c, T, f, he⟩
 ·cases h
theorem isC_of_blk {w : World} {b : Nat} {T : TypeId} {cs : List Value} (h : Blk w b T cs) : IsC w b := ⟨_, _, _, h⟩
theorem IsC.drew {w : World} {b : Nat} (h : IsC w b) : IsC w.drew b := h
theorem IsC.alloc {w : World} {b : Nat} (h : IsC w b) (o : Obj) : IsC (w.alloc o) b := by
 obtain ⟨c, T, f, h⟩ := h
 exact ⟨c, T, f, by rw [RowKit.Below.heap_alloc _ _ _ (lt_of_some h)]; exact h⟩
theorem IsC.new (w : World) (c : Array Value) (T : TypeId) (f : Nat × Nat) : IsC (w.alloc (.cells c T f)) w.heap.size := ⟨c, T, f, by show (w.heap.push _)[w.heap.size]? = _; simp⟩
theorem IsC.mod {S : List Nat} {w w' : World} {b : Nat} (h : IsC w b) (hm : Mod S w w') (hn : b ∉ S) : IsC w' b := by
 obtain ⟨c, T, f, h⟩ := h; exact ⟨c, T, f, hm.heap h hn⟩
theorem IsC.set {w : World} {b : Nat} (h : IsC w b) (a : Addr) (v : Value) : IsC (w.setCell a v) b := by
 obtain ⟨c, T, f, h⟩ := h
 by_cases e : a.block = b
 ·refine ⟨if a.spot.isSome then c else c.setIfInBounds a.off v, T, f, ?_⟩
  simp only [World.setCell, Array.getElem?_modify, e, h]; simp
 ·exact ⟨c, T, f, by rw [RowKit.Below.heap_setCell _ _ _ _ (fun x => e x.symm)]; exact h⟩
section
variable {P : Program}
theorem load_same {w w' w1 : World} {a : Addr} {v : Value} (hc : IsC w a.block) (hs : w'.heap[a.block]? = w.heap[a.block]?) (h : (load a).run P w = .ok v w1) : (load a).run P w' = .ok v w' := by
 have he : w'.cell? a = w.cell? a := World.cell?_of_block (w := w) hs
 simp only [load, Sem.run] at h ⊢
 rw [he]
 cases hv : w.cell? a with
 | some u => rw [hv] at h; injection h with h1 _; rw [h1]
 | none =>
   rw [hv] at h
   obtain ⟨c, T, f, hb⟩ := hc
   simp [World.farLoad, hb] at h
theorem loadCellsFrom_same {w w' : World} {a : Addr} (hc : IsC w a.block) (hs : w'.heap[a.block]? = w.heap[a.block]?) : ∀ (n i : Nat) (acc cs : Array Value) (w1 : World),
  (loadCellsFrom a i n acc).run P w = .ok cs w1 → (loadCellsFrom a i n acc).run P w' = .ok cs w'
 | 0, i, acc, cs, w1, h => by
   unfold loadCellsFrom at *
   have h' : Result.ok acc w = .ok cs w1 := h
   injection h' with h1 _; subst h1; rfl
 | n + 1, i, acc, cs, w1, h => by
   unfold loadCellsFrom at *
   change Sem.run P (Sem.bind (load _) _) _ = _ at h
   change Sem.run P (Sem.bind (load _) _) _ = _
   rw [Sem.run_bind'] at h ⊢
   have hbl : (a.add i).block = a.block := by unfold Addr.add; split <;> rfl
   cases hl : (load (a.add i)).run P w with
   | ok v w2 =>
     rw [load_same (by rw [hbl]; exact hc) (by rw [hbl]; exact hs) hl]
     have := reads_load _ _ _ _ hl
     subst this
     rw [hl] at h
     exact loadCellsFrom_same hc hs n (i + 1) _ cs w1 h
   | halt q w2 => rw [hl] at h; cases h
theorem loadAt_same {w w' w1 : World} {t : TypeId} {a : Addr} {v : Value} (hc : IsC w a.block) (hs : w'.heap[a.block]? = w.heap[a.block]?) (h : (Instr.loadAt t (.pointer (some a))).run P w = .ok v w1) :
  (Instr.loadAt t (.pointer (some a))).run P w' = .ok v w' := by
 have e : ∀ w, (Instr.loadAt t (.pointer (some a))).run P w = (loadVar t a).run P w := fun w => rfl
 rw [e] at h ⊢
 unfold loadVar at *
 change Sem.run P (Sem.bind (isAgg t) _) _ = _ at h
 change Sem.run P (Sem.bind (isAgg t) _) _ = _
 rw [Sem.run_bind'] at h ⊢
 cases hi : (isAgg t).run P w with
 | halt q w2 => rw [hi] at h; cases h
 | ok b w2 =>
   obtain ⟨rfl, hb⟩ := blind_isAgg (P := P) t _ _ _ hi
   rw [hi] at h; rw [hb w']
   simp only [Result.andThen_ok] at h ⊢
   cases b with
   | false => exact load_same hc hs h
   | true =>
     simp only [if_true] at h ⊢
     change Sem.run P (Sem.bind (sizeOf t) _) _ = _ at h
     change Sem.run P (Sem.bind (sizeOf t) _) _ = _
     rw [Sem.run_bind'] at h ⊢
     cases hz : (sizeOf t).run P w2 with
     | halt q w3 => rw [hz] at h; cases h
     | ok n w3 =>
       obtain ⟨rfl, hn⟩ := blind_sizeOf (P := P) t _ _ _ hz
       rw [hz] at h; rw [hn w']
       simp only [Result.andThen_ok] at h ⊢
       change Sem.run P (Sem.bind (loadCells a n) _) _ = _ at h
       change Sem.run P (Sem.bind (loadCells a n) _) _ = _
       rw [Sem.run_bind'] at h ⊢
       cases hl : (loadCells a n).run P w3 with
       | halt q w4 => rw [hl] at h; cases h
       | ok cs w4 =>
         rw [hl] at h
         unfold loadCells at hl ⊢
         rw [loadCellsFrom_same hc hs _ _ _ _ _ hl]
         have h' : Result.ok (Value.agg cs) w4 = .ok v w1 := h
         injection h' with h1 _; subst h1; rfl
theorem blind_forIn {α β : Type} (f : α → β → Sem (ForInStep β)) (h : ∀ a b, Blind P (f a b)) : ∀ (l : List α) (b : β), Blind P (forIn l b f)
 | [], b => by rw [List.forIn_nil]; exact blind_pure _
 | a :: l, b => by
   rw [List.forIn_cons]
   refine blind_bind (h _ _) fun r => ?_
   split
   ·exact blind_pure _
   ·exact blind_forIn f h l _
theorem bytesToString_same {w w' w1 : World} {a : Addr} {n c : Nat} {v : Value} (hc : n = 0 ∨ (IsC w a.block ∧ w'.heap[a.block]? = w.heap[a.block]?)) (h : (Conv.bytesToString (.slice (some a) n c)).run P w = .ok v w1) :
  (Conv.bytesToString (.slice (some a) n c)).run P w' = .ok v w' := by
 unfold Conv.bytesToString at *
 simp only at h ⊢
 change Sem.run P (Sem.bind (loadCells a n) _) _ = _ at h
 change Sem.run P (Sem.bind (loadCells a n) _) _ = _
 rw [Sem.run_bind'] at h ⊢
 have hl2 : ∀ cs w2, (loadCells a n).run P w = .ok cs w2 → (loadCells a n).run P w' = .ok cs w' := fun cs w2 hl => by
  rcases hc with rfl | ⟨hc, hs⟩
  ·have h' : Result.ok #[] w = .ok cs w2 := hl
   injection h' with h1 _; subst h1; rfl
  ·unfold loadCells at *; exact loadCellsFrom_same hc hs _ _ _ _ _ hl
 cases hl : (loadCells a n).run P w with
 | halt q w2 => rw [hl] at h; cases h
 | ok cs w2 =>
   rw [hl] at h
   rw [hl2 cs w2 hl]
   simp only [Result.andThen_ok] at h ⊢
   refine (fun (hb : Blind P _) => (hb _ _ _ h).2 w') ?_
   refine blind_bind ?_ fun _ => blind_pure _
   rw [← Array.forIn_toList]
   refine blind_forIn _ (fun c s => ?_) _ _
   split
   ·exact blind_bind (blind_pure _) fun _ => blind_pure _
   ·exact (noOk_left (noOk_stuck _)).blind
end
/-! What makes memory leaves the old alone. -/
section
variable {P : Program} {α β : Type}
def Grow (P : Program) (s : Sem α) : Prop := ∀ w x w1, s.run P w = .ok x w1 → Mod [] w w1
theorem Reads.grow {s : Sem α} (h : Reads P s) : Grow P s := fun w x w1 e => by obtain rfl := h w x w1 e; exact Mod.refl _ _
theorem grow_bind {s : Sem α} {f : α → Sem β} (h : Grow P s) (g : ∀ a, Grow P (f a)) : Grow P (s >>= f) := fun w x w1 e => by
 change Sem.run P (Sem.bind s f) w = _ at e
 rw [Sem.run_bind'] at e
 cases hs : s.run P w with
 | ok a w' => rw [hs] at e; exact (h _ _ _ hs).trans (g a _ _ _ e)
 | halt q w' => rw [hs] at e; cases e
theorem grow_newObj (o : Obj) : Grow P (newObj o) := fun w x w1 e => by
 have e' : Result.ok w.heap.size { w with heap := w.heap.push o } = .ok x w1 := e
 injection e' with _ h2; subst h2
 exact (Mod.refl [] w).alloc o
theorem grow_choose (q : Question) : Grow P (choose q) := fun w x w1 e => by
 simp only [choose, Sem.run] at e
 split at e
 ·injection e with _ h2; subst h2; exact Mod.refl _ _
 ·injection e with _ h2; subst h2; exact (Mod.refl [] w).drew
theorem grow_mark (m : Mark) : Grow P (mark m) := fun w x w1 e => by
 simp only [mark, Sem.run] at e
 injection e with _ h2; subst h2; exact Mod.refl _ _
theorem grow_pure (a : α) : Grow P (pure a : Sem α) := (reads_pure a).grow
theorem grow_noOk {s : Sem α} (h : NoOk P s) : Grow P s := h.blind.reads.grow
theorem blind_zeroValue (t : TypeId) : Blind P (zeroValue t) := by
 unfold zeroValue
 refine blind_bind (blind_typeInfo _) fun i => ?_
 split
 ·exact blind_pure _
 ·exact (noOk_unsupported _).blind
theorem grow_newRow (e : TypeId) (c : Array Value) : Grow P (newRow e c) := by
 unfold newRow; exact grow_bind (grow_newObj _) fun _ => grow_pure _
theorem grow_askRoom (n : Nat) : Grow P (askRoom n) := by
 unfold askRoom
 split
 ·exact grow_mark _
 ·exact grow_pure _
theorem grow_alloc (e : TypeId) : Grow P (Instr.alloc e true (.tuple #[])) := by
 unfold Instr.alloc
 refine grow_bind (blind_zeroValue _).reads.grow fun z => ?_
 exact grow_bind (by unfold newVar; exact grow_newRow _ _) fun _ => grow_pure _
theorem grow_box (e : TypeId) (v : Value) : Grow P (Instr.box e v) := by
 unfold Instr.box newVar
 exact grow_bind (grow_newRow _ _) fun _ => grow_pure _
theorem grow_buildSlice (t : TypeId) (n : Nat) (ps : Array (Nat × Value)) : Grow P (Instr.buildSlice t n ps) := by
 unfold Instr.buildSlice
 repeat' (first | exact grow_newRow _ _ | exact grow_pure _ | exact grow_noOk (noOk_stuck _) | exact grow_noOk (noOk_unsupported _) | exact (blind_underlying _).reads.grow | exact (blind_sizeOf _).reads.grow | exact (blind_zeroValue _).reads.grow | refine grow_bind ?_ (fun _ => ?_) | split | dsimp only)
theorem blind_asInt (v : Value) : Blind P (asInt v) := by unfold asInt; exact blind_bind (blind_asIntOf _) fun _ => blind_pure _
theorem grow_makeSlice (t : TypeId) (l c : Value) : Grow P (Instr.makeSlice t l c) := by
 unfold Instr.makeSlice
 repeat' (first | exact grow_newRow _ _ | exact grow_pure _ | exact grow_askRoom _ | exact grow_choose _ | exact grow_noOk (noOk_stuck _) | exact grow_noOk (noOk_unsupported _) | exact grow_noOk (noOk_runtimePanic _) | exact (blind_underlying _).reads.grow | exact (blind_typeInfo _).reads.grow | exact (blind_asInt _).reads.grow | exact (blind_sizeOf _).reads.grow | exact (blind_zeroValue _).reads.grow | refine grow_bind ?_ (fun _ => ?_) | split | dsimp only)
def allocLike : Op → Bool
 | .alloc _ | .box _ _ | .buildSlice _ _ _ | .makeSlice _ _ _ => true
 | _ => false
theorem allocLike_mod {o : Oper} {a : Act} {w w1 : World} {n : Next} (h : allocLike o.op = true) (e : (execOp a.eval o).run P w = .ok n w1) : (∃ v, n = .value v) ∧ Mod [] w w1 := by
 obtain ⟨dst, op, type, pos, after, guard⟩ := o
 unfold execOp at e
 cases op <;> first | (cases h; done) | skip
 case alloc t => obtain ⟨v, rfl, h2⟩ := run_v e; exact ⟨⟨v, rfl⟩, grow_alloc _ _ _ _ h2⟩
 case box t v => obtain ⟨v, rfl, h2⟩ := run_v e; exact ⟨⟨v, rfl⟩, grow_box _ _ _ _ _ h2⟩
 case buildSlice t n ps => obtain ⟨v, rfl, h2⟩ := run_v e; exact ⟨⟨v, rfl⟩, grow_buildSlice _ _ _ _ _ _ h2⟩
 case makeSlice t l c => obtain ⟨v, rfl, h2⟩ := run_v e; exact ⟨⟨v, rfl⟩, grow_makeSlice _ _ _ _ _ _ h2⟩
end
/-! The look, and the walk in pieces. -/
def cutsOf : Nat → List Nat → List Nat
 | _, [] => []
 | k, n :: ns => (k + n - 1) :: cutsOf (k + n) ns
def kindH (P : Program) (l : List Oper) (cuts hs : List Nat) (i : Nat) : Nat :=
 match l[i]? with
 | none => 0
 | some o =>
   match kindOf P o with
   | 0 => 0
   | 1 => if hs.contains i then 1 else 5
   | _ => if allocLike o.op || cuts.contains i then 2 else 4
def allowedB (a b : Nat) : Bool := a == 0 || b == 0 || ((a == 1 || a == 5) && (b == 1 || b == 5)) || (a == 1 && b == 2) || (a == 2 && b == 1)
def freeH (ops : Array Oper) (kind : Nat → Nat) (rows : List Nat) : Nat → List Oper → Bool
 | _, [] => true
 | i, o :: l => ((List.range l.length).all fun d => (rows.getD (i + 1 + d) 0).testBit i || match l[d]? with | some o' => o.apart ops o' && allowedB (kind i) (kind (i + 1 + d)) | none => true) && freeH ops kind rows (i + 1) l
def tailH (kind : Nat → Nat) (n : Nat) : Bool := (List.range n).all fun i => kind i != 4 || (List.range n).all fun j => decide (j ≤ i) || (kind j != 1 && kind j != 2)
def okH (P : Program) (l : List Oper) (ns hs : List Nat) : Bool :=
 l.all (fun o => noSel o.op) && kept P l &&
 ((List.range l.length).all fun j => match l[j]? with | some o => o.after.toList.all (fun e => !Region.binds .any e || decide (e.on < j)) | none => true) &&
 freeH l.toArray (kindH P l (cutsOf 0 ns) hs) (ancRows l []) 0 l && tailH (kindH P l (cutsOf 0 ns) hs) l.length &&
 ns.all (fun n => decide (0 < n)) && hs.all (fun i => match l[i]? with
  | some o => match o.op with
    | .load _ (.tmp t) | .convert _ _ (.tmp t) => (l.drop i).all fun o' => o'.dst != some t
    | _ => false
  | none => false)
theorem freeH_spec {ops : Array Oper} {kind : Nat → Nat} {rows : List Nat} : ∀ (l : List Oper) (s : Nat), freeH ops kind rows s l = true → ∀ i d oi oj, l[i]? = some oi → l[i + 1 + d]? = some oj →
  (rows.getD (s + i + 1 + d) 0).testBit (s + i) = true ∨ (oi.apart ops oj = true ∧ allowedB (kind (s + i)) (kind (s + i + 1 + d)) = true)
 | [], s, _, i, d, oi, oj, hi, _ => by simp at hi
 | o :: l, s, h, i, d, oi, oj, hi, hj => by
   unfold freeH at h
   simp only [Bool.and_eq_true] at h
   cases i with
   | zero =>
     obtain rfl : o = oi := by simpa using hi
     have hj' : l[d]? = some oj := by simpa [Nat.add_comm] using hj
     have hd : d < l.length := (List.getElem?_eq_some_iff.1 hj').1
     have := List.all_eq_true.1 h.1 d (List.mem_range.2 hd)
     simp only [hj', Bool.or_eq_true, Bool.and_eq_true] at this
     simpa using this
   | succ i =>
     have := freeH_spec l (s + 1) h.2 i d oi oj (by simpa using hi) (by rw [show i + 1 + 1 + d = (i + 1 + d) + 1 by omega] at hj; simpa using hj)
     rw [show s + (i + 1) + 1 + d = s + 1 + i + 1 + d by omega, show s + (i + 1) = s + 1 + i by omega]
     exact this
theorem allowed_of {a b : Nat} (h : allowedB a b = true) : Allowed a b := by
 unfold allowedB at h; unfold Allowed
 simp only [Bool.or_eq_true, Bool.and_eq_true, beq_iff_eq] at h
 omega
def heldV (F : List Nat) (w : World) : Value → Prop
 | .pointer (some a) => a.block ∉ F ∧ IsC w a.block
 | .slice (some a) n _ => n = 0 ∨ (a.block ∉ F ∧ IsC w a.block)
 | _ => True
def operandOf : Option Oper → Operand
 | some o => match o.op with
   | .load _ x => x
   | .convert _ _ x => x
   | _ => .const undef
 | none => .const undef
def heldAll (F : List Nat) (w : World) (l : List Oper) (tmps : Array Value) : List Nat → Prop
 | [] => True
 | i :: hs => heldV F w (operandAt tmps (operandOf l[i]?)) ∧ heldAll F w l tmps hs
theorem heldAll_mem {F : List Nat} {w : World} {l : List Oper} {tmps : Array Value} : ∀ {hs : List Nat}, heldAll F w l tmps hs → ∀ i ∈ hs, heldV F w (operandAt tmps (operandOf l[i]?))
 | [], _, i, hi => by cases hi
 | j :: hs, h, i, hi => by
   rcases List.mem_cons.1 hi with rfl | hi
   ·exact h.1
   ·exact heldAll_mem h.2 i hi
def PostH (P : Program) (l : List Oper) (F : List Nat) (w0 : World) (hs : List Nat) (Q : Exit → Act → World → Prop) : Exit → Act → World → Prop
 | .normal, a, w => good P l a.tmps = true ∧ heldAll F w0 l a.tmps hs ∧ Q .normal a w
 | _, _, _ => False
theorem PostH.plain (P : Program) (l : List Oper) (F : List Nat) (w0 : World) (hs : List Nat) (Q : Exit → Act → World → Prop) : Plain (PostH P l F w0 hs Q) := fun e a w h => by cases e <;> first | rfl | exact h.elim
def CutPost (S : World → Prop) (K : Act → World → Prop) : Exit → Act → World → Prop
 | .normal, a, w => S w ∧ K a w
 | _, _, _ => False
theorem CutPost.plain (S : World → Prop) (K : Act → World → Prop) : Plain (CutPost S K) := fun e a w h => by cases e <;> first | rfl | exact h.elim
def wpCut (P : Program) (ops : Array Oper) (S : World → Prop) (Q : Exit → Act → World → Prop) : List Nat → List Oper → Act → World → Prop
 | [], l, a, w => wpList P ops Q l a w
 | n :: ns, l, a, w => wpList P ops (CutPost S (fun a w => wpCut P ops S Q ns (l.drop n) a w)) (l.take n) a w
section
variable {P : Program} {ops : Array Oper} {Q : Exit → Act → World → Prop} {S : World → Prop}
theorem cut_some (hp : Plain Q) : ∀ (ns : List Nat) (l : List Oper) (a : Act) (w : World), wpCut P ops S Q ns l a w →
  ∃ b w', Q .normal b w' ∧ ∀ t, (∀ o ∈ l, o.dst ≠ some t) → b.tmps[t]? = a.tmps[t]?
 | [], l, a, w, h => list_some hp l a w h
 | n :: ns, l, a, w, h => by
   obtain ⟨b, w1, ⟨_, hb⟩, hbt⟩ := list_some (CutPost.plain _ _) _ _ _ h
   obtain ⟨c, w2, hc, hct⟩ := cut_some hp ns _ _ _ hb
   exact ⟨c, w2, hc, fun t ht => (hct t fun o ho => ht o (List.mem_of_mem_drop ho)).trans (hbt t fun o ho => ht o (List.mem_of_mem_take ho))⟩
theorem wp_q {Q0 Q1 : Exit → Act → World → Prop} (hp : Plain Q0) {o : Oper} {a : Act} {w : World} {K : Act → World → Prop} (h : o.wp P a w K Q0) : o.wp P a w K Q1 := by
 unfold Oper.wp at *
 generalize (execOp a.eval o).run P w = r at *
 cases r with
 | ok n w' =>
   cases n <;> simp only [Oper.upon] at h ⊢
   case value u => exact h
   case skip => exact h
   case defer q => exact h
   case enter f args =>
    refine Calls.mono h fun e w'' he => ?_
    cases e with
    | returned u => exact he
    | panicked c => exact (hp.panic he).elim
    | outgrown => exact (hp.out he).elim
   case row r args => exact h
 | halt x w' =>
   cases x <;> simp only [Oper.upon] at h ⊢
   case panic u => exact (hp.panic h).elim
end
section
variable {P : Program} {L : List Oper} {F : List Nat} {w0 : World} {hs cuts : List Nat} {Q : Exit → Act → World → Prop}
theorem blind_convert_tuple {s d e : TypeId} {l : Array Value} (hs : P.underlying s = some (.slice e)) (he : P.underlying e = some (.int .u8)) (hd : P.underlying d = some .string) : Blind P (Go.convert s d (.tuple l)) := by
 unfold Go.convert
 refine blind_underlying_bind fun a ha => blind_underlying_bind fun b hb => ?_
 rw [hs] at ha; rw [hd] at hb
 cases ha; cases hb
 refine blind_underlying_bind fun e' he' => ?_
 rw [he] at he'; cases he'
 exact (noOk_stuck _).blind
theorem good_of_end {l : List Oper} {k : Nat} {o : Oper} {a : Act} {w : World} (hk : L[k]? = some o) (hl : ∀ o' ∈ o :: l, o' ∈ L) (hdrop : o :: l = L.drop k) (hkept : kept P (o :: l) = true)
  (hsok : k ∈ hs → ∃ t, ((∃ T, o.op = .load T (.tmp t)) ∨ ∃ s d, o.op = .convert s d (.tmp t)) ∧ (L.drop k).all (fun o' => o'.dst != some t) = true)
  {b : Act} {w' : World} (hb : PostH P L F w0 hs Q .normal b w') (hsame : ∀ t, (∀ o' ∈ o :: l, o'.dst ≠ some t) → b.tmps[t]? = a.tmps[t]?)
  (hS : Mod F w0 w ∨ (kindH P L cuts hs k ≠ 1 ∧ kindH P L cuts hs k ≠ 2)) {n : Next} {w1 : World} (he : (execOp a.eval o).run P w = .ok n w1) : GoodH P (Mod F w0) (kindH P L cuts hs k) o a w := by
 obtain ⟨hg, hh, _⟩ := hb
 have hsh : kindOf P o ≤ 1 → ∀ c ∈ checks P o.op, Shaped c.1 (a.eval c.2) := fun hk1 c hc => by
  have hg1 := List.all_eq_true.1 hg o (hl o (by simp))
  unfold kept at hkept
  simp only [Bool.and_eq_true] at hkept
  have hk3 := List.all_eq_true.1 hkept.1 c hc
  simp only [Bool.or_eq_true, decide_eq_true_eq] at hg1
  have hg2 := List.all_eq_true.1 (hg1.resolve_left (by omega)) c hc
  refine shaped_of ?_
  obtain ⟨q, x⟩ := c
  cases x with
  | tmp t =>
    simp only [List.all_eq_true, bne_iff_ne] at hk3
    rw [eval_operandAt (.inl ⟨t, rfl⟩)]
    have := hsame t hk3
    simp only [operandAt] at hg2 ⊢
    rw [← getD_same this]; exact hg2
  | const v => exact hg2
  | global g => simp at hk3; omega
  | func f => simp at hk3; omega
 have hkh : kindH P L cuts hs k = (match kindOf P o with | 0 => 0 | 1 => if hs.contains k then 1 else 5 | _ => if allocLike o.op || cuts.contains k then 2 else 4) := by unfold kindH; rw [hk]
 by_cases h0 : kindOf P o = 0
 ·have : kindH P L cuts hs k = 0 := by rw [hkh, h0]; rfl
  rw [this]
  obtain ⟨⟨v, rfl⟩, rfl, hv⟩ := kind0 h0 (hsh (by omega)) _ _ _ he
  exact ⟨v, hv⟩
 ·by_cases h1 : kindOf P o = 1
  ·obtain ⟨⟨v, rfl⟩, rfl⟩ := kind1 h1 (hsh (by omega)) _ _ _ he
   by_cases hin : hs.contains k = true
   ·have h11 : kindH P L cuts hs k = 1 := by rw [hkh, h1]; simp only [hin, if_true]
    rw [h11]
    have hSw : Mod F w0 w1 := hS.resolve_right (by rw [h11]; simp)
    refine ⟨hSw, v, fun w' hw' => ?_⟩
    have hin' : k ∈ hs := by simpa using hin
    obtain ⟨t, hop, hnot⟩ := hsok hin'
    have hval := heldAll_mem hh k hin'
    have hsm : b.tmps[t]? = a.tmps[t]? := hsame t (by
     rw [hdrop]
     simp only [List.all_eq_true, bne_iff_ne] at hnot
     exact hnot)
    have hev : a.eval (.tmp t) = operandAt b.tmps (.tmp t) := by
     rw [eval_operandAt (.inl ⟨t, rfl⟩)]; simp only [operandAt]; rw [getD_same hsm]
    have heq : ∀ c, c ∉ F → IsC w0 c → IsC w1 c ∧ w'.heap[c]? = w1.heap[c]? := fun c hc1 hc2 => by
     obtain ⟨x, T, f, hx⟩ := hc2
     refine ⟨⟨x, T, f, hSw.heap hx hc1⟩, ?_⟩
     rw [hSw.heap hx hc1, hw'.heap hx hc1]
    rw [hk] at hval
    obtain ⟨dst, op, type, pos, after, guard⟩ := o
    rcases hop with ⟨T, hop⟩ | ⟨s, d, hop⟩
    ·simp only at hop
     subst hop
     simp only [operandOf] at hval
     rw [← hev] at hval
     have e2 : ∀ w, Sem.run P (execOp a.eval ⟨dst, .load T (.tmp t), type, pos, after, guard⟩) w = Sem.run P (do pure (Next.value (← Instr.loadAt T (a.eval (.tmp t)))) : Sem Next) w := fun w => rfl
     rw [e2] at he ⊢
     obtain ⟨u, hu, hr⟩ := run_v he
     injection hu with hu
     subst hu
     refine v_run ?_
     generalize a.eval (.tmp t) = x at hr hval ⊢
     have stuckNo : ∀ {x : Value}, (∀ a, x ≠ .pointer (some a)) → (Instr.loadAt T x).run P w1 = .ok v w1 → False := fun {x} hx hr => by
      have hn : NoOk P (Instr.loadAt T x) := by
       unfold Instr.loadAt
       refine noOk_left ?_
       unfold Instr.sureAddr
       split
       ·rename_i ad; exact absurd rfl (hx ad)
       ·exact noOk_stuck _
      exact hn _ _ _ hr
     cases x with
     | pointer q => cases q with
       | none => exact (stuckNo (by simp) hr).elim
       | some ad =>
         obtain ⟨hc, hh⟩ := heq _ hval.1 hval.2
         exact loadAt_same hc hh hr
     | _ => exact (stuckNo (by simp) hr).elim
    ·simp only at hop
     subst hop
     simp only [operandOf] at hval
     rw [← hev] at hval
     have h1' := h1
     unfold kindOf at h1
     simp only at h1
     split at h1
     ·cases h1
     split at h1
     case isFalse => cases h1
     rename_i hb2
     simp only [Bool.and_eq_true, decide_eq_true_eq] at hb2
     obtain ⟨e, hs1, he1⟩ := bytesT_of hb2.1
     have hd1 := cls3 hb2.2
     have h5 : cls P s = 5 := by unfold cls; rw [hs1]
     have hx := hsh (by rw [h1']; exact Nat.le_refl 1) (cls P s, .tmp t) (by simp [checks])
     rw [h5] at hx
     have e2 : ∀ w, Sem.run P (execOp a.eval ⟨dst, .convert s d (.tmp t), type, pos, after, guard⟩) w = Sem.run P (do pure (Next.value (← Go.convert s d (a.eval (.tmp t)))) : Sem Next) w := fun w => rfl
     rw [e2] at he ⊢
     obtain ⟨u, hu, hr⟩ := run_v he
     injection hu with hu
     subst hu
     refine v_run ?_
     simp only at hx
     generalize a.eval (.tmp t) = x at hr hval hx ⊢
     cases hx with
     | slice ad n c =>
       rw [run_convert_bytes_string _ s d e _ n c hs1 he1 hd1] at hr ⊢
       cases ad with
       | none =>
         have h' : Result.ok (Value.string .empty) w1 = .ok v w1 := hr
         injection h' with h1 _; subst h1; rfl
       | some ad =>
         refine bytesToString_same ?_ hr
         rcases hval with h | h
         ·exact .inl h
         ·exact .inr (heq _ h.1 h.2)
     | none c l => exact ((blind_convert_tuple hs1 he1 hd1) _ _ _ hr).2 w'
   ·have h15 : kindH P L cuts hs k = 5 := by rw [hkh, h1]; simp only [hin]; rfl
    rw [h15]; exact ⟨v, he⟩
  ·have hge : kindH P L cuts hs k = if allocLike o.op || cuts.contains k then 2 else 4 := by
    rw [hkh]; split <;> first | contradiction | rfl
   rw [hge] at hS ⊢
   split
   ·rename_i hc; rw [if_pos hc] at hS
    exact hS.resolve_right (by simp)
   ·trivial
theorem cuts_ge : ∀ (ns : List Nat) (k : Nat), (∀ n ∈ ns, 0 < n) → ∀ i ∈ cutsOf k ns, k ≤ i
 | [], _, _, i, hi => by cases hi
 | n :: ns, k, h, i, hi => by
   rcases List.mem_cons.1 hi with rfl | hi
   ·have := h n (by simp); omega
   ·have := cuts_ge ns (k + n) (fun m hm => h m (List.mem_cons_of_mem _ hm)) i hi; omega
theorem lex_seg {rest : List Oper} {ns : List Nat} (hsok : ∀ k ∈ hs, ∃ t, (∃ o, L[k]? = some o ∧ ((∃ T, o.op = .load T (.tmp t)) ∨ ∃ s d, o.op = .convert s d (.tmp t))) ∧ (L.drop k).all (fun o' => o'.dst != some t) = true)
  (htail : ∀ i j, i < L.length → j < L.length → i < j → kindH P L cuts hs i = 4 → kindH P L cuts hs j ≠ 1 ∧ kindH P L cuts hs j ≠ 2)
  (S' : Bool)
  (hfin : ∀ seg a w, wpList P L.toArray (if S' then CutPost (Mod F w0) (fun a w => wpCut P L.toArray (Mod F w0) (PostH P L F w0 hs Q) ns rest a w) else PostH P L F w0 hs Q) seg a w →
    ∃ b w', PostH P L F w0 hs Q .normal b w' ∧ ∀ t, (∀ o ∈ seg ++ rest, o.dst ≠ some t) → b.tmps[t]? = a.tmps[t]?)
  (hplain : Plain (if S' then CutPost (Mod F w0) (fun a w => wpCut P L.toArray (Mod F w0) (PostH P L F w0 hs Q) ns rest a w) else PostH P L F w0 hs Q)) :
  ∀ (seg : List Oper) (k : Nat) (a : Act) (w : World), seg ++ rest = L.drop k → kept P (seg ++ rest) = true →
   (∀ i ∈ cuts, k ≤ i → i < k + seg.length → S' = true ∧ i + 1 = k + seg.length) →
   (∀ a w, (if S' then CutPost (Mod F w0) (fun a w => wpCut P L.toArray (Mod F w0) (PostH P L F w0 hs Q) ns rest a w) else PostH P L F w0 hs Q) .normal a w → lexH P (Mod F w0) (kindH P L cuts hs) L.toArray (PostH P L F w0 hs Q) rest (k + seg.length) a w) →
   (Mod F w0 w ∨ ∀ j, k ≤ j → j < L.length → kindH P L cuts hs j ≠ 1 ∧ kindH P L cuts hs j ≠ 2) →
   wpList P L.toArray (if S' then CutPost (Mod F w0) (fun a w => wpCut P L.toArray (Mod F w0) (PostH P L F w0 hs Q) ns rest a w) else PostH P L F w0 hs Q) seg a w →
   lexH P (Mod F w0) (kindH P L cuts hs) L.toArray (PostH P L F w0 hs Q) (seg ++ rest) k a w
 | [], k, a, w, _, _, _, hrest, _, h => by
   rw [List.nil_append]
   have := hrest a w h
   simpa using this
 | o :: seg, k, a, w, hd, hk, hcut, hrest, hS, h => by
   have hk0 : L[k]? = some o := by
    have : (L.drop k)[0]? = some o := by rw [← hd]; rfl
    simpa using this
   have hkl : k < L.length := (List.getElem?_eq_some_iff.1 hk0).1
   have hd' : seg ++ rest = L.drop (k + 1) := by
    have := congrArg List.tail hd
    simpa using this
   have hk' : kept P (seg ++ rest) = true := by
    rw [List.cons_append] at hk
    unfold kept at hk
    simp only [Bool.and_eq_true] at hk
    exact hk.2
   obtain ⟨b, wb, hb, hbs⟩ := hfin (o :: seg) a w h
   have ih : ∀ a w, (Mod F w0 w ∨ ∀ j, k + 1 ≤ j → j < L.length → kindH P L cuts hs j ≠ 1 ∧ kindH P L cuts hs j ≠ 2) → wpList P L.toArray _ seg a w → lexH P (Mod F w0) (kindH P L cuts hs) L.toArray (PostH P L F w0 hs Q) (seg ++ rest) (k + 1) a w := fun a w hS h =>
    lex_seg hsok htail S' hfin hplain seg (k + 1) a w hd' hk' (fun i hi h1 h2 => by have := hcut i hi (by omega) (by simp; omega); simp at this; exact ⟨this.1, by omega⟩) (fun a w hp => by have := hrest a w hp; rw [show k + (o :: seg).length = k + 1 + seg.length by simp; omega] at this; exact this) hS h
   show opH P (Mod F w0) (kindH P L cuts hs) L.toArray (PostH P L F w0 hs Q) k (lexH P (Mod F w0) (kindH P L cuts hs) L.toArray (PostH P L F w0 hs Q) (seg ++ rest) (k + 1)) a w
   unfold opH
   rw [show L.toArray[k]? = some o by simpa using hk0]
   unfold wpList at h
   simp only
   split
   ·rename_i hw
    rw [if_pos hw] at h
    have h := h.resolve_right fun q => hplain.out q.2
    obtain ⟨n, w1, he⟩ := wp_ok hplain h
    have hS1 : Mod F w0 w ∨ (kindH P L cuts hs k ≠ 1 ∧ kindH P L cuts hs k ≠ 2) := hS.imp id fun f => f k (Nat.le_refl _) hkl
    have hg := good_of_end (cuts := cuts) hk0 (fun o' ho' => by
      have : o' ∈ L.drop k := by rw [← hd]; exact ho'
      exact List.mem_of_mem_drop this) hd hk (fun hin => by
      obtain ⟨t, ⟨o2, ho2, hop⟩, hall⟩ := hsok k hin
      rw [hk0] at ho2; cases ho2
      exact ⟨t, hop, hall⟩) hb (fun t ht => hbs t ht) hS1 he
    refine ⟨hg, wp_q hplain ?_⟩
    -- what becomes of S
    have hkh : kindH P L cuts hs k = (match kindOf P o with | 0 => 0 | 1 => if hs.contains k then 1 else 5 | _ => if allocLike o.op || cuts.contains k then 2 else 4) := by unfold kindH; rw [hk0]
    have hval : (kindH P L cuts hs k = 0 ∨ kindH P L cuts hs k = 1 ∨ kindH P L cuts hs k = 5) → ∀ Q1, o.wp P a w (KK (Mod F w0) (kindH P L cuts hs k) (lexH P (Mod F w0) (kindH P L cuts hs) L.toArray (PostH P L F w0 hs Q) (seg ++ rest) (k + 1))) Q1 := fun h015 Q1 => by
     obtain ⟨v, hv⟩ := hg.one h015
     have hK := (wp_value hv).1 h
     exact (wp_value hv).2 ⟨fun e => by omega, ih _ _ (hS.imp id fun f j hj => f j (by omega)) hK⟩
    by_cases h4 : kindH P L cuts hs k = 4
    ·exact Oper.wp_mono (fun a' w' hK => ⟨fun e => by omega, ih _ _ (.inr fun j hj hjl => htail k j hkl hjl (by omega) h4) hK⟩) h
    ·by_cases h2 : kindH P L cuts hs k = 2
     ·have hSw : Mod F w0 w := by rw [h2] at hg; exact hg
      by_cases hal : allocLike o.op = true
      ·obtain ⟨⟨v, rfl⟩, hm⟩ := allocLike_mod hal he
       have hS2 : Mod F w0 w1 := hSw.trans (hm.mono (by simp))
       unfold Oper.wp at h ⊢
       rw [he] at h ⊢
       exact ⟨fun _ => hS2, ih _ _ (.inl hS2) h⟩
      ·-- a cut: the last of its piece
       have hin : k ∈ cuts := by
        rw [hkh] at h2
        split at h2
        ·cases h2
        ·split at h2 <;> cases h2
        ·split at h2
         ·rename_i hc; simpa [hal] using hc
         ·cases h2
       obtain ⟨hS', hlast⟩ := hcut k hin (Nat.le_refl _) (by simp)
       have hseg : seg = [] := List.eq_nil_of_length_eq_zero (by rw [List.length_cons] at hlast; omega)
       subst hseg
       refine Oper.wp_mono (fun a' w' hK => ?_) h
       have hc : CutPost (Mod F w0) (fun a w => wpCut P L.toArray (Mod F w0) (PostH P L F w0 hs Q) ns rest a w) .normal a' w' := by
        subst hS'; exact hK
       exact ⟨fun _ => hc.1, ih _ _ (.inl hc.1) hK⟩
     ·refine hval ?_ _
      rw [hkh] at h4 h2 ⊢
      split at h4
      ·exact .inl rfl
      ·split <;> simp
      ·split at h4 <;> split at h2 <;> simp_all
   ·rename_i hw
    rw [if_neg hw] at h
    exact ih _ _ (hS.imp id fun f j hj => f j (by omega)) h
theorem kept_drop : ∀ (n : Nat) (l : List Oper), kept P l = true → kept P (l.drop n) = true
 | 0, l, h => h
 | n + 1, [], h => h
 | n + 1, o :: l, h => by
   unfold kept at h
   simp only [Bool.and_eq_true] at h
   rw [List.drop_succ_cons]; exact kept_drop n l h.2
theorem lex_of_cut (hsok : ∀ k ∈ hs, ∃ t, (∃ o, L[k]? = some o ∧ ((∃ T, o.op = .load T (.tmp t)) ∨ ∃ s d, o.op = .convert s d (.tmp t))) ∧ (L.drop k).all (fun o' => o'.dst != some t) = true)
  (htail : ∀ i j, i < L.length → j < L.length → i < j → kindH P L cuts hs i = 4 → kindH P L cuts hs j ≠ 1 ∧ kindH P L cuts hs j ≠ 2) :
  ∀ (ns : List Nat) (k : Nat) (a : Act) (w : World), (∀ n ∈ ns, 0 < n) → kept P (L.drop k) = true → (∀ i ∈ cuts, k ≤ i → i ∈ cutsOf k ns) →
   (Mod F w0 w ∨ ∀ j, k ≤ j → j < L.length → kindH P L cuts hs j ≠ 1 ∧ kindH P L cuts hs j ≠ 2) →
   wpCut P L.toArray (Mod F w0) (PostH P L F w0 hs Q) ns (L.drop k) a w → lexH P (Mod F w0) (kindH P L cuts hs) L.toArray (PostH P L F w0 hs Q) (L.drop k) k a w
 | [], k, a, w, _, hk, hc, hS, h => by
   have := lex_seg (cuts := cuts) (rest := []) (ns := []) hsok htail false (fun seg a w h => by
     obtain ⟨b, w', hb, hbs⟩ := list_some (PostH.plain P L F w0 hs Q) _ _ _ h
     exact ⟨b, w', hb, fun t ht => hbs t (fun o ho => ht o (by simpa using ho))⟩) (PostH.plain P L F w0 hs Q) (L.drop k) k a w (by simp) (by simpa using hk) (fun i hi h1 _ => by
     have := hc i hi h1; cases this) (fun a w hp => hp) hS h
   simpa using this
 | n :: ns, k, a, w, hn, hk, hc, hS, h => by
   have hn0 := hn n (by simp)
   have e1 : (L.drop k).take n ++ (L.drop k).drop n = L.drop k := List.take_append_drop _ _
   have e2 : (L.drop k).drop n = L.drop (k + n) := by rw [List.drop_drop]
   have := lex_seg (cuts := cuts) (rest := (L.drop k).drop n) (ns := ns) hsok htail true (fun seg a w h => by
     obtain ⟨b, w1, ⟨_, hb⟩, hbt⟩ := list_some (CutPost.plain _ _) _ _ _ h
     obtain ⟨c, w2, hc, hct⟩ := cut_some (PostH.plain P L F w0 hs Q) ns _ _ _ hb
     exact ⟨c, w2, hc, fun t ht => (hct t fun o ho => ht o (List.mem_append_right _ ho)).trans (hbt t fun o ho => ht o (List.mem_append_left _ ho))⟩) (CutPost.plain _ _) ((L.drop k).take n) k a w e1 (by rw [e1]; exact hk) (fun i hi h1 h2 => by
     refine ⟨rfl, ?_⟩
     have hlen : ((L.drop k).take n).length ≤ n := List.length_take_le _ _
     rcases List.mem_cons.1 (hc i hi h1) with h | h
     ·by_cases hfull : ((L.drop k).take n).length = n
      ·omega
      ·-- the piece is short: nothing stands behind it
       omega
     ·have := cuts_ge ns (k + n) (fun m hm => hn m (List.mem_cons_of_mem _ hm)) i h; omega) (fun a w hp => by
     obtain ⟨hSw, hp⟩ := hp
     by_cases hfull : ((L.drop k).take n).length = n
     ·rw [hfull, e2]
      refine lex_of_cut hsok htail ns (k + n) a w (fun m hm => hn m (List.mem_cons_of_mem _ hm)) (by rw [← e2]; exact kept_drop n _ hk) (fun i hi h1 => ?_) (.inl hSw) (by rw [← e2]; exact hp)
      rcases List.mem_cons.1 (hc i hi (by omega)) with h | h
      ·omega
      ·exact h
     ·have hshort : (L.drop k).length < n := by rw [List.length_take] at hfull; omega
      have hnil : (L.drop k).drop n = [] := List.drop_eq_nil_of_le (by omega)
      have hp' : wpCut P L.toArray (Mod F w0) (PostH P L F w0 hs Q) ns (L.drop (k + n)) a w := by rw [← e2]; exact hp
      have := lex_of_cut hsok htail ns (k + n) a w (fun m hm => hn m (List.mem_cons_of_mem _ hm)) (by rw [← e2]; exact kept_drop n _ hk) (fun i hi h1 => by
       rcases List.mem_cons.1 (hc i hi (by omega)) with h | h
       ·omega
       ·exact h) (.inl hSw) hp'
      rw [← e2, hnil] at this
      rw [hnil]; exact this) hS h
   rw [e1] at this
   exact this
end
theorem held_any {P : Program} {l : List Oper} {Q : Exit → Act → World → Prop} {a : Act} {w : World} (ns hs F : List Nat) (hB : okH P l ns hs = true)
  (h : wpCut P l.toArray (Mod F w.drew) (PostH P l F w.drew hs Q) ns l a w.drew) : wpAny P .any l.toArray Q l.toArray.size (Array.replicate l.toArray.size false) a w.drew := by
 unfold okH at hB
 simp only [Bool.and_eq_true] at hB
 obtain ⟨⟨⟨⟨⟨⟨h1, h2⟩, h3⟩, h4⟩, h5⟩, h6⟩, h7⟩ := hB
 have hback : ∀ (j : Nat) (o : Oper), l.toArray[j]? = some o → ∀ e ∈ o.after, Region.binds .any e = true → e.on < j := by
  intro j o ho e he hb
  have ho' : l[j]? = some o := by simpa using ho
  have hj : j < l.length := (List.getElem?_eq_some_iff.1 ho').1
  have := List.all_eq_true.1 h3 j (List.mem_range.2 hj)
  simp only [ho'] at this
  have := List.all_eq_true.1 this e (Array.mem_toList_iff.2 he)
  simpa [hb] using this
 have hf : FineH (kindH P l (cutsOf 0 ns) hs) l.toArray := by
  refine ⟨?_, hback, ?_⟩
  ·intro j o cs b ho he
   have ho' : l[j]? = some o := by simpa using ho
   have := List.all_eq_true.1 h1 o (List.mem_of_getElem? ho')
   rw [he] at this; cases this
  ·intro i j oi oj hij hi hj hno
   have hi' : l[i]? = some oi := by simpa using hi
   have hj' : l[j]? = some oj := by simpa using hj
   have hjl : j < l.length := (List.getElem?_eq_some_iff.1 hj').1
   have := freeH_spec l 0 h4 i (j - (i + 1)) oi oj hi' (by rw [show i + 1 + (j - (i + 1)) = j by omega]; exact hj')
   rw [show 0 + i + 1 + (j - (i + 1)) = j by omega, show 0 + i = i by omega] at this
   rcases this with h | h
   ·exact absurd (ancRows_anc (ops := l.toArray) l [] (fun j => by simp) hback (fun k i hk => by simp at hk) j i (by simpa using hjl) h) hno
   ·exact ⟨h.1, allowed_of h.2⟩
 have hns : ∀ n ∈ ns, 0 < n := fun n hn => by simpa using List.all_eq_true.1 h6 n hn
 have htail : ∀ i j, i < l.length → j < l.length → i < j → kindH P l (cutsOf 0 ns) hs i = 4 → kindH P l (cutsOf 0 ns) hs j ≠ 1 ∧ kindH P l (cutsOf 0 ns) hs j ≠ 2 := by
  intro i j hi hj hij h4'
  have := List.all_eq_true.1 h5 i (List.mem_range.2 hi)
  simp only [h4', bne_self_eq_false, Bool.false_or] at this
  have := List.all_eq_true.1 this j (List.mem_range.2 hj)
  simp only [Bool.or_eq_true, decide_eq_true_eq, Bool.and_eq_true, bne_iff_ne] at this
  rcases this with h | h
  ·omega
  ·exact h
 have hsok : ∀ k ∈ hs, ∃ t, (∃ o, l[k]? = some o ∧ ((∃ T, o.op = .load T (.tmp t)) ∨ ∃ s d, o.op = .convert s d (.tmp t))) ∧ (l.drop k).all (fun o' => o'.dst != some t) = true := by
  intro k hk
  have := List.all_eq_true.1 h7 k hk
  split at this
  ·rename_i o ho
   split at this
   ·rename_i T t hop; exact ⟨t, ⟨o, ho, .inl ⟨T, hop⟩⟩, this⟩
   ·rename_i s d t hop; exact ⟨t, ⟨o, ho, .inr ⟨s, d, hop⟩⟩, this⟩
   ·cases this
  ·cases this
 refine wpAny_mono (Q := PostH P l F w.drew hs Q) (fun e a w q => by cases e <;> first | exact q.2.2 | exact q.elim) _ _ _ _ ?_
 have hlex := lex_of_cut (cuts := cutsOf 0 ns) hsok htail ns 0 a w.drew hns h2 (fun i hi _ => hi) (.inl (Mod.refl _ _)) h
 have := any_of_lexH (PostH.plain P l F w.drew hs Q) hf l 0 (Array.replicate l.toArray.size false) a w.drew (by simp) (by simp) (fun j hj => by omega) (fun j _ hj => by simp at hj; simp [hj]) hlex
 have := anyH_any _ _ _ _ this
 simpa using this
theorem wp_region_held {P : Program} {id : Nat} {l : List Oper} {Q : Exit → Act → World → Prop} {a : Act} {w : World} (ns hs F : List Nat) (hm : P.follows .mixedOrders = true) (hB : okH P l ns hs = true)
  (h : wpCut P l.toArray (Mod F w.drew) (PostH P l F w.drew hs Q) ns l a w.drew) : (Code.region id l.toArray true).wp P Q a w :=
 wp_region_any hm (held_any ns hs F hB h)
end Go.YtndekdafiaogmaaLex
end
section
namespace Go.YtndekdafiaogmaaLex
open Go
def edge (x : Nat) : Nat → List Oper → List Oper
 | _, [] => []
 | 0, o :: l => { o with after := o.after.push ⟨x, .data⟩ } :: l
 | y + 1, o :: l => o :: edge x y l
def edges : List (Nat × Nat) → List Oper → List Oper
 | [], l => l
 | p :: E, l => edges E (edge p.1 p.2 l)
def pick (l : List Oper) : List Nat → List Oper
 | [] => []
 | k :: L => (l.drop k).take 1 ++ pick l L
def before (x y : Nat) : List Nat → Bool
 | [] => true
 | k :: L => k == x || (k != y && before x y L)
theorem before_or (x y : Nat) : ∀ S, before x y S = true ∨ before y x S = true
 | [] => .inl rfl
 | k :: S => by
   simp only [before, Bool.or_eq_true, beq_iff_eq, Bool.and_eq_true, bne_iff_ne]
   by_cases h : k = x
   ·exact .inl (.inl h)
   ·by_cases h' : k = y
    ·exact .inr (.inl h')
    ·rcases before_or x y S with q | q
     ·exact .inl (.inr ⟨h', q⟩)
     ·exact .inr (.inr ⟨h, q⟩)
structure Edged (E : List (Nat × Nat)) (l l1 : List Oper) : Prop where
 len : l1.length = l.length
 same : ∀ k o1, l1[k]? = some o1 → ∃ o, l[k]? = some o ∧ o1 = { o with after := o1.after } ∧ (∀ e ∈ o.after, e ∈ o1.after) ∧ ∀ e ∈ o1.after, e ∈ o.after ∨ (e.on, k) ∈ E
theorem Edged.refl (l : List Oper) : Edged [] l l := ⟨rfl, fun k o h => ⟨o, h, rfl, fun e h => h, fun e h => .inl h⟩⟩
theorem edged_edge (x : Nat) : ∀ (y : Nat) (l : List Oper), Edged [(x, y)] l (edge x y l)
 | _, [] => by cases ‹Nat› <;> exact ⟨rfl, fun k o h => by simp [edge] at h⟩
 | 0, o :: l => ⟨rfl, fun k o1 h => by
    cases k with
    | zero =>
      obtain rfl : { o with after := o.after.push ⟨x, .data⟩ } = o1 := by simpa [edge] using h
      refine ⟨o, rfl, rfl, fun e h => Array.mem_push.2 (.inl h), fun e h => ?_⟩
      rcases Array.mem_push.1 h with h | rfl
      ·exact .inl h
      ·exact .inr (by simp)
    | succ k => exact ⟨o1, by simpa [edge] using h, rfl, fun e h => h, fun e h => .inl h⟩⟩
 | y + 1, o :: l => by
   have ih := edged_edge x y l
   refine ⟨by simp [edge, ih.len], fun k o1 h => ?_⟩
   cases k with
   | zero =>
     obtain rfl : o = o1 := by simpa [edge] using h
     exact ⟨o, rfl, rfl, fun e h => h, fun e h => .inl h⟩
   | succ k =>
     obtain ⟨o', h1, h2, h3, h4⟩ := ih.same k o1 (by simpa [edge] using h)
     refine ⟨o', by simpa using h1, h2, h3, fun e h => (h4 e h).imp id fun h => ?_⟩
     simp only [List.mem_singleton, Prod.mk.injEq] at h ⊢
     exact ⟨h.1, by omega⟩
theorem Edged.trans {E F : List (Nat × Nat)} {l l1 l2 : List Oper} (h : Edged E l l1) (g : Edged F l1 l2) : Edged (E ++ F) l l2 := by
 refine ⟨by rw [g.len, h.len], fun k o2 hk => ?_⟩
 obtain ⟨o1, h1, h2, h3, h4⟩ := g.same k o2 hk
 obtain ⟨o, g1, g2, g3, g4⟩ := h.same k o1 h1
 refine ⟨o, g1, by rw [h2, g2], fun e he => h3 e (g3 e he), fun e he => ?_⟩
 rcases h4 e he with q | q
 ·rcases g4 e q with q | q
  ·exact .inl q
  ·exact .inr (List.mem_append_left _ q)
 ·exact .inr (List.mem_append_right _ q)
theorem edged_edges : ∀ (E : List (Nat × Nat)) (l : List Oper), Edged E l (edges E l)
 | [], l => Edged.refl l
 | p :: E, l => (edged_edge p.1 p.2 l).trans (edged_edges E _)
section
variable {P : Program} {Q : Exit → Act → World → Prop}
theorem yielded_edged {E : List (Nat × Nat)} {l l1 : List Oper} (h : Edged E l l1) (tmps : Array Value) : yielded l1.toArray tmps = yielded l.toArray tmps := by
 have key : ∀ k : Nat, (l1[k]?).map (·.dst) = (l[k]?).map (·.dst) := fun k => by
  cases h1 : l1[k]? with
  | none =>
    have := List.getElem?_eq_none_iff.1 h1
    rw [h.len] at this
    rw [List.getElem?_eq_none_iff.2 this]
  | some o1 =>
    obtain ⟨o, g1, g2, _⟩ := h.same k o1 h1
    rw [g1, g2]; rfl
 funext k
 have := key k
 unfold yielded
 simp only [List.getElem?_toArray]
 cases h1 : l1[k]? <;> cases h2 : l[k]? <;> rw [h1, h2] at this <;> simp_all
theorem wpOp_edged {E : List (Nat × Nat)} {l l1 : List Oper} (h : Edged E l l1) {k : Nat} {K : Act → World → Prop} {a : Act} {w : World} (hh : wpOp P l1.toArray Q k K a w) : wpOp P l.toArray Q k K a w := by
 unfold wpOp at *
 rw [yielded_edged h] at hh
 simp only [List.getElem?_toArray] at hh ⊢
 cases h1 : l1[k]? with
 | none =>
   have := List.getElem?_eq_none_iff.1 h1
   rw [h.len] at this
   rw [List.getElem?_eq_none_iff.2 this]
   rw [h1] at hh; exact hh
 | some o1 =>
   obtain ⟨o, g1, g2, _⟩ := h.same k o1 h1
   rw [g1]
   rw [h1, g2] at hh
   exact hh
theorem wpOps_of_edged {E : List (Nat × Nat)} {l l1 : List Oper} (h : Edged E l l1) (hne : ∀ p ∈ E, p.1 ≠ p.2) :
  ∀ (fuel t : Nat) (listed : Array Bool) (a : Act) (w : World), listed.size = l.length → wpAny P .any l1.toArray Q fuel listed a w →
   (∀ p ∈ E, listed.getD p.1 false = true ∨ before p.1 p.2 (Region.linearise.go .any l.toArray fuel t listed []) = true) →
   wpOps P l.toArray Q (Region.linearise.go .any l.toArray fuel t listed []) a w := by
 have hsub : ∀ listed k, k ∈ Region.ready .any l1.toArray listed → k ∈ Region.ready .any l.toArray listed := fun listed k hk => by
  obtain ⟨hun, o1, ho1, hall⟩ := mem_ready.1 hk
  obtain ⟨o, g1, g2, g3, g4⟩ := h.same k o1 (by simpa using ho1)
  exact mem_ready.2 ⟨hun, o, by simpa using g1, fun e he hb => hall e (g3 e he) hb⟩
 intro fuel
 induction fuel with
 | zero => intro t listed a w hs hw hb; simpa [Region.linearise.go, wpOps] using hw.2
 | succ fuel ih =>
   intro t listed a w hs hw hb
   obtain ⟨h₀, h₁⟩ := hw
   simp only [Region.linearise.go] at hb ⊢
   change ∀ p ∈ E, listed.getD p.1 false = true ∨ before p.1 p.2 (match (Region.ready .any l.toArray listed)[t % (Region.ready .any l.toArray listed).length]? with
    | some i => Region.linearise.go .any l.toArray fuel (t / (Region.ready .any l.toArray listed).length) (listed.setIfInBounds i true) [i]
    | none => [].reverse) = true at hb
   change wpOps P l.toArray Q (match (Region.ready .any l.toArray listed)[t % (Region.ready .any l.toArray listed).length]? with
    | some i => Region.linearise.go .any l.toArray fuel (t / (Region.ready .any l.toArray listed).length) (listed.setIfInBounds i true) [i]
    | none => [].reverse) a w
   cases hi : (Region.ready .any l.toArray listed)[t % (Region.ready .any l.toArray listed).length]? with
   | none =>
     have hnil : Region.ready .any l.toArray listed = [] := by
      cases hr : Region.ready .any l.toArray listed with
      | nil => rfl
      | cons x xs =>
        rw [hr] at hi
        have hlt : t % (x :: xs).length < (x :: xs).length := Nat.mod_lt _ (by simp)
        simp at hi
        simp at hlt
        omega
     have hnil1 : Region.ready .any l1.toArray listed = [] := List.eq_nil_iff_forall_not_mem.2 fun k hk => by
      have := hsub _ _ hk
      rw [hnil] at this; cases this
     simpa [wpOps] using h₀ hnil1
   | some i =>
     have hr := List.mem_of_getElem? hi
     simp only [hi] at hb
     simp only []
     rw [linearise_go_acc, List.reverse_singleton, List.singleton_append] at hb ⊢
     rw [wpOps_cons]
     obtain ⟨hun, o, ho, hall⟩ := mem_ready.1 hr
     have his : i < l.length := by
      have := (Array.getElem?_eq_some_iff.1 ho).1; simpa using this
     have hr1 : i ∈ Region.ready .any l1.toArray listed := by
      obtain ⟨o1, ho1⟩ : ∃ o1, l1[i]? = some o1 := ⟨_, List.getElem?_eq_getElem (by rw [h.len]; exact his)⟩
      obtain ⟨o', g1, g2, g3, g4⟩ := h.same i o1 ho1
      have : o' = o := by rw [List.getElem?_toArray, g1] at ho; exact Option.some.inj ho
      subst this
      refine mem_ready.2 ⟨hun, o1, by simpa using ho1, fun e he hbd => ?_⟩
      rcases g4 e he with q | q
      ·exact hall e q hbd
      ·rcases hb _ q with q' | q'
       ·exact q'
       ·have hn := hne _ q
        simp only [before, Bool.or_eq_true, beq_iff_eq, Bool.and_eq_true, bne_iff_ne] at q'
        rcases q' with q' | q'
        ·exact absurd q'.symm hn
        ·exact absurd rfl q'.1
     refine wpOp_edged h (wpOp_mono (fun a w h' => ih _ (listed.setIfInBounds i true) a w (by simpa using hs) h' fun p hp => ?_) (h₁ i hr1))
     by_cases hpi : i = p.1
     ·left; rw [← hpi, Array.getD_eq_getD_getElem?]; simp [hs, his]
     ·rw [getD_set_ne false hpi]
      refine (hb p hp).imp id fun q => ?_
      simp only [before, Bool.or_eq_true, beq_iff_eq, Bool.and_eq_true, bne_iff_ne] at q
      exact (q.resolve_left hpi).2
end
/-! The walk in an order of one's own. -/
def idxS (P : Program) (kind : Oper → Nat) (ops : Array Oper) (Q : Exit → Act → World → Prop) : List Nat → Act → World → Prop
 | [], a, w => Q .normal a w
 | k :: rest, a, w => opS P kind ops Q k (idxS P kind ops Q rest) a w
def ancI (l : List Oper) : List Nat → List Nat → List Nat
 | [], rows => rows
 | k :: L, rows => ancI l L (rows.set k (match l[k]? with | some o => ancStep rows o | none => 0))
def runI (P : Program) (l : List Oper) (rows : List Nat) : List Nat → List Nat → Bool
 | _, [] => true
 | seen, k :: rest =>
   (match l[k]? with
    | some o => !rest.contains k && o.after.toList.all (fun e => !Region.binds .any e || seen.contains e.on) &&
       rest.all fun j => (rows.getD j 0).testBit k || match l[j]? with | some o' => commB P l.toArray o o' | none => false
    | none => false) && runI P l rows (k :: seen) rest
def okI (P : Program) (l : List Oper) (L : List Nat) : Bool :=
 l.all (fun o => noSel o.op) && kept P (pick l L) && decide (L.length = l.length) && (List.range l.length).all (fun j => L.contains j) && runI P l (ancI l L (List.replicate l.length 0)) [] L
section
variable {P : Program} {Q : Exit → Act → World → Prop}
theorem ancStep_bit' {ops : Array Oper} {rows : List Nat} {o : Oper} {i j : Nat} (ho : ops[j]? = some o) (hrows : ∀ k, (rows.getD k 0).testBit i = true → Anc ops k i)
  (h : (ancStep rows o).testBit i = true) : Anc ops j i := by
 unfold ancStep at h
 have key : ∀ (es : List Edge) (m : Nat), (∀ e ∈ es, e ∈ o.after) → (es.foldl (fun m e => if Region.binds .any e then m ||| 2 ^ e.on ||| rows.getD e.on 0 else m) m).testBit i = true → m.testBit i = true ∨ Anc ops j i := by
  intro es
  induction es with
  | nil => intro m _ h; exact .inl h
  | cons e es ih =>
    intro m hes h
    rw [List.foldl_cons] at h
    rcases ih _ (fun e he => hes e (List.mem_cons_of_mem _ he)) h with h | h
    ·split at h
     ·rename_i hb
      have he := hes e (by simp)
      simp only [Nat.testBit_or, Bool.or_eq_true] at h
      rcases h with (h | h) | h
      ·exact .inl h
      ·right
       rw [Nat.testBit_two_pow] at h
       exact .one ho he hb (by simpa using h)
      ·right
       exact .more ho he hb (hrows _ h)
     ·exact .inl h
    ·exact .inr h
 rcases key o.after.toList 0 (fun e he => Array.mem_toList_iff.1 he) h with h | h
 ·simp at h
 ·exact h
theorem ancI_anc {l : List Oper} : ∀ (L rows : List Nat), (∀ k i, (rows.getD k 0).testBit i = true → Anc l.toArray k i) → ∀ k i, ((ancI l L rows).getD k 0).testBit i = true → Anc l.toArray k i
 | [], rows, hr, k, i, h => hr k i h
 | m :: L, rows, hr, k, i, h => by
   refine ancI_anc L _ (fun k i h => ?_) k i h
   by_cases hk : m = k
   ·subst hk
    rw [List.getD_eq_getElem?_getD, List.getElem?_set] at h
    split at h
    ·split at h
     ·simp only [Option.getD_some] at h
      split at h
      ·rename_i o ho
       exact ancStep_bit' (ops := l.toArray) (by simpa using ho) (fun k h => hr k i h) h
      ·simp at h
     ·simp at h
    ·rename_i hn; exact absurd rfl hn
   ·rw [List.getD_eq_getElem?_getD, List.getElem?_set_ne hk, ← List.getD_eq_getElem?_getD] at h
    exact hr k i h
theorem any_of_idx {l : List Oper} {rows : List Nat} (hp : Plain Q) (hsel : ∀ (j : Nat) (o : Oper) cs b, l.toArray[j]? = some o → o.op ≠ .select cs b)
  (hanc : ∀ k i, (rows.getD k 0).testBit i = true → Anc l.toArray k i) :
  ∀ (L seen : List Nat) (listed : Array Bool) (a : Act) (w : World), listed.size = l.length → (∀ j ∈ seen, listed.getD j false = true) → (∀ j ∈ L, listed.getD j true = false) → (∀ j, j < l.length → listed.getD j true = false → j ∈ L) →
   Closed l.toArray listed → runI P l rows seen L = true → idxS P (kindOf P) l.toArray Q L a w → anyS P (kindOf P) l.toArray Q L.length listed a w
 | [], seen, listed, a, w, hs, h1, h2, h3, hc, hr, h => by
   refine ⟨?_, h⟩
   refine List.eq_nil_iff_forall_not_mem.2 fun j hj => ?_
   obtain ⟨hun, oj, hoj, _⟩ := mem_ready.1 hj
   have hjs : j < l.length := by have := (Array.getElem?_eq_some_iff.1 hoj).1; simpa using this
   cases h3 j hjs hun
 | k :: L, seen, listed, a, w, hs, h1, h2, h3, hc, hr, h => by
   unfold runI at hr
   rw [Bool.and_eq_true] at hr
   obtain ⟨hr1, hr2⟩ := hr
   cases h0 : l[k]? with
   | none => rw [h0] at hr1; cases hr1
   | some o =>
     rw [h0] at hr1
     simp only [Bool.and_eq_true, Bool.not_eq_true'] at hr1
     obtain ⟨⟨hk, hed⟩, hfr⟩ := hr1
     have hkL : k ∉ L := by simpa using hk
     have h0' : l.toArray[k]? = some o := by simpa using h0
     have hks : k < l.length := (List.getElem?_eq_some_iff.1 h0).1
     have hun := h2 k (by simp)
     have hed' : ∀ e ∈ o.after, Region.binds .any e = true → listed.getD e.on false = true := fun e he hb => by
      have := List.all_eq_true.1 hed e (Array.mem_toList_iff.2 he)
      simp only [hb, Bool.not_true, Bool.false_or, List.contains_iff_mem] at this
      exact h1 _ (by simpa using this)
     have hrd : k ∈ Region.ready .any l.toArray listed := mem_ready.2 ⟨hun, o, h0', hed'⟩
     refine first h0' hp hsel L.length listed a w hc (fun j oj hj hjk hjun hno => ?_) hrd ?_
     ·have hjs : j < l.length := by have := (Array.getElem?_eq_some_iff.1 hj).1; simpa using this
      have hjL : j ∈ L := by
       rcases List.mem_cons.1 (h3 j hjs hjun) with q | q
       ·exact absurd q hjk
       ·exact q
      have := List.all_eq_true.1 hfr j hjL
      have hj' : l[j]? = some oj := by simpa using hj
      simp only [hj', Bool.or_eq_true] at this
      rcases this with q | q
      ·exact absurd (hanc j k q) hno
      ·unfold commB at q
       simp only [Bool.and_eq_true, Bool.or_eq_true, beq_iff_eq, decide_eq_true_eq] at q
       exact ⟨q.1, by rcases q.2 with (h | h) | h <;> simp [h]⟩
     ·refine opS_mono (fun a' w' h' => any_of_idx hp hsel hanc L (k :: seen) (listed.setIfInBounds k true) a' w' (by simpa using hs) ?_ ?_ ?_ (hc.set hrd) hr2 h') h
      ·intro j hj
       by_cases hjk : k = j
       ·subst hjk; rw [Array.getD_eq_getD_getElem?]; simp [hs, hks]
       ·rw [getD_set_ne false hjk]
        rcases List.mem_cons.1 hj with q | q
        ·exact absurd q.symm hjk
        ·exact h1 j q
      ·intro j hj
       have hjk : k ≠ j := fun e => hkL (by rw [e]; exact hj)
       rw [getD_set_ne true hjk]; exact h2 j (List.mem_cons_of_mem _ hj)
      ·intro j hjs hju
       by_cases hjk : k = j
       ·subst hjk
        rw [Array.getD_eq_getD_getElem?] at hju
        simp [hs, hks] at hju
       ·rw [getD_set_ne true hjk] at hju
        rcases List.mem_cons.1 (h3 j hjs hju) with q | q
        ·exact absurd q.symm hjk
        ·exact q
theorem pick_cons (l : List Oper) (k : Nat) (L : List Nat) : pick l (k :: L) = (match l[k]? with | some o => o :: pick l L | none => pick l L) := by
 have : (l.drop k).take 1 = (match l[k]? with | some o => [o] | none => []) := by
  cases h : l[k]? with
  | none => rw [List.drop_eq_nil_of_le (List.getElem?_eq_none_iff.1 h)]; rfl
  | some o =>
    obtain ⟨hk, rfl⟩ := List.getElem?_eq_some_iff.1 h
    rw [List.drop_eq_getElem_cons hk]; rfl
 show (l.drop k).take 1 ++ pick l L = _
 rw [this]
 cases l[k]? <;> rfl
theorem idx_of_list {l : List Oper} : ∀ (L : List Nat) (a : Act) (w : World), kept P (pick l L) = true →
  wpList P l.toArray (Post P l Q) (pick l L) a w → idxS P (kindOf P) l.toArray (Post P l Q) L a w
 | [], _, _, _, h => h
 | k :: L, a, w, hk, h => by
   have hp := Post.plain P l Q
   have hall := h
   show opS P (kindOf P) l.toArray (Post P l Q) k (idxS P (kindOf P) l.toArray (Post P l Q) L) a w
   rw [pick_cons] at h hk
   unfold opS
   cases h0 : l[k]? with
   | none =>
     simp only [h0] at h hk
     simp only [List.getElem?_toArray, h0]
     exact idx_of_list L a w hk h
   | some o =>
     simp only [h0] at h hk
     have hol : o ∈ l := List.mem_of_getElem? h0
     rw [pick_cons, h0] at hall
     unfold wpList at h
     simp only [List.getElem?_toArray, h0]
     unfold kept at hk
     simp only [Bool.and_eq_true] at hk
     have ih : ∀ a w, wpList P l.toArray (Post P l Q) (pick l L) a w → idxS P (kindOf P) l.toArray (Post P l Q) L a w := fun a w h => idx_of_list L a w hk.2 h
     split
     ·rename_i hw
      rw [if_pos hw] at h
      rcases h with h | ⟨_, h⟩
      ·refine ⟨?_, Oper.wp_mono ih h⟩
       obtain ⟨b, w', ⟨hg, _⟩, hb⟩ := list_some hp (o :: pick l L) a w hall
       have hsh : kindOf P o ≤ 1 → ∀ c ∈ checks P o.op, Shaped c.1 (a.eval c.2) := fun hk1 c hc => by
        have hg1 := List.all_eq_true.1 hg o hol
        have hk3 := List.all_eq_true.1 hk.1 c hc
        simp only [Bool.or_eq_true, decide_eq_true_eq] at hg1
        have hg2 := List.all_eq_true.1 (hg1.resolve_left (by omega)) c hc
        refine shaped_of ?_
        obtain ⟨k, x⟩ := c
        cases x with
        | tmp t =>
          simp only [List.all_eq_true, bne_iff_ne] at hk3
          rw [eval_operandAt (.inl ⟨t, rfl⟩)]
          have := hb t hk3
          simp only [operandAt] at hg2 ⊢
          rw [← getD_same this]; exact hg2
        | const v => exact hg2
        | global g => simp at hk3; omega
        | func f => simp at hk3; omega
       obtain ⟨n, w1, he⟩ := wp_ok hp h
       unfold Good
       split
       ·rename_i h0
        obtain ⟨⟨v, rfl⟩, rfl, hv⟩ := kind0 h0 (hsh (by omega)) _ _ _ he
        exact ⟨v, hv⟩
       ·rename_i h1
        obtain ⟨⟨v, rfl⟩, rfl⟩ := kind1 h1 (hsh (by omega)) _ _ _ he
        exact ⟨v, he⟩
       ·trivial
      ·exact (hp.out h).elim
     ·rename_i hw
      rw [if_neg hw] at h
      exact ih _ _ h
theorem any_of_walk {E : List (Nat × Nat)} {l : List Oper} {L : List Nat} {a : Act} {w : World} (hB : okI P (edges E l) L = true)
  (h : wpList P (edges E l).toArray (Post P (edges E l) Q) (pick (edges E l) L) a w) : wpAny P .any (edges E l).toArray Q (edges E l).length (Array.replicate (edges E l).length false) a w := by
 generalize edges E l = l1 at *
 unfold okI at hB
 simp only [Bool.and_eq_true, decide_eq_true_eq] at hB
 obtain ⟨⟨⟨⟨h1, h2⟩, h3⟩, h4⟩, h5⟩ := hB
 have hsel : ∀ (j : Nat) (o : Oper) cs b, l1.toArray[j]? = some o → o.op ≠ .select cs b := fun j o cs b ho he => by
  have := List.all_eq_true.1 h1 o (List.mem_of_getElem? (by simpa using ho))
  rw [he] at this; cases this
 refine wpAny_mono (Q := Post P l1 Q) (fun e a w q => by cases e <;> first | exact q.2 | exact q.elim) _ _ _ _ ?_
 have := any_of_idx (Post.plain P l1 Q) hsel (ancI_anc (l := l1) L (List.replicate l1.length 0) (fun k i hk => by simp [List.getD_eq_getElem?_getD, List.getElem?_replicate] at hk; split at hk <;> simp at hk)) L [] (Array.replicate l1.length false) a w (by simp) (by simp)
  (fun j hj => by
    have hjl : j < l1.length ∨ l1.length ≤ j := by omega
    rcases hjl with q | q
    ·simp [q]
    ·exfalso
     -- each number of the order is one of an operation
     have : ∀ (L seen : List Nat), runI P l1 (ancI l1 L (List.replicate l1.length 0)) seen L = true → True := fun _ _ _ => trivial
     have key : ∀ (rows : List Nat) (M seen : List Nat), runI P l1 rows seen M = true → ∀ j ∈ M, j < l1.length := by
      intro rows M
      induction M with
      | nil => intro seen _ j hj; cases hj
      | cons k M ih =>
        intro seen hr j hj
        unfold runI at hr
        rw [Bool.and_eq_true] at hr
        rcases List.mem_cons.1 hj with rfl | hj
        ·cases h0 : l1[j]? with
         | none => rw [h0] at hr; cases hr.1
         | some o => exact (List.getElem?_eq_some_iff.1 h0).1
        ·exact ih _ hr.2 j hj
     have := key _ _ _ h5 j hj
     omega)
  (fun j hj _ => by
    have := List.all_eq_true.1 h4 j (List.mem_range.2 hj)
    simpa using this)
  (fun j oj hj hlj => by
    have hjs : j < l1.length := by have := (Array.getElem?_eq_some_iff.1 hj).1; simpa using this
    simp [Array.getD_eq_getD_getElem?, hjs] at hlj)
  h5 (idx_of_list L a w h2 h)
 have := anyS_any _ _ _ _ this
 rw [h3] at this
 exact this
theorem wp_region_sched {id : Nat} {l : List Oper} {a : Act} {w : World} (hm : P.follows .mixedOrders = true)
  (h : ∀ S : List Nat, ∃ E : List (Nat × Nat), (∀ p ∈ E, p.1 ≠ p.2) ∧ (∀ p ∈ E, before p.1 p.2 S = true) ∧ wpAny P .any (edges E l).toArray Q (edges E l).length (Array.replicate (edges E l).length false) a w.drew) :
  (Code.region id l.toArray true).wp P Q a w :=
 wp_region_draw fun t => by
  simp only [Region.schedule, hm, Bool.true_or, if_true]
  obtain ⟨E, h1, h2, h3⟩ := h (Region.linearise.go .any l.toArray l.toArray.size t (Array.replicate l.toArray.size false) [])
  rw [(edged_edges E l).len] at h3
  exact wpOps_of_edged (edged_edges E l) h1 l.length t _ a _ (by simp) h3 fun p hp => .inr (h2 p hp)
theorem wp_region_two {id : Nat} {l : List Oper} {a : Act} {w : World} (x y : Nat) (L1 L2 : List Nat) (hm : P.follows .mixedOrders = true) (hxy : (x == y) = false)
  (hB1 : okI P (edges [(x, y)] l) L1 = true) (hB2 : okI P (edges [(y, x)] l) L2 = true)
  (h1 : wpList P (edges [(x, y)] l).toArray (Post P (edges [(x, y)] l) Q) (pick (edges [(x, y)] l) L1) a w.drew)
  (h2 : wpList P (edges [(y, x)] l).toArray (Post P (edges [(y, x)] l) Q) (pick (edges [(y, x)] l) L2) a w.drew) :
  (Code.region id l.toArray true).wp P Q a w := by
 have hne : x ≠ y := by simpa using hxy
 refine wp_region_sched hm fun S => ?_
 rcases before_or x y S with q | q
 ·exact ⟨[(x, y)], by simpa using hne, by simpa using q, any_of_walk hB1 h1⟩
 ·exact ⟨[(y, x)], by simpa using hne.symm, by simpa using q, any_of_walk hB2 h2⟩
end
end Go.YtndekdafiaogmaaLex
end
section
namespace Go.YtndekdafiaogmaaLex
open Go Go.YtndekdafiaogmaaMem
def putAll (V : Nat → Value) : Nat → List Oper → Act → Act
 | _, [], a => a
 | k, o :: l, a => putAll V (k + 1) l (a.put o.dst (V k))
def direct (l : List Oper) (k j : Nat) : Bool := match l[k]? with | some o => o.after.toList.any (fun e => Region.binds .any e && e.on == j) | none => false
def seesB : Nat → List Oper → Nat → Nat → Bool
 | 0, l, k, j => direct l k j
 | f + 1, l, k, j => direct l k j || (List.range k).any fun d => direct l k d && seesB f l d j
inductive Sees (l : List Oper) : Nat → Nat → Prop
 | one {k j : Nat} : direct l k j = true → Sees l k j
 | more {k d j : Nat} : direct l k d = true → Sees l d j → Sees l k j
theorem sees_of {l : List Oper} : ∀ (f k j : Nat), seesB f l k j = true → Sees l k j
 | 0, k, j, h => .one h
 | f + 1, k, j, h => by
   unfold seesB at h
   rcases Bool.or_eq_true _ _ ▸ h with q | q
   ·exact .one q
   ·obtain ⟨d, hd, hq⟩ := List.any_eq_true.1 q
    rw [Bool.and_eq_true] at hq
    exact .more hq.1 (sees_of f d j hq.2)
def makersB (m N : Nat) (l : List Oper) : Bool :=
 decide (m < l.length) && ((l.take m).all fun o => o.guard.isNone && (match o.dst with | some x => decide (x < N) | none => false)) && decide ((l.take m).map (·.dst)).Nodup &&
 ((List.range l.length).all fun j => match l[j]? with | some o => o.after.toList.all (fun e => !Region.binds .any e || decide (e.on < j)) | none => true) &&
 ((List.range m).all fun j => seesB 12 l m j) &&
 ((List.range l.length).all fun k => decide (k ≤ m) || direct l k (k - 1))
structure Makers (m N : Nat) (l : List Oper) : Prop where
 lt : m < l.length
 plain : ∀ (k : Nat) (o : Oper), k < m → l[k]? = some o → o.guard = none ∧ ∃ x, o.dst = some x ∧ x < N
 apart : ∀ (j k : Nat) (p o : Oper), j < m → k < m → j ≠ k → l[j]? = some p → l[k]? = some o → p.dst ≠ o.dst
 back : ∀ (j : Nat) (o : Oper), l[j]? = some o → ∀ e ∈ o.after, Region.binds .any e = true → e.on < j
 sees : ∀ j, j < m → Sees l m j
 chain : ∀ k, m < k → k < l.length → direct l k (k - 1) = true
theorem makers_of {m N : Nat} {l : List Oper} (h : makersB m N l = true) : Makers m N l := by
 unfold makersB at h
 simp only [Bool.and_eq_true, decide_eq_true_eq] at h
 obtain ⟨⟨⟨⟨⟨h1, h2⟩, h3⟩, h4⟩, h5⟩, h6⟩ := h
 refine ⟨h1, fun k o hk ho => ?_, fun j k p o hj hk hne hp ho he => ?_, fun j o ho e he hb => ?_, fun j hj => ?_, fun k hk hl => ?_⟩
 ·have hm : o ∈ l.take m := List.mem_of_getElem? (i := k) (by rw [List.getElem?_take_of_lt hk]; exact ho)
  have := List.all_eq_true.1 h2 o hm
  simp only [Bool.and_eq_true, Option.isNone_iff_eq_none] at this
  refine ⟨this.1, ?_⟩
  cases hd : o.dst with
  | none => rw [hd] at this; simp at this
  | some x => rw [hd] at this; exact ⟨x, rfl, by simpa using this.2⟩
 ·have hlen : ((l.take m).map (·.dst)).length = m := by rw [List.length_map, List.length_take]; omega
  have e1 : ((l.take m).map (·.dst))[j]? = some p.dst := by rw [List.getElem?_map, List.getElem?_take_of_lt hj, hp]; rfl
  have e2 : ((l.take m).map (·.dst))[k]? = some o.dst := by rw [List.getElem?_map, List.getElem?_take_of_lt hk, ho]; rfl
  rw [← he] at e2
  exact hne ((List.getElem?_inj (by omega) h3).1 (e1.trans e2.symm))
 ·have hj : j < l.length := (List.getElem?_eq_some_iff.1 ho).1
  have := List.all_eq_true.1 h4 j (List.mem_range.2 hj)
  simp only [ho] at this
  have := List.all_eq_true.1 this e (Array.mem_toList_iff.2 he)
  simpa [hb] using this
 ·exact sees_of 12 m j (List.all_eq_true.1 h5 j (List.mem_range.2 hj))
 ·have := List.all_eq_true.1 h6 k (List.mem_range.2 hl)
  rcases Bool.or_eq_true _ _ ▸ this with q | q
  ·have := of_decide_eq_true q; omega
  ·exact q
theorem direct_some {l : List Oper} {k j : Nat} (h : direct l k j = true) : ∃ o e, l[k]? = some o ∧ e ∈ o.after ∧ Region.binds .any e = true ∧ e.on = j := by
 unfold direct at h
 cases ho : l[k]? with
 | none => rw [ho] at h; simp at h
 | some o =>
   rw [ho] at h
   obtain ⟨e, he, hb⟩ := List.any_eq_true.1 h
   rw [Bool.and_eq_true, beq_iff_eq] at hb
   exact ⟨o, e, rfl, Array.mem_toList_iff.1 he, hb.1, hb.2⟩
theorem sees_listed {l : List Oper} {listed : Array Bool} (hcl : ∀ (k : Nat) (o : Oper), l[k]? = some o → listed.getD k false = true → ∀ e ∈ o.after, Region.binds .any e = true → listed.getD e.on false = true) {k j : Nat} (h : Sees l k j) :
  (∀ d, direct l k d = true → listed.getD d false = true) → listed.getD j false = true := by
 induction h with
 | one h => exact fun hd => hd _ h
 | more h _ ih =>
   refine fun hd => ih fun d hd' => ?_
   obtain ⟨o', e, ho', he, hb, hon⟩ := direct_some hd'
   rw [← hon]
   exact hcl _ o' ho' (hd _ h) e he hb
section
variable {P : Program} {Q : Exit → Act → World → Prop}
structure Made (R : Nat → Value → List Nat → World → Prop) (l : List Oper) (m : Nat) (a0 : Act) (w0 : World) (V : Nat → Value) (Bs : Nat → List Nat) (listed : Array Bool) (a : Act) (w : World) : Prop where
 dfr : a.defers = a0.defers
 size : a.tmps.size = a0.tmps.size
 grow : Mod [] w0 w
 old : ∀ x, (∀ (k : Nat) (o : Oper), k < m → l[k]? = some o → listed.getD k false = true → o.dst ≠ some x) → a.tmps[x]? = a0.tmps[x]?
 val : ∀ (k : Nat) (o : Oper) x, k < m → l[k]? = some o → listed.getD k false = true → o.dst = some x → a.tmps[x]? = some (V k) ∧ R k (V k) (Bs k) w
 apart : ∀ (j k b : Nat), j < m → k < m → j ≠ k → listed.getD j false = true → listed.getD k false = true → b ∈ Bs j → b ∉ Bs k
 fresh : ∀ (k b : Nat), k < m → listed.getD k false = true → b ∈ Bs k → w0.heap.size ≤ b ∧ b < w.heap.size
 closed : ∀ (k : Nat) (o : Oper), l[k]? = some o → listed.getD k false = true → ∀ e ∈ o.after, Region.binds .any e = true → listed.getD e.on false = true
theorem getD_set {listed : Array Bool} {i k : Nat} (hi : i < listed.size) : (listed.setIfInBounds i true).getD k false = if k = i then true else listed.getD k false := by
 by_cases h : k = i
 ·subst h; simp [Array.getD, hi]
 ·rw [if_neg h]
  simp only [Array.getD_eq_getD_getElem?]
  rw [Array.getElem?_setIfInBounds_ne (fun e => h e.symm)]
theorem getD_true {listed : Array Bool} {j : Nat} (h : listed.getD j true = false) : j < listed.size ∧ listed.getD j false = false := by
 simp only [Array.getD_eq_getD_getElem?] at *
 cases hj : listed[j]? with
 | none => rw [hj] at h; simp at h
 | some b => rw [hj] at h; simp at h; subst h; exact ⟨(Array.getElem?_eq_some_iff.1 hj).1, by simp⟩
theorem any_tail {l : List Oper} {m N : Nat} (hM : Makers m N l) : ∀ (c k : Nat) (listed : Array Bool) (a : Act) (w : World), l.length = k + c → m ≤ k → listed.size = l.length → (∀ j, j < l.length → listed.getD j false = decide (j < k)) →
  wpList P l.toArray Q (l.drop k) a w → wpAny P .any l.toArray Q c listed a w
 | 0, k, listed, a, w, hc, hmk, hs, hl, h => by
   rw [List.drop_eq_nil_of_le (by omega)] at h
   refine ⟨List.eq_nil_iff_forall_not_mem.2 fun j hj => ?_, h⟩
   obtain ⟨hun, _⟩ := mem_ready.1 hj
   obtain ⟨h1, h2⟩ := getD_true hun
   rw [hl j (by omega)] at h2
   simp at h2; omega
 | c + 1, k, listed, a, w, hc, hmk, hs, hl, h => by
   have hk : k < l.length := by omega
   have hready : ∀ j, j ∈ Region.ready .any l.toArray listed → j = k := fun j hj => by
    obtain ⟨hun, o, ho, hall⟩ := mem_ready.1 hj
    obtain ⟨h1, h2⟩ := getD_true hun
    rw [hl j (by omega)] at h2
    have hkj : k ≤ j := by simpa using h2
    rcases Nat.lt_or_ge k j with hlt | hge
    ·obtain ⟨o', e, ho', he, hb, hon⟩ := direct_some (hM.chain j (by omega) (by omega))
     rw [List.getElem?_toArray, ho'] at ho
     obtain rfl : o' = o := by simpa using ho
     have := hall e he hb
     rw [hon, hl _ (by omega)] at this
     simp at this; omega
    ·omega
   refine ⟨fun hnil => ?_, fun i hi => ?_⟩
   ·exfalso
    have : k ∈ Region.ready .any l.toArray listed := by
     refine mem_ready.2 ⟨?_, l[k], by simp [hk], fun e he hb => ?_⟩
     ·have := hl k hk
      simp only [Array.getD_eq_getD_getElem?] at this ⊢
      rw [Array.getElem?_eq_getElem (by omega)] at this ⊢
      simpa using this
     ·have := hM.back k l[k] (by simp [hk]) e he hb
      rw [hl _ (by omega)]; simpa using this
    rw [hnil] at this; cases this
   ·obtain rfl := hready i hi
    rw [List.drop_eq_getElem_cons hk] at h
    have h' : wpOp P l.toArray Q i (wpList P l.toArray Q (l.drop (i + 1))) a w := by
     unfold wpOp; simp only [List.getElem?_toArray, List.getElem?_eq_getElem hk]; exact h
    refine wpOp_mono (fun a' w' h2 => any_tail hM c (i + 1) _ a' w' (by omega) (by omega) (by simp [hs]) (fun j hj => ?_) h2) h'
    rw [getD_set (by omega), hl j hj]
    by_cases hji : j = i
    ·subst hji; simp
    ·rw [if_neg hji]; simp; omega
theorem putAll_get {V : Nat → Value} : ∀ (l : List Oper) (k : Nat) (a : Act) (x : Nat), (∀ (j : Nat) (o : Oper), l[j]? = some o → o.dst ≠ some x) → (putAll V k l a).tmps[x]? = a.tmps[x]?
 | [], _, _, _, _ => rfl
 | o :: l, k, a, x, h => by
   simp only [putAll]
   rw [putAll_get l (k + 1) _ x (fun j p hp => h (j + 1) p (by simpa using hp))]
   have h0 := h 0 o rfl
   cases hd : o.dst with
   | none => rfl
   | some d => rw [hd] at h0; simp [Act.put, Array.getElem?_setIfInBounds_ne (fun e => h0 (by rw [e]) : d ≠ x)]
theorem putAll_size {V : Nat → Value} : ∀ (l : List Oper) (k : Nat) (a : Act), (putAll V k l a).tmps.size = a.tmps.size ∧ (putAll V k l a).defers = a.defers
 | [], _, _ => ⟨rfl, rfl⟩
 | o :: l, k, a => by
   obtain ⟨h1, h2⟩ := putAll_size (V := V) l (k + 1) (a.put o.dst (V k))
   simp only [putAll]
   rw [h1, h2]
   cases o.dst <;> simp [Act.put]
theorem putAll_val {V : Nat → Value} : ∀ (l : List Oper) (k : Nat) (a : Act) (j : Nat) (o : Oper) (x : Nat), l[j]? = some o → o.dst = some x → x < a.tmps.size → (∀ (i : Nat) (p : Oper), i ≠ j → l[i]? = some p → p.dst ≠ some x) →
  (putAll V k l a).tmps[x]? = some (V (k + j))
 | [], _, _, _, _, _, h, _, _, _ => by simp at h
 | o :: l, k, a, 0, o', x, h, hd, hx, hn => by
   obtain rfl : o = o' := by simpa using h
   simp only [putAll]
   rw [putAll_get l (k + 1) _ x (fun j p hp => hn (j + 1) p (by omega) (by simpa using hp)), hd]
   simp [Act.put, hx]
 | o :: l, k, a, j + 1, o', x, h, hd, hx, hn => by
   simp only [putAll]
   have := putAll_val (V := V) l (k + 1) (a.put o.dst (V k)) j o' x (by simpa using h) hd (by cases o.dst <;> simpa [Act.put] using hx) (fun i p hi hp => hn (i + 1) p (by omega) (by simpa using hp))
   rw [this]; congr 2; omega
theorem any_makers {l : List Oper} {m N : Nat} {a0 : Act} {w0 : World} (hM : Makers m N l) (hN : a0.tmps.size = N) (R : Nat → Value → List Nat → World → Prop)
  (hR : ∀ k v bs w w', R k v bs w → Mod [] w w' → R k v bs w')
  (hstep : ∀ (k : Nat) (o : Oper) (a : Act) (w : World), k < m → l[k]? = some o → Mod [] w0 w →
    (∀ x, (∀ (j : Nat) (p : Oper), j < m → l[j]? = some p → p.dst ≠ some x) → a.tmps[x]? = a0.tmps[x]?) →
    (∀ (j : Nat) (p : Oper) x, j < m → l[j]? = some p → p.dst = some x → direct l k j = true → ∃ v bs, a.tmps[x]? = some v ∧ R j v bs w) →
    ∀ K : Act → World → Prop, (∀ v bs w', R k v bs w' → Mod [] w w' → (∀ b ∈ bs, w.heap.size ≤ b ∧ b < w'.heap.size) → K (a.put o.dst v) w') → o.wp P a w K Q)
  (hdone : ∀ (V : Nat → Value) (Bs : Nat → List Nat) (w : World), Mod [] w0 w → (∀ k, k < m → R k (V k) (Bs k) w ∧ ∀ b ∈ Bs k, w0.heap.size ≤ b ∧ b < w.heap.size) → (∀ j k, j < m → k < m → j ≠ k → ∀ b ∈ Bs j, b ∉ Bs k) →
    wpList P l.toArray Q (l.drop m) (putAll V 0 (l.take m) a0) w) :
  ∀ (c : Nat) (U : List Nat) (V : Nat → Value) (Bs : Nat → List Nat) (listed : Array Bool) (a : Act) (w : World), U.length = c → U.Nodup → listed.size = l.length → (∀ k, k < l.length → (listed.getD k false = false ↔ k ∈ U ∨ m ≤ k)) → (∀ k ∈ U, k < m) →
   Made R l m a0 w0 V Bs listed a w → wpAny P .any l.toArray Q (c + (l.length - m)) listed a w := by
 have hml := hM.lt
 intro c
 induction c with
 | zero =>
   intro U V Bs listed a w hc hnd hs hl hU h
   obtain rfl : U = [] := List.eq_nil_of_length_eq_zero hc
   have hall : ∀ k, k < m → listed.getD k false = true := by
    intro k hk
    cases hq : listed.getD k false with
    | true => rfl
    | false =>
      rcases (hl k (by omega)).1 hq with q | q
      ·cases q
      ·omega
   rw [Nat.zero_add]
   refine any_tail hM (l.length - m) m listed a w (by omega) (Nat.le_refl _) hs (fun j hj => ?_) ?_
   ·by_cases hjm : j < m
    ·rw [hall j hjm]; simp [hjm]
    ·rw [(hl j hj).2 (.inr (by omega))]; simp; omega
   ·have hd := hdone V Bs w h.grow (fun k hk => ⟨?_, fun b hb => h.fresh k b hk (hall k hk) hb⟩) (fun j k hj hk hne b hb => h.apart j k b hj hk hne (hall j hj) (hall k hk) hb)
    ·have he : putAll V 0 (l.take m) a0 = a := by
      obtain ⟨s1, s2⟩ := putAll_size (V := V) (l.take m) 0 a0
      have : (putAll V 0 (l.take m) a0).tmps = a.tmps := by
       apply Array.ext_getElem?
       intro x
       by_cases hx : ∃ (k : Nat) (o : Oper), k < m ∧ l[k]? = some o ∧ o.dst = some x
       ·obtain ⟨k, o, hk, ho, hd⟩ := hx
        rw [(h.val k o x hk ho (hall k hk) hd).1]
        obtain ⟨_, x', hx', hxN⟩ := hM.plain k o hk ho
        rw [hd] at hx'
        obtain rfl : x = x' := by simpa using hx'
        rw [putAll_val (l.take m) 0 a0 k o x (by rw [List.getElem?_take_of_lt hk]; exact ho) hd (by rw [hN]; omega) (fun i p hi hp hpx => ?_), Nat.zero_add]
        have him : i < m := by have := (List.getElem?_eq_some_iff.1 hp).1; rw [List.length_take] at this; omega
        rw [List.getElem?_take_of_lt him] at hp
        exact hM.apart i k p o him hk hi hp ho (by rw [hpx, hd])
       ·rw [h.old x (fun k o hk ho _ hd => hx ⟨k, o, hk, ho, hd⟩), putAll_get _ _ _ _ (fun j p hp hpx => ?_)]
        have hjm : j < m := by have := (List.getElem?_eq_some_iff.1 hp).1; rw [List.length_take] at this; omega
        rw [List.getElem?_take_of_lt hjm] at hp
        exact hx ⟨j, p, hjm, hp, hpx⟩
      cases hp : putAll V 0 (l.take m) a0 with
      | mk t d =>
        cases a with
        | mk t' d' =>
          rw [hp] at this s2
          simp only at this s2
          have := h.dfr
          simp only at this
          rename_i q1
          rw [this, ← s2, q1]
     rw [he] at hd; exact hd
    ·obtain ⟨o, ho⟩ : ∃ o, l[k]? = some o := ⟨_, List.getElem?_eq_getElem (by omega)⟩
     obtain ⟨_, x, hx, _⟩ := hM.plain k o hk ho
     exact (h.val k o x hk ho (hall k hk) hx).2
 | succ c ih =>
   intro U V Bs listed a w hc hnd hs hl hU h
   rw [Nat.add_right_comm]
   have hun : ∀ k, k ∈ U → listed.getD k false = false := fun k hk => (hl k (by have := hU k hk; omega)).2 (.inl hk)
   refine ⟨fun hnil => ?_, fun i hi => ?_⟩
   ·-- the least that is not listed is ready
    exfalso
    have hex : ∃ k, k < l.length ∧ listed.getD k false = false := by
     obtain ⟨k, hk⟩ := List.exists_mem_of_length_pos (show 0 < U.length by omega)
     exact ⟨k, by have := hU k hk; omega, hun k hk⟩
    obtain ⟨k, ⟨hk1, hk2⟩, hmin⟩ : ∃ k, (k < l.length ∧ listed.getD k false = false) ∧ ∀ j, j < k → ¬ (j < l.length ∧ listed.getD j false = false) := by
     have : ∀ n, (∃ k, k < n ∧ k < l.length ∧ listed.getD k false = false) → ∃ k, (k < l.length ∧ listed.getD k false = false) ∧ ∀ j, j < k → ¬ (j < l.length ∧ listed.getD j false = false) := by
      intro n
      induction n with
      | zero => rintro ⟨k, hk, _⟩; omega
      | succ n ihn =>
        rintro ⟨k, hk, h1, h2⟩
        by_cases hs : ∃ j, j < n ∧ j < l.length ∧ listed.getD j false = false
        ·exact ihn hs
        ·exact ⟨k, ⟨h1, h2⟩, fun j hj hq => hs ⟨j, by omega, hq⟩⟩
     obtain ⟨k, h1, h2⟩ := hex
     exact this l.length ⟨k, h1, h1, h2⟩
    have : k ∈ Region.ready .any l.toArray listed := by
     refine mem_ready.2 ⟨?_, l[k], by simp [hk1], fun e he hb => ?_⟩
     ·simp only [Array.getD_eq_getD_getElem?] at hk2 ⊢
      rw [Array.getElem?_eq_getElem (by omega)] at hk2 ⊢
      simpa using hk2
     ·have hb' := hM.back k l[k] (by simp [hk1]) e he hb
      cases hq : listed.getD e.on false with
      | true => rfl
      | false => exact absurd ⟨by omega, hq⟩ (hmin e.on hb')
    rw [hnil] at this; cases this
   ·obtain ⟨hunl, o, ho, hall⟩ := mem_ready.1 hi
    obtain ⟨hil, hif⟩ := getD_true hunl
    rw [List.getElem?_toArray] at ho
    have him : i < m := by
     rcases Nat.lt_trichotomy i m with q | q | q
     ·exact q
     ·exfalso
      subst q
      obtain ⟨k, hk⟩ := List.exists_mem_of_length_pos (show 0 < U.length by omega)
      have hkm := hU k hk
      have hd1 : ∀ d, direct l i d = true → listed.getD d false = true := fun d hd => by
       obtain ⟨o', e, ho', he, hb, hon⟩ := direct_some hd
       rw [ho'] at ho
       obtain rfl : o' = o := by simpa using ho
       rw [← hon]; exact hall e he hb
      have hk1 : listed.getD k false = true := sees_listed h.closed (hM.sees k hkm) hd1
      rw [hun k hk] at hk1; cases hk1
     ·exfalso
      obtain ⟨o', e, ho', he, hb, hon⟩ := direct_some (hM.chain i q (by omega))
      rw [ho'] at ho
      obtain rfl : o' = o := by simpa using ho
      have h1 := hall e he hb
      rw [hon] at h1
      have h2 := (hl (i - 1) (by omega)).2 (.inr (by omega))
      rw [h2] at h1; cases h1
    have hiU : i ∈ U := by
     rcases (hl i (by omega)).1 hif with q | q
     ·exact q
     ·omega
    obtain ⟨hg, x, hx, hxN⟩ := hM.plain i o him ho
    have hwant : Region.wanted o (yielded l.toArray a.tmps) = true := by unfold Region.wanted; rw [hg]
    unfold wpOp
    simp only [List.getElem?_toArray, ho, hwant, if_true]
    refine .inl (hstep i o a w him ho h.grow (fun y hy => h.old y (fun k p hk hp _ => hy k p hk hp)) (fun j p y hj hp hpy hd => ?_) _ (fun v bs w' hRv hMv hbs => ?_))
    ·obtain ⟨o', e, ho', he, hb, hon⟩ := direct_some hd
     rw [ho'] at ho
     obtain rfl : o' = o := by simpa using ho
     have hj1 := hall e he hb
     rw [hon] at hj1
     exact ⟨_, _, h.val j p y hj hp hj1 hpy⟩
    ·have hput : ∀ y, y ≠ x → (a.put o.dst v).tmps[y]? = a.tmps[y]? := fun y hy => by rw [hx]; simp [Act.put, Array.getElem?_setIfInBounds_ne (fun e => hy e.symm)]
     have hputx : (a.put o.dst v).tmps[x]? = some v := by rw [hx]; simp [Act.put, h.size, hN, hxN]
     have hset : ∀ k, (listed.setIfInBounds i true).getD k false = if k = i then true else listed.getD k false := fun k => getD_set hil
     have hlist : ∀ k, k ≠ i → (listed.setIfInBounds i true).getD k false = true → listed.getD k false = true := fun k hk hq => by rw [hset, if_neg hk] at hq; exact hq
     refine ih (U.erase i) (fun k => if k = i then v else V k) (fun k => if k = i then bs else Bs k) _ _ w' (by rw [List.length_erase_of_mem hiU]; omega) (hnd.erase i) (by simp [hs]) (fun k hk => ?_) (fun k hk => hU k (List.mem_of_mem_erase hk)) ?_
     ·rw [hset, hnd.mem_erase_iff]
      by_cases hki : k = i
      ·subst hki; simp; omega
      ·rw [if_neg hki, hl k hk]; simp [hki]
     ·refine ⟨by rw [hx]; exact h.dfr, by rw [hx]; simp [Act.put, h.size], h.grow.trans hMv, fun y hy => ?_, fun k p y hk hp hkl hpy => ?_, fun j k b hj hk hne hjl hkl hb => ?_, fun k b hk hkl hb => ?_, fun k p hp hkl e he hb => ?_⟩
      ·have hyx : y ≠ x := fun e => hy i o him ho (by rw [hset, if_pos rfl]) (by rw [hx, e])
       rw [hput y hyx]
       exact h.old y (fun k p hk hp hkl => hy k p hk hp (by rw [hset, hkl]; simp))
      ·by_cases hki : k = i
       ·subst hki
        rw [ho] at hp
        obtain rfl : o = p := by simpa using hp
        rw [hx] at hpy
        obtain rfl : x = y := by simpa using hpy
        simp only [if_pos]
        exact ⟨hputx, hRv⟩
       ·simp only [if_neg hki]
        obtain ⟨h1, h2⟩ := h.val k p y hk hp (hlist k hki hkl) hpy
        have hyx : y ≠ x := fun e => hM.apart k i p o hk him hki hp ho (by rw [hpy, hx, e])
        exact ⟨by rw [hput y hyx]; exact h1, hR _ _ _ _ _ h2 hMv⟩
      ·by_cases hji : j = i
       ·have hki : k ≠ i := fun e => hne (hji.trans e.symm)
        simp only [if_pos hji] at hb
        simp only [if_neg hki]
        intro hb'
        have := hbs b hb
        have := h.fresh k b hk (hlist k hki hkl) hb'
        omega
       ·simp only [if_neg hji] at hb
        by_cases hki : k = i
        ·simp only [if_pos hki]
         intro hb'
         have := hbs b hb'
         have := h.fresh j b hj (hlist j hji hjl) hb
         omega
        ·simp only [if_neg hki]
         exact h.apart j k b hj hk hne (hlist j hji hjl) (hlist k hki hkl) hb
      ·have hsz := h.grow.size
       have hsz2 := hMv.size
       by_cases hki : k = i
       ·simp only [if_pos hki] at hb
        have := hbs b hb
        omega
       ·simp only [if_neg hki] at hb
        have := h.fresh k b hk (hlist k hki hkl) hb
        omega
      ·rw [hset]
       split
       ·rfl
       ·by_cases hki : k = i
        ·subst hki
         rw [ho] at hp
         obtain rfl : o = p := by simpa using hp
         exact hall e he hb
        ·exact h.closed k p hp (hlist k hki hkl) e he hb
theorem wp_region_makers {id : Nat} {l : List Oper} {a0 : Act} {w0 : World} (m N : Nat) (R : Nat → Value → List Nat → World → Prop) (hm : P.follows .mixedOrders = true) (hB : makersB m N l = true) (hN : a0.tmps.size = N)
  (hR : ∀ k v bs w w', R k v bs w → Mod [] w w' → R k v bs w')
  (hstep : ∀ (k : Nat) (o : Oper) (a : Act) (w : World), k < m → l[k]? = some o → Mod [] w0.drew w →
    (∀ x, (∀ (j : Nat) (p : Oper), j < m → l[j]? = some p → p.dst ≠ some x) → a.tmps[x]? = a0.tmps[x]?) →
    (∀ (j : Nat) (p : Oper) x, j < m → l[j]? = some p → p.dst = some x → direct l k j = true → ∃ v bs, a.tmps[x]? = some v ∧ R j v bs w) →
    ∀ K : Act → World → Prop, (∀ v bs w', R k v bs w' → Mod [] w w' → (∀ b ∈ bs, w.heap.size ≤ b ∧ b < w'.heap.size) → K (a.put o.dst v) w') → o.wp P a w K Q)
  (hdone : ∀ (V : Nat → Value) (Bs : Nat → List Nat) (w : World), Mod [] w0.drew w → (∀ k, k < m → R k (V k) (Bs k) w ∧ ∀ b ∈ Bs k, w0.heap.size ≤ b ∧ b < w.heap.size) → (∀ j k, j < m → k < m → j ≠ k → ∀ b ∈ Bs j, b ∉ Bs k) →
    wpList P l.toArray Q (l.drop m) (putAll V 0 (l.take m) a0) w) : (Code.region id l.toArray true).wp P Q a0 w0 := by
 have hM := makers_of hB
 have hml := hM.lt
 have hf : ∀ k, (Array.replicate l.toArray.size false).getD k false = false := fun k => by
  simp only [Array.getD_eq_getD_getElem?, Array.getElem?_replicate]; split <;> rfl
 refine wp_region_any hm ?_
 have := any_makers (P := P) (Q := Q) (w0 := w0.drew) hM hN R hR hstep hdone m (List.range m) (fun _ => undef) (fun _ => []) (Array.replicate l.toArray.size false) a0 w0.drew (by simp) List.nodup_range (by simp)
  (fun k hk => by rw [hf]; simp; omega) (fun k hk => List.mem_range.1 hk)
  ⟨rfl, rfl, Mod.refl _ _, fun _ _ => rfl, fun k o x _ _ h => absurd h (by rw [hf]; simp), fun j k b _ _ _ h => absurd h (by rw [hf]; simp), fun k b _ h => absurd h (by rw [hf]; simp), fun k o _ h => absurd h (by rw [hf]; simp)⟩
 rw [show m + (l.length - m) = l.toArray.size by simp; omega] at this
 exact this
def keptB (m : Nat) (l : List Oper) (x : Nat) : Bool := (l.take m).all fun o => o.dst != some x
def depB (m : Nat) (l : List Oper) (k j x : Nat) : Bool := decide (j < m) && direct l k j && (match l[j]? with | some p => p.dst == some x | none => false)
theorem wp_region_makers' {id : Nat} {l : List Oper} {a0 : Act} {w0 : World} (m N : Nat) (R : Nat → Value → List Nat → World → Prop) (hm : P.follows .mixedOrders = true) (hB : makersB m N l = true) (hN : a0.tmps.size = N)
  (hR : ∀ k v bs w w', R k v bs w → Mod [] w w' → R k v bs w')
  (hstep : ∀ (k : Nat) (o : Oper) (a : Act) (w : World), k < m → l[k]? = some o → Mod [] w0.drew w →
    (∀ x, keptB m l x = true → a.tmps[x]? = a0.tmps[x]?) → (∀ j x, depB m l k j x = true → ∃ v bs, a.tmps[x]? = some v ∧ R j v bs w) →
    ∀ K : Act → World → Prop, (∀ v bs w', R k v bs w' → Mod [] w w' → (∀ b ∈ bs, w.heap.size ≤ b ∧ b < w'.heap.size) → K (a.put o.dst v) w') → o.wp P a w K Q)
  (hdone : ∀ (V : Nat → Value) (Bs : Nat → List Nat) (w : World), Mod [] w0.drew w → (∀ k, k < m → R k (V k) (Bs k) w ∧ ∀ b ∈ Bs k, w0.heap.size ≤ b ∧ b < w.heap.size) → (∀ j k, j < m → k < m → j ≠ k → ∀ b ∈ Bs j, b ∉ Bs k) →
    wpList P l.toArray Q (l.drop m) (putAll V 0 (l.take m) a0) w) : (Code.region id l.toArray true).wp P Q a0 w0 := by
 have hml := (makers_of hB).lt
 refine wp_region_makers m N R hm hB hN hR (fun k o a w hk ho hM h1 h2 K hK => hstep k o a w hk ho hM (fun x hx => h1 x fun j p hj hp hd => ?_) (fun j x hd => ?_) K hK) hdone
 ·have := List.all_eq_true.1 hx p (List.mem_of_getElem? (i := j) (by rw [List.getElem?_take_of_lt hj]; exact hp))
  rw [hd] at this
  simp at this
 ·unfold depB at hd
  simp only [Bool.and_eq_true, decide_eq_true_eq] at hd
  obtain ⟨⟨q1, q2⟩, q3⟩ := hd
  cases hp : l[j]? with
  | none => rw [hp] at q3; cases q3
  | some p =>
    rw [hp] at q3
    exact h2 j p x q1 hp (by simpa using q3) q2
theorem value_step {o : Oper} {a : Act} {w w' : World} {v : Value} {K : Act → World → Prop} (h : (execOp a.eval o).run P w = .ok (.value v) w') (hK : K (a.put o.dst v) w') : o.wp P a w K Q := by
 unfold Oper.wp; rw [h]; exact hK
theorem call_step {o : Oper} {a : Act} {w : World} {f : FuncId} {args : Array Value} {R : Ending → World → Prop} {K : Act → World → Prop} (h : (execOp a.eval o).run P w = .ok (.enter f args) w) (hc : Calls P f args w R) (hK : ∀ e w', R e w' → ∃ v, e = .returned v ∧ K (a.put o.dst v) w') : o.wp P a w K Q := by
 unfold Oper.wp; rw [h]
 refine Calls.mono hc fun e w' hr => ?_
 obtain ⟨v, rfl, hk⟩ := hK e w' hr
 exact hk
end
end Go.YtndekdafiaogmaaLex
end
section
namespace Go.YtndekdafiaogmaaRange
open Go Go.RowKit Go.YtndekdafiaogmaaMem
structure Over (B : Nat) (w w' : World) : Prop where
 os : w'.os = w.os
 tape : w'.tape = w.tape
 output : w'.output = w.output
 size : w.heap.size ≤ w'.heap.size
 block : ∀ k, B ≤ k → k < w.heap.size → w'.heap[k]? = w.heap[k]?
structure Under (B : Nat) (S : List Nat) (w w' : World) : Prop where
 os : w'.os = w.os
 tape : w'.tape = w.tape
 output : w'.output = w.output
 size : w.heap.size ≤ w'.heap.size
 block : ∀ k, k < B → k ∉ S → w'.heap[k]? = w.heap[k]?
theorem Over.of_mod {B : Nat} {S : List Nat} {w w' : World} (h : Mod S w w') (hs : ∀ x, x ∈ S → x < B) : Over B w w' :=
 ⟨h.os, h.tape, h.output, h.size, fun k h1 h2 => h.block k h2 (fun hm => by have := hs k hm; omega)⟩
theorem Over.refl (B : Nat) (w : World) : Over B w w := ⟨rfl, rfl, rfl, Nat.le_refl _, fun _ _ _ => rfl⟩
theorem Over.trans {B : Nat} {a b c : World} (h : Over B a b) (k : Over B b c) : Over B a c :=
 ⟨k.os.trans h.os, k.tape.trans h.tape, k.output.trans h.output, Nat.le_trans h.size k.size, fun i h1 h2 => (k.block i h1 (Nat.lt_of_lt_of_le h2 h.size)).trans (h.block i h1 h2)⟩
theorem Under.refl (B : Nat) (S : List Nat) (w : World) : Under B S w w := ⟨rfl, rfl, rfl, Nat.le_refl _, fun _ _ _ => rfl⟩
theorem Under.trans {B : Nat} {S : List Nat} {a b c : World} (h : Under B S a b) (k : Under B S b c) : Under B S a c :=
 ⟨k.os.trans h.os, k.tape.trans h.tape, k.output.trans h.output, Nat.le_trans h.size k.size, fun i h1 h2 => (k.block i h1 h2).trans (h.block i h1 h2)⟩
theorem Under.mono {B : Nat} {S S' : List Nat} {w w' : World} (h : Under B S w w') (hs : ∀ x, x ∈ S → x ∈ S') : Under B S' w w' := ⟨h.os, h.tape, h.output, h.size, fun k h1 h2 => h.block k h1 (fun hm => h2 (hs k hm))⟩
theorem Under.of_mod {B : Nat} {S : List Nat} {w w' : World} (h : Mod S w w') (hB : B ≤ w.heap.size) : Under B S w w' :=
 ⟨h.os, h.tape, h.output, h.size, fun k h1 h2 => h.block k (Nat.lt_of_lt_of_le h1 hB) h2⟩
theorem Under.mod {S : List Nat} {w w' : World} (h : Under w.heap.size S w w') : Mod S w w' := ⟨h.os, h.tape, h.output, h.size, fun k h1 h2 => h.block k h1 h2⟩
theorem mod_putObj (w : World) (l : Nat) (o : Obj) : Mod [l] w (w.putObj l o) := ⟨rfl, rfl, rfl, by simp, fun k _ hn => World.putObj_heap_other (by simpa using hn)⟩
theorem under_putObj (w : World) {B l : Nat} (hl : B ≤ l) (o : Obj) : Under B [] w (w.putObj l o) := ⟨rfl, rfl, rfl, by simp, fun k hk _ => World.putObj_heap_other (by omega)⟩
def Iter {α : Type} (P : Program) (gf : Nat) (fi lb : Array Value) (encs : α → Array Value) (xs : List α) (Kp : World → World → Prop) (w : World) : Prop :=
 ∀ (l : Nat) (J Jx : List α → World → Prop) (W : World), Kp w W → (∀ pre A B, J pre A → Mod [] A B → J pre B) → (∀ pre A B, Jx pre A → Mod [] A B → Jx pre B) →
  (∀ pre x W1, J pre W1 → (∃ post, xs = pre ++ x :: post) → YieldAt Fence.wide 2 P l (encs x) W1 fun e W' => (e = .returned (.bool true) ∧ J (pre ++ [x]) W' ∧ Kp W1 W') ∨ (e = .returned (.bool false) ∧ Jx (pre ++ [x]) W')) →
  J [] W → CallsIn Fence.wide 3 P gf (fi ++ #[.func (.yield l) #[] #[]] ++ lb) W fun e W' => (∃ v, e = .returned v) ∧ (J xs W' ∨ ∃ pre x post, xs = pre ++ x :: post ∧ Jx (pre ++ [x]) W')
def roundEnd {α : Type} (B : Nat) (Kp : World → World → Prop) (I : List α → World → Prop) (Ix : Code → List α → World → Prop) (xs : List α) (W : World) : Exit → Act → World → Prop
 | .normal, _, W' => Over B W W' ∧ Kp W W' ∧ I xs W'
 | .ret, _, W' => Over B W W' ∧ Ix .ret xs W'
 | .exit id, _, W' => Over B W W' ∧ Ix (.exit id) xs W'
 | .goto t, _, W' => Over B W W' ∧ Ix (.goto t) xs W'
 | .panic _, _, _ => False
 | .outgrown, _, _ => False
structure Two (B : Nat) (w w' : World) : Prop where
 os : w'.os = w.os
 tape : w'.tape = w.tape
 output : w'.output = w.output
 size : w.heap.size ≤ w'.heap.size
 block : ∀ k, k = B ∨ k = B + 1 → k < w.heap.size → w'.heap[k]? = w.heap[k]?
theorem Over.two {B : Nat} {w w' : World} (h : Over B w w') : Two B w w' := ⟨h.os, h.tape, h.output, h.size, fun k hk => h.block k (by omega)⟩
theorem Two.of_mod {B : Nat} {S : List Nat} {w w' : World} (h : Mod S w w') (hs : ∀ x, x ∈ S → x ≠ B ∧ x ≠ B + 1) : Two B w w' :=
 ⟨h.os, h.tape, h.output, h.size, fun k h1 h2 => h.block k h2 (fun hm => by have := hs k hm; omega)⟩
def roundEnd2 {α : Type} (B : Nat) (Kp : World → World → Prop) (I : List α → World → Prop) (Ix : Code → List α → World → Prop) (xs : List α) (W : World) : Exit → Act → World → Prop
 | .normal, _, W' => Two B W W' ∧ Kp W W' ∧ I xs W'
 | .ret, _, W' => Two B W W' ∧ Ix .ret xs W'
 | .exit id, _, W' => Two B W W' ∧ Ix (.exit id) xs W'
 | .goto t, _, W' => Two B W W' ∧ Ix (.goto t) xs W'
 | .panic _, _, _ => False
 | .outgrown, _, _ => False
theorem roundEnd.two {α : Type} {B : Nat} {Kp : World → World → Prop} {I : List α → World → Prop} {Ix : Code → List α → World → Prop} {xs : List α} {W : World} {e : Exit} {a : Act} {W' : World} (h : roundEnd B Kp I Ix xs W e a W') : roundEnd2 B Kp I Ix xs W e a W' := by
 cases e with
 | normal => exact ⟨h.1.two, h.2⟩
 | ret => exact ⟨h.1.two, h.2⟩
 | exit id => exact ⟨h.1.two, h.2⟩
 | goto t => exact ⟨h.1.two, h.2⟩
 | panic _ => exact h.elim
 | outgrown => exact h.elim
theorem wp_range2 {α : Type} {P : Program} {g : Operand} {ps : Array Tmp} {assign body : Code} {Q : Exit → Act → World → Prop} {a : Act} {w : World} {gf : Nat} {fi lb : Array Value} {encs : α → Array Value} {xs : List α} {Kp : World → World → Prop}
  (hg : a.eval g = .func (.func gf) fi lb) (eg : ∀ args w, (callFunc gf args).run P w = .ok (.enter gf args) w) (hit : Iter P gf fi lb encs xs Kp w)
  (hKt : ∀ {A B C : World}, Kp A B → Kp B C → Kp A C) (hKn : ∀ {A B : World}, Under w.heap.size [] A B → Kp A B) (hps : ∀ x, (encs x).size = ps.size)
  (I : List α → World → Prop) (Ix : Code → List α → World → Prop) (hI : ∀ pre A B, I pre A → Under w.heap.size [] A B → Mod [w.heap.size, w.heap.size + 1] A B → I pre B) (hIx : ∀ c pre A B, Ix c pre A → Under w.heap.size [] A B → Mod [w.heap.size, w.heap.size + 1] A B → Ix c pre B) (h0 : I [] w)
  (hround : ∀ (l : Nat) (pre : List α) (x : α) (W : World), l = w.heap.size + 1 → l < W.heap.size → I pre W → (∃ post, xs = pre ++ x :: post) →
    assign.wpIn (Fence.wide.inRound l) 2 P (Exit.then (fun a1 W1 => Two w.heap.size W W1 ∧ Kp W W1 ∧ ∀ o, body.wpIn (Fence.wide.inRound l) 2 P (roundEnd2 w.heap.size Kp I Ix (pre ++ [x]) (W1.putObj l o)) a1 (W1.putObj l o)) (fun _ _ _ => False))
     { tmps := (ps.zip (encs x)).foldl (fun t (p, v) => t.setIfInBounds p v) a.tmps, defers := [] } W)
  (hdone : ∀ (D : Nat) (W : World), w.heap.size ≤ D → I xs W → W.heap[D]? = some (.deferred (some [])) → Q .normal { a with defers := { target := .collected D, args := #[] } :: a.defers } W)
  (hstop : ∀ (D : Nat) (c : Code) (pre : List α) (x : α) (post : List α) (W : World), w.heap.size ≤ D → xs = pre ++ x :: post → Ix c (pre ++ [x]) W → W.heap[D]? = some (.deferred (some [])) → c.wp P Q { a with defers := { target := .collected D, args := #[] } :: a.defers } W) :
  (Code.rangeFunc g ps assign body).wp P Q a w := by
 rw [← wpIn_wide (n := 4)]
 refine wpIn_rangeFunc ?_
 intro fn hfn
 obtain ⟨rec, hrec⟩ : ∃ rec : LoopState → Option Code → Loop, rec = fun st pe => { state := st, pending := pe, fn, tmps := a.tmps, params := ps, assign, body, defers := w.heap.size } := ⟨_, rfl⟩
 obtain ⟨W1, hW1⟩ : ∃ W1, (w.alloc (.deferred (some []))).alloc (.loop (rec .ready none)) = W1 := ⟨_, rfl⟩
 have hL1 : W1.heap[w.heap.size + 1]? = some (.loop (rec .ready none)) := by
  rw [← hW1]; have := World.alloc_heap_new (w.alloc (.deferred (some []))) (.loop (rec .ready none)); rwa [World.size_alloc] at this
 have hK1 : W1.heap[w.heap.size]? = some (.deferred (some [])) := by
  rw [← hW1]; exact (Below.heap_alloc _ _ _ (by simp)).trans (World.alloc_heap_new w _)
 have hM1 : Mod [] w W1 := by rw [← hW1]; exact ((Mod.refl [] w).alloc _).alloc _
 have hU1 : Under w.heap.size [] w W1 := .of_mod hM1 (Nat.le_refl _)
 refine ⟨w.heap.size + 1, [{ target := .collected w.heap.size, args := #[] }], W1, { target := .fn (.func gf) lb, args := fi ++ #[.func (.yield (w.heap.size + 1)) #[] #[]] }, W1, gf, fi ++ #[.func (.yield (w.heap.size + 1)) #[] #[]] ++ lb, W1, ?_, ?_, ?_, ?_, fun _ => by omega, ?_⟩
 ·rw [← hW1, hrec]; exact run_enterLoop_outer _ _ _ _ _
 ·simp only [resolve, hg]
  simp [go_sem]
 ·intro f' _; exact trivial
 ·simp [invoke, go_sem, eg]
 ·-- the record's and the block's lot, beside the loop's own word
  have hold : ∀ {A B : World} {k : Nat} {o : Obj}, A.heap[k]? = some o → Mod [] A B → B.heap[k]? = some o := fun h hm => hm.heap h (by simp)
  have hsize : ∀ {A : World} {o : Obj}, A.heap[w.heap.size + 1]? = some o → w.heap.size + 1 < A.heap.size := fun h => (Array.getElem?_eq_some_iff.1 h).1
  refine (hit (w.heap.size + 1)
   (fun pre W => I pre W ∧ W.heap[w.heap.size + 1]? = some (.loop (rec .ready none)) ∧ W.heap[w.heap.size]? = some (.deferred (some [])))
   (fun pre W => ∃ c, Ix c pre W ∧ W.heap[w.heap.size + 1]? = some (.loop (rec .done (some c))) ∧ W.heap[w.heap.size]? = some (.deferred (some [])))
   W1 (hKn hU1)
   (fun pre A B h hm => ⟨hI pre A B h.1 (.of_mod hm (by have := hsize h.2.1; omega)) (hm.mono (by simp)), hold h.2.1 hm, hold h.2.2 hm⟩)
   (fun pre A B h hm => by obtain ⟨c, h1, h2, h3⟩ := h; exact ⟨c, hIx c pre A B h1 (.of_mod hm (by have := hsize h2; omega)) (hm.mono (by simp)), hold h2 hm, hold h3 hm⟩)
   ?_ ⟨hI _ _ _ h0 hU1 (hM1.mono (by simp)), hL1, hK1⟩).mono ?_
  ·rintro pre x W ⟨hi, hl, hk⟩ hpost
   have hy := run_yield (P := P) (args := encs x) hl (by rw [hrec]; exact hps x)
   rw [hrec] at hy
   refine ⟨fn, _, assign, body, hy, roundIn_of_wpIn hfn (wpIn_mono (hround (w.heap.size + 1) pre x W rfl (hsize hl) hi hpost) ?_)⟩
   rintro e a1 Wa hp
   cases e with
   | normal =>
     obtain ⟨ho, hka, hb⟩ := hp
     have hla : Wa.heap[w.heap.size + 1]? = some (.loop (rec .ready none)) := (ho.block _ (.inr rfl) (hsize hl)).trans hl
     have hda : Wa.heap[w.heap.size]? = some (.deferred (some [])) := (ho.block _ (.inl rfl) (by have := hsize hl; omega)).trans hk
     refine ⟨_, run_beginRound hla (by rw [hrec]), wpIn_mono (hb _) ?_⟩
     have hl2 : (Wa.putObj (w.heap.size + 1) (.loop { rec .ready none with state := .busy })).heap[w.heap.size + 1]? = some (.loop { rec .ready none with state := .busy }) := World.putObj_heap_same (hsize hla)
     have hd2 : (Wa.putObj (w.heap.size + 1) (.loop { rec .ready none with state := .busy })).heap[w.heap.size]? = some (.deferred (some [])) := (World.putObj_heap_other (by omega)).trans hda
     have hu2 : Under w.heap.size [] Wa (Wa.putObj (w.heap.size + 1) (.loop { rec .ready none with state := .busy })) := under_putObj _ (by omega) _
     generalize Wa.putObj (w.heap.size + 1) (.loop { rec .ready none with state := .busy }) = Wb at *
     have last : ∀ (jump : Option Code) (W3 : World), Two w.heap.size Wb W3 →
       (Instr.endRound (w.heap.size + 1) jump).run P W3 = .ok (.bool jump.isNone) (W3.putObj (w.heap.size + 1) (.loop (rec (if jump.isNone then .ready else .done) jump))) ∧
       (W3.putObj (w.heap.size + 1) (.loop (rec (if jump.isNone then .ready else .done) jump))).heap[w.heap.size + 1]? = some (.loop (rec (if jump.isNone then .ready else .done) jump)) ∧
       (W3.putObj (w.heap.size + 1) (.loop (rec (if jump.isNone then .ready else .done) jump))).heap[w.heap.size]? = some (.deferred (some [])) := fun jump W3 hov => by
      have hl3 := (hov.block _ (.inr rfl) (hsize hl2)).trans hl2
      have hd3 := (hov.block _ (.inl rfl) (by have := hsize hl2; omega)).trans hd2
      have hr := run_endRound (P := P) jump hl3
      rw [hrec] at hr ⊢
      exact ⟨hr, World.putObj_heap_same (hsize hl3), (World.putObj_heap_other (by omega)).trans hd3⟩
     have hup : ∀ (o : Obj) (W3 : World), Under w.heap.size [] W3 (W3.putObj (w.heap.size + 1) o) := fun o W3 => under_putObj _ (by omega) _
     have hmp : ∀ (o : Obj) (W3 : World), Mod [w.heap.size, w.heap.size + 1] W3 (W3.putObj (w.heap.size + 1) o) := fun o W3 => (mod_putObj W3 _ o).mono (by simp)
     rintro e a3 W3 hp
     cases e with
     | normal =>
       obtain ⟨hov, hkp, hi3⟩ := hp
       obtain ⟨hr, hl4, hk4⟩ := last none W3 hov
       exact ⟨_, _, hr, .inl ⟨rfl, ⟨hI _ _ _ hi3 (hup _ _) (hmp _ _), hl4, hk4⟩, hKt hka (hKt (hKn hu2) (hKt hkp (hKn (hup _ _))))⟩⟩
     | ret =>
       obtain ⟨hov, hi3⟩ := hp
       obtain ⟨hr, hl4, hk4⟩ := last (some .ret) W3 hov
       exact ⟨_, _, hr, .inr ⟨rfl, .ret, hIx _ _ _ _ hi3 (hup _ _) (hmp _ _), hl4, hk4⟩⟩
     | exit id =>
       obtain ⟨hov, hi3⟩ := hp
       obtain ⟨hr, hl4, hk4⟩ := last (some (.exit id)) W3 hov
       exact ⟨_, _, hr, .inr ⟨rfl, .exit id, hIx _ _ _ _ hi3 (hup _ _) (hmp _ _), hl4, hk4⟩⟩
     | goto t =>
       obtain ⟨hov, hi3⟩ := hp
       obtain ⟨hr, hl4, hk4⟩ := last (some (.goto t)) W3 hov
       exact ⟨_, _, hr, .inr ⟨rfl, .goto t, hIx _ _ _ _ hi3 (hup _ _) (hmp _ _), hl4, hk4⟩⟩
     | panic ch => exact hp.elim
     | outgrown => exact hp.elim
   | ret => exact hp.elim
   | exit id => exact hp.elim
   | goto t => exact hp.elim
   | panic ch => exact hp.elim
   | outgrown => exact hp.elim
  ·have hup : ∀ (o : Obj) (W3 : World), Under w.heap.size [] W3 (W3.putObj (w.heap.size + 1) o) := fun o W3 => under_putObj _ (by omega) _
   have hmp : ∀ (o : Obj) (W3 : World), Mod [w.heap.size, w.heap.size + 1] W3 (W3.putObj (w.heap.size + 1) o) := fun o W3 => (mod_putObj W3 _ o).mono (by simp)
   rintro e W2 ⟨⟨v, rfl⟩, (⟨hi, hl, hk⟩ | ⟨pre, x, post, hx, c, hi, hl, hk⟩)⟩
   ·exact ⟨none, _, by have := run_endLoop (P := P) hl (by rw [hrec]; simp); rw [hrec] at this; exact this, hdone _ _ (Nat.le_refl _) (hI _ _ _ hi (hup _ _) (hmp _ _)) ((World.putObj_heap_other (by omega)).trans hk)⟩
   ·exact ⟨some c, _, by have := run_endLoop (P := P) hl (by rw [hrec]; simp); rw [hrec] at this; exact this, wpIn_wide.2 (hstop _ c pre x post _ (Nat.le_refl _) hx (hIx _ _ _ _ hi (hup _ _) (hmp _ _)) ((World.putObj_heap_other (by omega)).trans hk))⟩
theorem wp_range {α : Type} {P : Program} {g : Operand} {ps : Array Tmp} {assign body : Code} {Q : Exit → Act → World → Prop} {a : Act} {w : World} {gf : Nat} {fi lb : Array Value} {encs : α → Array Value} {xs : List α} {Kp : World → World → Prop}
  (hg : a.eval g = .func (.func gf) fi lb) (eg : ∀ args w, (callFunc gf args).run P w = .ok (.enter gf args) w) (hit : Iter P gf fi lb encs xs Kp w)
  (hKt : ∀ {A B C : World}, Kp A B → Kp B C → Kp A C) (hKn : ∀ {A B : World}, Under w.heap.size [] A B → Kp A B) (hps : ∀ x, (encs x).size = ps.size)
  (I : List α → World → Prop) (Ix : Code → List α → World → Prop) (hI : ∀ pre A B, I pre A → Under w.heap.size [] A B → I pre B) (hIx : ∀ c pre A B, Ix c pre A → Under w.heap.size [] A B → Ix c pre B) (h0 : I [] w)
  (hround : ∀ (l : Nat) (pre : List α) (x : α) (W : World), w.heap.size < l → l < W.heap.size → I pre W → (∃ post, xs = pre ++ x :: post) →
    assign.wpIn (Fence.wide.inRound l) 2 P (Exit.then (fun a1 W1 => Over w.heap.size W W1 ∧ Kp W W1 ∧ ∀ o, body.wpIn (Fence.wide.inRound l) 2 P (roundEnd w.heap.size Kp I Ix (pre ++ [x]) (W1.putObj l o)) a1 (W1.putObj l o)) (fun _ _ _ => False))
     { tmps := (ps.zip (encs x)).foldl (fun t (p, v) => t.setIfInBounds p v) a.tmps, defers := [] } W)
  (hdone : ∀ (D : Nat) (W : World), w.heap.size ≤ D → I xs W → W.heap[D]? = some (.deferred (some [])) → Q .normal { a with defers := { target := .collected D, args := #[] } :: a.defers } W)
  (hstop : ∀ (D : Nat) (c : Code) (pre : List α) (x : α) (post : List α) (W : World), w.heap.size ≤ D → xs = pre ++ x :: post → Ix c (pre ++ [x]) W → W.heap[D]? = some (.deferred (some [])) → c.wp P Q { a with defers := { target := .collected D, args := #[] } :: a.defers } W) :
  (Code.rangeFunc g ps assign body).wp P Q a w := by
 refine wp_range2 hg eg hit hKt hKn hps I Ix (fun pre A B h u _ => hI pre A B h u) (fun c pre A B h u _ => hIx c pre A B h u) h0 (fun l pre x W h1 h2 h3 h4 => wpIn_mono (hround l pre x W (by omega) h2 h3 h4) ?_) hdone hstop
 rintro e a1 W1 hp
 cases e with
 | normal => exact ⟨hp.1.two, hp.2.1, fun o => wpIn_mono (hp.2.2 o) fun e a w h => roundEnd.two h⟩
 | ret => exact hp.elim
 | exit id => exact hp.elim
 | goto t => exact hp.elim
 | panic ch => exact hp.elim
 | outgrown => exact hp.elim
theorem calls_of_wp_marks {P : Program} {f : FuncId} {fn : Func} {c : Code} {args : Array Value} {w : World} {R : Ending → World → Prop} (hf : P.funcs[f]? = some fn) (hb : fn.body = some c)
  (h : c.wp P (bodyPostM Fence.wide 3 P fn R) { tmps := args ++ Array.replicate (fn.ntmps - args.size) undef, defers := [] } w) : Calls P f args w R :=
 callsIn_wide.1 (callsIn_of_wp_marks (n := 3) hf hb trivial (wpIn_wide.2 h) rfl)
theorem leave1 {P : Program} {fn : Func} {R : Ending → World → Prop} {D : Nat} {tmps : Array Value} {W : World} {v : Value} (hK : W.heap[D]? = some (.deferred (some [])))
  (hres : (results fn tmps).run P (W.putObj D (.deferred none)) = .ok v (W.putObj D (.deferred none))) (hR : R (.returned v) (W.putObj D (.deferred none))) :
  bodyPostM Fence.wide 3 P fn R .ret { tmps := tmps, defers := [{ target := .collected D, args := #[] }] } W :=
 ⟨by simp, .inl ⟨_, _, rfl, run_takeDeferred hK, ⟨v, hres, hR⟩⟩⟩
theorem putObj_mod {S : List Nat} {a w : World} (h : Mod S a w) {D : Nat} (hD : a.heap.size ≤ D) (o : Obj) : Mod S a (w.putObj D o) :=
 h.trans' (mod_putObj w D o) (fun b hb => .inr (by simp at hb; omega))
theorem putObj_blk {w : World} {b D : Nat} {T : TypeId} {cs : List Value} {o o' : Obj} (h : Blk w b T cs) (hD : w.heap[D]? = some o) (ho : o.isCells = false) : Blk (w.putObj D o') b T cs := by
 have hne : b ≠ D := fun e => by subst e; unfold Blk at h; rw [h] at hD; cases hD; cases ho
 unfold Blk; rw [World.putObj_heap_other hne]; exact h
theorem mod_under {S : List Nat} {w A B : World} (h : Mod S w A) (u : Under w.heap.size [] A B) : Mod S w B :=
 ⟨u.os.trans h.os, u.tape.trans h.tape, u.output.trans h.output, Nat.le_trans h.size u.size, fun k hk hn => (u.block k hk (by simp)).trans (h.block k hk hn)⟩
theorem blk_under {w A B : World} {b : Nat} {T : TypeId} {cs : List Value} (h : Blk A b T cs) (u : Under w.heap.size [] A B) (hb : b < w.heap.size) : Blk B b T cs := (u.block b hb (by simp)).trans h
end Go.YtndekdafiaogmaaRange
end
section
namespace Go.YtndekdafiaogmaaMem
open Go Go.RowKit Go.Maps
def ReadsF (D : DataW Unit) (f : List UInt8 → Option Int) : Prop := (∀ k, Maps.has D (.string k) = (f k).isSome) ∧ ∀ k z, f k = some z → ∀ zd, D.atKey (.string k) zd = .lit (.int .i64 z)
def MapW (P : Program) (kt et : TypeId) (w : World) (b n : Nat) (f : List UInt8 → Option Int) (c : Nat) : Prop :=
 ∃ D : DataW Unit, w.ownsMap P kt (plainElem P et) b n D ∧ Maps.size D = c ∧ ReadsF D f
def RangeW (P : Program) (kt et : TypeId) (w : World) (b r n : Nat) (f : List UInt8 → Option Int) (c : Nat) : Prop :=
 ∃ (D : DataW Unit) (left : Lit → Bool) (cnt : Nat), w.ranges P kt (plainElem P et) b r n D left cnt ∧ Maps.size D = c ∧ ReadsF D f
def upd (f : List UInt8 → Option Int) (k : List UInt8) (o : Option Int) : List UInt8 → Option Int := fun x => if x = k then o else f x
theorem upd_same (f : List UInt8 → Option Int) (k : List UInt8) (o : Option Int) : upd f k o k = o := by simp [upd]
theorem upd_other {f : List UInt8 → Option Int} {k x : List UInt8} {o : Option Int} (h : x ≠ k) : upd f k o x = f x := by simp [upd, h]
section
variable {P : Program} {mt kt et : TypeId} {w : World} {b n c : Nat} {f : List UInt8 → Option Int}
theorem MapW.lt (h : MapW P kt et w b n f c) : b < w.heap.size := by
 obtain ⟨D, h, _⟩ := h; exact h.lt
theorem MapW.mod {S : List Nat} {w' : World} (h : MapW P kt et w b n f c) (hm : Mod S w w') (hb : b ∉ S) : MapW P kt et w' b n f c := by
 obtain ⟨D, ⟨es, clock, he, r⟩, h2⟩ := h
 exact ⟨D, ⟨es, clock, hm.heap he hb, r⟩, h2⟩
theorem MapW.made (w : World) : MapW P kt et (w.alloc (.map #[] 0)) w.heap.size 0 (fun _ => none) 0 :=
 ⟨.map [], World.ownsMap_made _ _ _ _, rfl, fun k => rfl, fun k z h => by cases h⟩
theorem MapW.congr {g : List UInt8 → Option Int} (h : MapW P kt et w b n f c) (e : ∀ k, f k = g k) : MapW P kt et w b n g c := by
 obtain rfl : f = g := funext e
 exact h
theorem turned_mod {w' : World} (h : w.mapTurned w' b) : Mod [b] w w' := by
 have hg := h.grown
 exact ⟨hg.os, hg.tape, hg.output, hg.size, fun k hk hn => hg.block k hk (by simpa using hn)⟩
theorem grown_mod_some {w' : World} (hg : w.grownBy w' (some b)) : Mod [b] w w' := ⟨hg.os, hg.tape, hg.output, hg.size, fun k hk hn => hg.block k hk (by simpa using hn)⟩
theorem grown_mod_none {w' : World} (hg : w.grownBy w' none) : Mod [] w w' := ⟨hg.os, hg.tape, hg.output, hg.size, fun k hk _ => hg.block k hk (by simp)⟩
theorem key_str (hk : P.underlying kt = some .string) {k : List UInt8} (hl : k.length ≤ maxLen) : keyOf P kt (.string ⟨k.toArray⟩) = some (.string k) := by
 have hs : (ByteArray.mk k.toArray).size ≤ maxLen := by show k.toArray.size ≤ maxLen; rw [List.size_toArray]; exact hl
 simp only [keyOf, hk, mapKey]
 rw [if_pos hs]
theorem lit_key (k : List UInt8) : WideAt.IsKeyLit (.string k) := by trivial
theorem lit_ne {k x : List UInt8} (h : x ≠ k) : (Lit.string x) ≠ .string k := fun e => by injection e with e; exact h e
theorem MapW.look (h : MapW P kt et w b n f c) (hm : P.underlying mt = some (.map kt et)) (hk : P.underlying kt = some .string) (he : P.underlying et = some (.int .i64)) (hz : (zeroValue et).run P w = .ok (.int .i64 0) w) {k : List UInt8} (hl : k.length ≤ maxLen) :
  (Instr.lookup mt (.map (some b)) (.string ⟨k.toArray⟩) true).run P w = .ok (.tuple #[.int .i64 ((f k).getD 0), .bool (f k).isSome]) w := by
 obtain ⟨D, ho, hs, h1, h2⟩ := h
 obtain ⟨v, ps, hrun, hv⟩ := ho.look_ok (string_keyed hk) hm hz (plainElem_int he (by decide)) (key_str hk hl)
 obtain ⟨a, rfl, ha, hw⟩ := plainElem_int_inv he hv
 rw [hrun, h1 k]
 have hd : D.atKey (.string k) (.lit (.int .i64 0)) = .lit (.int .i64 a) := congrArg Prod.fst ha
 cases hf : f k with
 | none =>
   have := h1 k
   rw [hf] at this
   rw [Maps.atKey_of_not_has this] at hd
   injection hd with hd; injection hd with _ hd
   subst hd; rfl
 | some z =>
   rw [h2 k z hf] at hd
   injection hd with hd; injection hd with _ hd
   subst hd; rfl
theorem MapW.len (h : MapW P kt et w b n f c) (hm : P.underlying mt = some (.map kt et)) (ty : TypeId) : (Builtin.len_ #[mt] ty #[.map (some b)]).run P w = .ok (.int .i64 c) w := by
 obtain ⟨D, ho, rfl, _⟩ := h
 exact ho.len hm ty
theorem MapW.put (h : MapW P kt et w b n f c) (hm : P.underlying mt = some (.map kt et)) (hk : P.underlying kt = some .string) (he : P.underlying et = some (.int .i64)) (hn : n < maxLen) {k : List UInt8} (hl : k.length ≤ maxLen) {z : Int} (hw : (Lit.int .i64 z).wf = true) :
  ∃ w', (Instr.mapUpdate mt (.map (some b)) (.string ⟨k.toArray⟩) (.int .i64 z)).run P w = .ok () w' ∧ MapW P kt et w' b (n + 1) (upd f k (some z)) (if (f k).isSome then c else c + 1) ∧ Mod [b] w w' := by
 obtain ⟨D, ho, hs, h1, h2⟩ := h
 obtain ⟨w', hrun, ho', ht⟩ := ho.store (string_keyed hk) hm hn (key_str hk hl) (plainElem_int he hw)
 refine ⟨w', hrun, ⟨_, ho', ?_, fun x => ?_, fun x y hxy zd => ?_⟩, turned_mod ht⟩
 ·rw [Maps.size_put (ho.tidy (string_keyed hk)), h1 k, hs]
 ·by_cases e : x = k
  ·subst e; rw [upd_same, Maps.has_put_same ho.isMap (lit_key _)]; rfl
  ·rw [upd_other e, Maps.has_put_other (lit_ne e)]; exact h1 x
 ·by_cases e : x = k
  ·subst e; rw [upd_same] at hxy; injection hxy with hxy; subst hxy
   exact Maps.atKey_put_same ho.isMap (lit_key _) _ _
  ·rw [upd_other e] at hxy; rw [Maps.atKey_put_other (lit_ne e)]; exact h2 x y hxy zd
theorem MapW.range (h : MapW P kt et w b n f c) (hm : P.underlying mt = some (.map kt et)) (hk : P.underlying kt = some .string) :
  ∃ w', (Instr.range mt (.map (some b))).run P w = .ok (.pointer (some ⟨w.heap.size, 0, none⟩)) w' ∧ RangeW P kt et w' b w.heap.size n f c ∧ Mod [] w w' ∧ w'.heap.size = w.heap.size + 1 := by
 obtain ⟨D, ho, hs, hr⟩ := h
 obtain ⟨w', h1, h2, h3, h4⟩ := ho.range (string_keyed hk) hm
 exact ⟨w', h1, ⟨D, _, _, h2, hs, hr⟩, grown_mod_none h3, h4⟩
variable {r : Nat}
theorem RangeW.map (h : RangeW P kt et w b r n f c) : MapW P kt et w b n f c := by
 obtain ⟨D, left, cnt, h, h2⟩ := h; exact ⟨D, h.owns, h2⟩
theorem RangeW.lt (h : RangeW P kt et w b r n f c) : r < w.heap.size := by
 obtain ⟨D, left, cnt, h, h2⟩ := h; exact h.lt
theorem RangeW.ne (h : RangeW P kt et w b r n f c) : r ≠ b := by
 obtain ⟨D, left, cnt, h, h2⟩ := h; exact h.ne
theorem RangeW.mod {S : List Nat} {w' : World} (h : RangeW P kt et w b r n f c) (hm : Mod S w w') (hb : b ∉ S) (hr : r ∉ S) : RangeW P kt et w' b r n f c := by
 obtain ⟨D, left, cnt, h, h2⟩ := h
 have h1 := h.owns.lt
 have h3 := h.lt
 obtain ⟨es, clock, since, seen, c0, q1, F, hs, hD, q2, rest⟩ := h
 exact ⟨D, left, cnt, ⟨es, clock, since, seen, c0, hm.heap q1 hb, F, hs, hD, hm.heap q2 hr, rest⟩, h2⟩
theorem RangeW.next (h : RangeW P kt et w b r n f c) (hk : P.underlying kt = some .string) (he : P.underlying et = some (.int .i64)) (ty : TypeId) :
  (Instr.next (.pointer (some ⟨r, 0, none⟩)) false ty).run P w = .ok (.tuple #[.bool false]) w ∨
  ∃ k z w', k.length ≤ maxLen ∧ f k = some z ∧ (Instr.next (.pointer (some ⟨r, 0, none⟩)) false ty).run P w = .ok (.tuple #[.bool true, .string ⟨k.toArray⟩, .int .i64 z]) w' ∧
   RangeW P kt et w' b r n f c ∧ w'.rangeLeft b r < w.rangeLeft b r ∧ Mod [r] w w' ∧ w'.heap.size = w.heap.size ∧ (Instr.entry (.pointer (some ⟨r, 0, none⟩))).run P w' = .ok (.tuple #[.string ⟨k.toArray⟩, .int .i64 z]) w' := by
 obtain ⟨D, left, cnt, h, hs, h1, h2⟩ := h
 rcases h.next (string_keyed hk) ty with ⟨_, _, h3⟩ | ⟨key, v, kl, y, w', cnt', hkey, hlk, hv, hat, hrun, hrg, hlt, hgr, hsz, hen⟩
 ·exact .inl h3
 ·obtain ⟨a, rfl, rfl, hw⟩ := plainElem_int_inv he hv
  obtain ⟨s, rfl, rfl, hsl⟩ : ∃ s : ByteArray, key = .string s ∧ kl = .string s.data.toList ∧ s.size ≤ maxLen := by
   cases key <;> simp only [keyOf, hk, mapKey] at hkey <;> try (exfalso; simp at hkey; done)
   rename_i s
   split at hkey
   ·rename_i h1; injection hkey with hkey; exact ⟨s, rfl, hkey.symm, h1⟩
   ·cases hkey
  have hh := Maps.has_true_of_atKey hat
  rw [h1] at hh
  obtain ⟨z, hz⟩ := Option.isSome_iff_exists.1 hh
  have := h2 _ z hz (.nil)
  rw [hat] at this
  injection this with this; injection this with _ this
  subst this
  have hse : (⟨s.data.toList.toArray⟩ : ByteArray) = s := by simp
  have hsl' : s.data.toList.length ≤ maxLen := by rw [Array.length_toList]; exact hsl
  refine .inr ⟨s.data.toList, a, w', hsl', hz, ?_, ⟨D, _, cnt', hrg, hs, h1, h2⟩, by rw [hrg.left_eq, h.left_eq]; exact hlt, grown_mod_some hgr, hsz, ?_⟩
  ·rw [hse]; exact hrun
  ·rw [hse]; exact hen
end
end Go.YtndekdafiaogmaaMem
end
section
namespace Go.YtndekdafiaogmaaMem
open Go Go.RowKit Go.Maps
noncomputable section
open Classical in
def updG (f : Lit → Option Value) (k : Lit) (o : Option Value) : Lit → Option Value := fun x => if x = k then o else f x
end
def heldE (v : Value) : Option (DataW Value × List MemPlace) := some (.held v, [])
def ReadsG (D : DataW Value) (f : Lit → Option Value) : Prop := (∀ k, Maps.has D k = (f k).isSome) ∧ ∀ k z, f k = some z → ∀ zd, D.atKey k zd = .held z
def MapG (P : Program) (kt : TypeId) (w : World) (b n : Nat) (f : Lit → Option Value) (c : Nat) : Prop :=
 ∃ D : DataW Value, w.ownsMap P kt heldE b n D ∧ Maps.size D = c ∧ ReadsG D f
def RangeG (P : Program) (kt : TypeId) (w : World) (b r n : Nat) (f : Lit → Option Value) (c : Nat) : Prop :=
 ∃ (D : DataW Value) (left : Lit → Bool) (cnt : Nat), w.ranges P kt heldE b r n D left cnt ∧ Maps.size D = c ∧ ReadsG D f
theorem updG_same (f : Lit → Option Value) (k : Lit) (o : Option Value) : updG f k o k = o := by simp [updG]
theorem updG_other {f : Lit → Option Value} {k x : Lit} {o : Option Value} (h : x ≠ k) : updG f k o x = f x := by simp [updG, h]
section
variable {P : Program} {mt kt et : TypeId} {w : World} {b n c : Nat} {f : Lit → Option Value}
theorem MapG.lt (h : MapG P kt w b n f c) : b < w.heap.size := by
 obtain ⟨D, h, _⟩ := h; exact h.lt
theorem MapG.mod {S : List Nat} {w' : World} (h : MapG P kt w b n f c) (hm : Mod S w w') (hb : b ∉ S) : MapG P kt w' b n f c := by
 obtain ⟨D, ⟨es, clock, he, r⟩, h2⟩ := h
 exact ⟨D, ⟨es, clock, hm.heap he hb, r⟩, h2⟩
theorem MapG.same {w' : World} (h : MapG P kt w b n f c) (e : w'.heap[b]? = w.heap[b]?) : MapG P kt w' b n f c := by
 obtain ⟨D, ⟨es, clock, he, r⟩, h2⟩ := h
 exact ⟨D, ⟨es, clock, e.trans he, r⟩, h2⟩
theorem MapG.made (w : World) : MapG P kt (w.alloc (.map #[] 0)) w.heap.size 0 (fun _ => none) 0 :=
 ⟨.map [], World.ownsMap_made _ _ _ _, rfl, fun k => rfl, fun k z h => by cases h⟩
theorem MapG.congr {g : Lit → Option Value} (h : MapG P kt w b n f c) (e : ∀ k, f k = g k) : MapG P kt w b n g c := by
 obtain rfl : f = g := funext e
 exact h
theorem MapG.mono (h : MapG P kt w b n f c) {n' : Nat} (hn : n ≤ n') : MapG P kt w b n' f c := by
 obtain ⟨D, ho, h2⟩ := h
 exact ⟨D, ho.mono hn, h2⟩
theorem MapG.few (h : MapG P kt w b n f c) : c ≤ n := by
 obtain ⟨D, ho, rfl, _⟩ := h
 exact ho.size_le
theorem MapG.look (h : MapG P kt w b n f c) (K : Keyed P kt) (hm : P.underlying mt = some (.map kt et)) {z : Value} (hz : (zeroValue et).run P w = .ok z w) {key : Value} {kl : Lit} (hkey : keyOf P kt key = some kl) :
  (Instr.lookup mt (.map (some b)) key true).run P w = .ok (.tuple #[(f kl).getD z, .bool (f kl).isSome]) w := by
 obtain ⟨D, ho, hs, h1, h2⟩ := h
 obtain ⟨v, ps, hrun, hv⟩ := ho.look_ok (zd := .held z) K hm hz rfl hkey
 rw [hrun, h1 kl]
 have hd : DataW.held v = D.atKey kl (.held z) := congrArg Prod.fst (Option.some.inj hv)
 cases hf : f kl with
 | none =>
   have := h1 kl
   rw [hf] at this
   rw [Maps.atKey_of_not_has this] at hd
   injection hd with hd
   subst hd; rfl
 | some y =>
   rw [h2 kl y hf] at hd
   injection hd with hd
   subst hd; rfl
theorem MapG.get (h : MapG P kt w b n f c) (K : Keyed P kt) (hm : P.underlying mt = some (.map kt et)) {z : Value} (hz : (zeroValue et).run P w = .ok z w) {key : Value} {kl : Lit} (hkey : keyOf P kt key = some kl) :
  (Instr.lookup mt (.map (some b)) key false).run P w = .ok ((f kl).getD z) w := by
 obtain ⟨D, ho, hs, h1, h2⟩ := h
 obtain ⟨v, ps, hrun, hv⟩ := ho.lookup (zd := .held z) K hm hz rfl hkey
 rw [hrun]
 have hd : DataW.held v = D.atKey kl (.held z) := congrArg Prod.fst (Option.some.inj hv)
 cases hf : f kl with
 | none =>
   have := h1 kl
   rw [hf] at this
   rw [Maps.atKey_of_not_has this] at hd
   injection hd with hd
   subst hd; rfl
 | some y =>
   rw [h2 kl y hf] at hd
   injection hd with hd
   subst hd; rfl
theorem MapG.len (h : MapG P kt w b n f c) (hm : P.underlying mt = some (.map kt et)) (ty : TypeId) : (Builtin.len_ #[mt] ty #[.map (some b)]).run P w = .ok (.int .i64 c) w := by
 obtain ⟨D, ho, rfl, _⟩ := h
 exact ho.len hm ty
theorem MapG.put (h : MapG P kt w b n f c) (K : Keyed P kt) (hm : P.underlying mt = some (.map kt et)) (hn : n < maxLen) {key : Value} {kl : Lit} (hkey : keyOf P kt key = some kl) (z : Value) :
  ∃ w', (Instr.mapUpdate mt (.map (some b)) key z).run P w = .ok () w' ∧ MapG P kt w' b (n + 1) (updG f kl (some z)) (if (f kl).isSome then c else c + 1) ∧ Mod [b] w w' := by
 obtain ⟨D, ho, hs, h1, h2⟩ := h
 obtain ⟨w', hrun, ho', ht⟩ := ho.store (val := z) (d := .held z) K hm hn hkey rfl
 refine ⟨w', hrun, ⟨_, ho', ?_, fun x => ?_, fun x y hxy zd => ?_⟩, turned_mod ht⟩
 ·rw [Maps.size_put (ho.tidy K), h1 kl, hs]
 ·by_cases e : x = kl
  ·subst e; rw [updG_same, Maps.has_put_same ho.isMap (K.key hkey)]; rfl
  ·rw [updG_other e, Maps.has_put_other e]; exact h1 x
 ·by_cases e : x = kl
  ·subst e; rw [updG_same] at hxy; injection hxy with hxy; subst hxy
   exact Maps.atKey_put_same ho.isMap (K.key hkey) _ _
  ·rw [updG_other e] at hxy; rw [Maps.atKey_put_other e]; exact h2 x y hxy zd
theorem MapG.range (h : MapG P kt w b n f c) (K : Keyed P kt) (hm : P.underlying mt = some (.map kt et)) :
  ∃ w', (Instr.range mt (.map (some b))).run P w = .ok (.pointer (some ⟨w.heap.size, 0, none⟩)) w' ∧ RangeG P kt w' b w.heap.size n f c ∧ Mod [] w w' ∧ w'.heap.size = w.heap.size + 1 := by
 obtain ⟨D, ho, hs, hr⟩ := h
 obtain ⟨w', h1, h2, h3, h4⟩ := ho.range K hm
 exact ⟨w', h1, ⟨D, _, _, h2, hs, hr⟩, grown_mod_none h3, h4⟩
variable {r : Nat}
theorem RangeG.map (h : RangeG P kt w b r n f c) : MapG P kt w b n f c := by
 obtain ⟨D, left, cnt, h, h2⟩ := h; exact ⟨D, h.owns, h2⟩
theorem RangeG.lt (h : RangeG P kt w b r n f c) : r < w.heap.size := by
 obtain ⟨D, left, cnt, h, h2⟩ := h; exact h.lt
theorem RangeG.ne (h : RangeG P kt w b r n f c) : r ≠ b := by
 obtain ⟨D, left, cnt, h, h2⟩ := h; exact h.ne
theorem RangeG.mod {S : List Nat} {w' : World} (h : RangeG P kt w b r n f c) (hm : Mod S w w') (hb : b ∉ S) (hr : r ∉ S) : RangeG P kt w' b r n f c := by
 obtain ⟨D, left, cnt, h, h2⟩ := h
 obtain ⟨es, clock, since, seen, c0, q1, F, hs, hD, q2, rest⟩ := h
 exact ⟨D, left, cnt, ⟨es, clock, since, seen, c0, hm.heap q1 hb, F, hs, hD, hm.heap q2 hr, rest⟩, h2⟩
theorem RangeG.next (h : RangeG P kt w b r n f c) (K : Keyed P kt) (ty : TypeId) :
  (Instr.next (.pointer (some ⟨r, 0, none⟩)) false ty).run P w = .ok (.tuple #[.bool false]) w ∨
  ∃ key kl z w', keyOf P kt key = some kl ∧ f kl = some z ∧ (Instr.next (.pointer (some ⟨r, 0, none⟩)) false ty).run P w = .ok (.tuple #[.bool true, key, z]) w' ∧
   RangeG P kt w' b r n f c ∧ w'.rangeLeft b r < w.rangeLeft b r ∧ Mod [r] w w' ∧ w'.heap.size = w.heap.size ∧ (Instr.entry (.pointer (some ⟨r, 0, none⟩))).run P w' = .ok (.tuple #[key, z]) w' := by
 obtain ⟨D, left, cnt, h, hs, h1, h2⟩ := h
 rcases h.next K ty with ⟨_, _, h3⟩ | ⟨key, v, kl, y, w', cnt', hkey, hlk, hv, hat, hrun, hrg, hlt, hgr, hsz, hen⟩
 ·exact .inl h3
 ·obtain rfl : (DataW.held v, ([] : List MemPlace)) = y := Option.some.inj hv
  have hh := Maps.has_true_of_atKey hat
  rw [h1] at hh
  obtain ⟨z, hz⟩ := Option.isSome_iff_exists.1 hh
  have := h2 _ z hz (.nil)
  rw [hat] at this
  injection this with this
  subst this
  exact .inr ⟨key, kl, v, w', hkey, hz, hrun, ⟨D, _, cnt', hrg, hs, h1, h2⟩, by rw [hrg.left_eq, h.left_eq]; exact hlt, grown_mod_some hgr, hsz, hen⟩
end
end Go.YtndekdafiaogmaaMem
end
section
namespace Go.YtndekdafiaogmaaMem
open Go Go.RowKit
section
variable {w : World} {base : Nat} {e : TypeId} {size : Nat} {v : Value} {n : Nat} {xs : List Value}
end
end Go.YtndekdafiaogmaaMem
end
