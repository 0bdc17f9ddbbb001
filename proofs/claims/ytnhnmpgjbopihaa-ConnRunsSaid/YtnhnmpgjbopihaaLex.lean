/- A region of a statement that draws its order is walked once, in the order of its text: a static look (by the kernel) shows that operations which no edge orders do not touch each other. For any program. -/
import Derived.WalkKit
namespace Go.YtnhnmpgjbopihaaLex
set_option linter.unusedVariables false
set_option linter.unusedSimpArgs false
open Go

/-! What a piece of the machine's meaning does to the world, where it ends well. -/

def NoOk {α : Type} (P : Program) (s : Sem α) : Prop := ∀ w x w1, s.run P w ≠ .ok x w1
def Blind {α : Type} (P : Program) (s : Sem α) : Prop := ∀ w x w1, s.run P w = .ok x w1 → w1 = w ∧ ∀ w', s.run P w' = .ok x w'
def Reads {α : Type} (P : Program) (s : Sem α) : Prop := ∀ w x w1, s.run P w = .ok x w1 → w1 = w

section
variable {P : Program} {α β : Type}

theorem Blind.reads {s : Sem α} (h : Blind P s) : Reads P s := fun w x w1 e => (h w x w1 e).1
theorem NoOk.blind {s : Sem α} (h : NoOk P s) : Blind P s := fun w x w1 e => absurd e (h w x w1)
theorem noOk_halt (h : Halt) : NoOk P (Sem.halt h : Sem α) := fun w x w1 e => by simp [Sem.run] at e
theorem noOk_stuck (s : String) : NoOk P (stuck s : Sem α) := noOk_halt _
theorem noOk_unsupported (u : Unsupported) : NoOk P (unsupported u : Sem α) := noOk_halt _
theorem noOk_goPanic (v : Value) : NoOk P (goPanic v : Sem α) := noOk_halt _
theorem noOk_left {s : Sem α} {f : α → Sem β} (h : NoOk P s) : NoOk P (s >>= f) := fun w x w1 e => by
  change Sem.run P (Sem.bind s f) w = _ at e
  rw [Sem.run_bind'] at e
  cases hs : s.run P w with
  | ok a w' => exact h _ _ _ hs
  | halt q w' => rw [hs] at e; cases e
theorem noOk_right {s : Sem α} {f : α → Sem β} (h : ∀ a, NoOk P (f a)) : NoOk P (s >>= f) := fun w x w1 e => by
  change Sem.run P (Sem.bind s f) w = _ at e
  rw [Sem.run_bind'] at e
  cases hs : s.run P w with
  | ok a w' => rw [hs] at e; exact h a _ _ _ e
  | halt q w' => rw [hs] at e; cases e
theorem noOk_runtimePanic (r : RuntimeError) : NoOk P (runtimePanic r : Sem α) := by
  unfold runtimePanic
  refine noOk_right fun p => ?_
  cases r <;> first | exact noOk_goPanic _ | (refine noOk_right fun _ => ?_; first | exact noOk_goPanic _ | (refine noOk_right fun _ => ?_; exact noOk_goPanic _))
theorem noOk_boundsPanic (k : IntKind) (x y : Int) (c : BoundsCode) : NoOk P (boundsPanic k x y c : Sem α) := by
  unfold boundsPanic
  dsimp only
  split
  · exact noOk_right fun _ => noOk_runtimePanic _
  · exact noOk_right fun _ => noOk_runtimePanic _

theorem blind_pure (a : α) : Blind P (pure a : Sem α) := fun w x w1 e => by
  have e' : Result.ok a w = .ok x w1 := e
  injection e' with h1 h2
  subst h1; subst h2
  exact ⟨rfl, fun _ => rfl⟩
theorem blind_pure' (a : α) : Blind P (Sem.pure a : Sem α) := blind_pure a
theorem blind_program : Blind P (program : Sem Program) := fun w x w1 e => by
  have e' : Result.ok P w = .ok x w1 := e
  injection e' with h1 h2
  subst h1; subst h2
  exact ⟨rfl, fun _ => rfl⟩
theorem blind_bind {s : Sem α} {f : α → Sem β} (h : Blind P s) (g : ∀ a, Blind P (f a)) : Blind P (s >>= f) := fun w x w1 e => by
  change Sem.run P (Sem.bind s f) w = _ at e
  rw [Sem.run_bind'] at e
  cases hs : s.run P w with
  | ok a w' =>
    rw [hs] at e
    obtain ⟨rfl, h2⟩ := h _ _ _ hs
    obtain ⟨rfl, g2⟩ := g a _ _ _ e
    refine ⟨rfl, fun w'' => ?_⟩
    change Sem.run P (Sem.bind s f) w'' = _
    rw [Sem.run_bind', h2 w'']
    exact g2 w''
  | halt q w' => rw [hs] at e; cases e
theorem reads_bind {s : Sem α} {f : α → Sem β} (h : Reads P s) (g : ∀ a, Reads P (f a)) : Reads P (s >>= f) := fun w x w1 e => by
  change Sem.run P (Sem.bind s f) w = _ at e
  rw [Sem.run_bind'] at e
  cases hs : s.run P w with
  | ok a w' =>
    rw [hs] at e
    obtain rfl := h _ _ _ hs
    exact g a _ _ _ e
  | halt q w' => rw [hs] at e; cases e
theorem reads_load (a : Addr) : Reads P (load a) := fun w x w1 e => by
  simp only [load, Sem.run] at e
  split at e
  · injection e with h1 h2; exact h2.symm
  · split at e
    · injection e with h1 h2; exact h2.symm
    · cases e
theorem reads_shape (r : Nat) : Reads P (shape r) := fun w x w1 e => by
  simp only [shape, Sem.run] at e; injection e with h1 h2; exact h2.symm
theorem reads_getObj (r : Nat) : Reads P (getObj r) := fun w x w1 e => by
  simp only [getObj, Sem.run] at e
  split at e
  · cases e
  · injection e with h1 h2; exact h2.symm
  · cases e
theorem reads_frozen (a : Addr) : Reads P (frozen a) := fun w x w1 e => by
  simp only [frozen, Sem.run] at e; injection e with h1 h2; exact h2.symm
theorem reads_pure (a : α) : Reads P (pure a : Sem α) := (blind_pure a).reads

theorem blind_underlying (t : TypeId) : Blind P (underlying t) := by
  unfold underlying
  refine blind_bind blind_program fun p => ?_
  split
  · exact blind_pure _
  · exact (noOk_stuck _).blind
theorem blind_typeInfo (t : TypeId) : Blind P (typeInfo t) := by
  unfold typeInfo
  refine blind_bind blind_program fun p => ?_
  split
  · exact blind_pure _
  · exact (noOk_stuck _).blind
theorem blind_sizeOf (t : TypeId) : Blind P (sizeOf t) := by
  unfold sizeOf
  exact blind_bind (blind_typeInfo _) fun _ => blind_pure _
theorem blind_isAgg (t : TypeId) : Blind P (isAgg t) := by
  unfold isAgg
  refine blind_bind (blind_underlying _) fun d => ?_
  split <;> exact blind_pure _
theorem blind_asIntOf (v : Value) : Blind P (asIntOf v) := by
  unfold asIntOf
  split
  · exact blind_pure _
  · exact (noOk_unsupported _).blind
  · exact (noOk_stuck _).blind
theorem blind_asBool (v : Value) : Blind P (asBool v) := by
  unfold asBool
  split
  · exact blind_pure _
  · exact (noOk_stuck _).blind
theorem blind_asAgg (v : Value) : Blind P (asAgg v) := by
  unfold asAgg
  split
  · exact blind_pure _
  · exact (noOk_stuck _).blind
theorem blind_asAddr (v : Value) : Blind P (asAddr v) := by
  unfold asAddr
  split
  · exact blind_pure _
  · exact (noOk_runtimePanic _).blind
  · exact (noOk_stuck _).blind
theorem blind_sureAddr (v : Value) : Blind P (Instr.sureAddr v) := by
  unfold Instr.sureAddr
  split
  · exact blind_pure _
  · exact (noOk_stuck _).blind
theorem blind_part (t : TypeId) (cs : Array Value) (off : Nat) : Blind P (part t cs off) := by
  unfold part
  refine blind_bind (blind_isAgg _) fun b => ?_
  split
  · exact blind_bind (blind_sizeOf _) fun _ => blind_pure _
  · split
    · exact blind_pure _
    · exact (noOk_stuck _).blind
theorem blind_extract (t : Value) (i : Nat) : Blind P (Instr.extract t i) := by
  unfold Instr.extract
  split
  · split
    · exact blind_pure _
    · exact (noOk_stuck _).blind
  · exact (noOk_stuck _).blind
theorem blind_field (t : TypeId) (x : Value) (i : Nat) : Blind P (Instr.field t x i) := by
  unfold Instr.field
  refine blind_bind (blind_underlying _) fun d => ?_
  split
  · split
    · exact blind_bind (blind_asAgg _) fun _ => blind_part _ _ _
    · exact (noOk_stuck _).blind
  · exact (noOk_stuck _).blind
theorem blind_index (t : TypeId) (x i : Value) : Blind P (Instr.index t x i) := by
  unfold Instr.index
  refine blind_bind (blind_asIntOf _) fun ki => ?_
  refine blind_bind (blind_underlying _) fun d => ?_
  split
  · split
    · exact blind_bind (blind_sizeOf _) fun _ => blind_part _ _ _
    · exact (noOk_boundsPanic _ _ _ _).blind
  · split
    · exact blind_pure _
    · exact (noOk_boundsPanic _ _ _ _).blind
  · exact (noOk_stuck _).blind
theorem blind_indexAt (t : TypeId) (x i : Value) : Blind P (Instr.indexAt t x i) := by
  unfold Instr.indexAt
  repeat' (first | exact blind_pure _ | exact (noOk_stuck _).blind | exact (noOk_unsupported _).blind | exact (noOk_boundsPanic _ _ _ _).blind | exact (noOk_runtimePanic _).blind | exact blind_sizeOf _ | exact blind_underlying _ | exact blind_sureAddr _ | exact blind_asAddr _ | exact blind_asIntOf _ | exact blind_part _ _ _ | refine blind_bind ?_ (fun _ => ?_) | split | dsimp only)
theorem blind_sliceBound (x : Value) (y : Nat) (c : BoundsCode) : Blind P (Instr.sliceBound x y c) := by
  unfold Instr.sliceBound
  repeat' (first | exact blind_pure _ | exact (noOk_stuck _).blind | exact (noOk_unsupported _).blind | exact (noOk_boundsPanic _ _ _ _).blind | exact (noOk_runtimePanic _).blind | exact blind_sizeOf _ | exact blind_underlying _ | exact blind_sureAddr _ | exact blind_asAddr _ | exact blind_asIntOf _ | exact blind_part _ _ _ | refine blind_bind ?_ (fun _ => ?_) | split | dsimp only)
theorem blind_sliceBounds (b : Bool) (n c : Nat) (lo hi mx : Option Value) : Blind P (Instr.sliceBounds b n c lo hi mx) := by
  unfold Instr.sliceBounds
  repeat' (first | exact blind_pure _ | exact (noOk_stuck _).blind | exact (noOk_unsupported _).blind | exact (noOk_boundsPanic _ _ _ _).blind | exact (noOk_runtimePanic _).blind | exact blind_sizeOf _ | exact blind_underlying _ | exact blind_sureAddr _ | exact blind_asAddr _ | exact blind_asIntOf _ | exact blind_part _ _ _ | exact blind_sliceBound _ _ _ | refine blind_bind ?_ (fun _ => ?_) | split | dsimp only)
theorem blind_slice (t : TypeId) (x : Value) (lo hi mx : Option Value) : Blind P (Instr.slice t x lo hi mx) := by
  unfold Instr.slice
  repeat' (first | exact blind_pure _ | exact (noOk_stuck _).blind | exact (noOk_unsupported _).blind | exact (noOk_boundsPanic _ _ _ _).blind | exact (noOk_runtimePanic _).blind | exact blind_sizeOf _ | exact blind_underlying _ | exact blind_sureAddr _ | exact blind_asAddr _ | exact blind_asIntOf _ | exact blind_part _ _ _ | exact blind_sliceBounds _ _ _ _ _ _ | refine blind_bind ?_ (fun _ => ?_) | split | dsimp only)
theorem blind_sliceAt (t : TypeId) (x : Value) (lo hi mx : Option Value) : Blind P (Instr.sliceAt t x lo hi mx) := by
  unfold Instr.sliceAt
  repeat' (first | exact blind_pure _ | exact (noOk_stuck _).blind | exact (noOk_unsupported _).blind | exact (noOk_boundsPanic _ _ _ _).blind | exact (noOk_runtimePanic _).blind | exact blind_sizeOf _ | exact blind_underlying _ | exact blind_sureAddr _ | exact blind_asAddr _ | exact blind_asIntOf _ | exact blind_part _ _ _ | exact blind_slice _ _ _ _ _ | exact blind_sliceBounds _ _ _ _ _ _ | refine blind_bind ?_ (fun _ => ?_) | split | dsimp only)
theorem blind_makeInterface (t : TypeId) (x : Value) : Blind P (Instr.makeInterface t x) := by
  unfold Instr.makeInterface
  refine blind_bind (blind_underlying _) fun d => ?_
  split
  · exact (noOk_stuck _).blind
  · exact blind_pure _
theorem blind_followBlind : ∀ (l : List FieldStep) (t : TypeId) (x : Option Value), Blind P (followBlind l t x)
  | [], t, x => by unfold followBlind; exact blind_pure _
  | s :: rest, t, x => by
    unfold followBlind
    refine blind_bind (blind_underlying _) fun d => ?_
    split
    · split
      · split
        · exact blind_pure _
        · exact blind_followBlind _ _ _
        · exact (noOk_stuck _).blind
        · exact blind_pure _
        · exact blind_bind (blind_part _ _ _) fun _ => blind_followBlind _ _ _
        · exact (noOk_stuck _).blind
        · exact blind_followBlind _ _ _
      · exact (noOk_stuck _).blind
    · exact (noOk_stuck _).blind
theorem blind_nilAhead : ∀ (n : Nat) (t : TypeId) (v : Value) (s : String), Blind P (nilAhead n t v s)
  | 0, t, v, s => by unfold nilAhead; exact blind_pure _
  | n + 1, t, v, s => by
    unfold nilAhead
    refine blind_bind (blind_typeInfo _) fun i => ?_
    split
    · refine blind_bind (blind_followBlind _ _ _) fun r => ?_
      split
      · exact blind_pure _
      · split
        · exact blind_nilAhead _ _ _ _
        · exact blind_pure _
        · exact (noOk_stuck _).blind
        · exact blind_pure _
        · exact blind_pure _
        · refine blind_bind (blind_underlying _) fun d => ?_
          split <;> exact blind_pure _
    · exact (noOk_stuck _).blind

theorem blind_mapM {γ δ : Type} (f : γ → Sem δ) (h : ∀ x, Blind P (f x)) (xs : Array γ) : Blind P (xs.mapM f) := by
  rw [Array.mapM_eq_mapM_toList]
  have key : ∀ l : List γ, Blind P (l.mapM f) := fun l => by
    induction l with
    | nil => rw [List.mapM_nil]; exact blind_pure _
    | cons x l ih => rw [List.mapM_cons]; exact blind_bind (h x) fun _ => blind_bind ih fun _ => blind_pure _
  have : Blind P ((fun l : List δ => l.toArray) <$> xs.toList.mapM f) := by
    rw [map_eq_pure_bind]; exact blind_bind (key _) fun _ => blind_pure _
  exact this
theorem blind_zeroVal (t : TypeId) : Blind P (zeroValue t) := by
  unfold zeroValue
  refine blind_bind (blind_typeInfo _) fun i => ?_
  split
  · exact blind_pure _
  · exact (noOk_unsupported _).blind
theorem blind_build (t : TypeId) (ps : Array (Nat × Value)) : Blind P (Instr.build t ps) := by
  unfold Instr.build
  refine blind_bind (blind_zeroVal _) fun z => blind_bind (blind_underlying _) fun d => ?_
  split
  · refine blind_bind (blind_mapM _ (fun f => blind_bind (blind_sizeOf _) fun _ => blind_pure _) _) fun pl => ?_
    split
    · exact blind_pure _
    · exact (noOk_stuck _).blind
  · refine blind_bind (blind_sizeOf _) fun n => ?_
    split
    · exact blind_pure _
    · exact (noOk_stuck _).blind
  · exact (noOk_stuck _).blind

theorem blind_floatCmp (op : BinOp) (k : FloatKind) (x y : Nat) : Blind P (Op.floatCmp op k x y) := by
  unfold Op.floatCmp
  dsimp only
  split <;> first | exact blind_pure _ | exact (noOk_stuck _).blind
theorem blind_stringOp (op : BinOp) (x y : ByteArray) : Blind P (Op.stringOp op x y) := by
  unfold Op.stringOp
  dsimp only
  split <;> first | exact blind_pure _ | exact (noOk_stuck _).blind | (split <;> first | exact blind_pure _ | exact (noOk_unsupported _).blind)
theorem blind_intArith (op : BinOp) (k : IntKind) (x y : Int) : Blind P (Op.intArith op k x y) := by
  unfold Op.intArith
  split <;> first | exact blind_pure _ | exact (noOk_stuck _).blind
theorem blind_intDiv (op : BinOp) (k : IntKind) (x y : Int) : Blind P (Op.intDiv op k x y) := by
  unfold Op.intDiv
  split
  · exact (noOk_runtimePanic _).blind
  · split <;> first | exact blind_pure _ | exact (noOk_stuck _).blind
theorem blind_intBits (op : BinOp) (k : IntKind) (x y : Int) : Blind P (Op.intBits op k x y) := by
  unfold Op.intBits
  dsimp only
  split <;> first | exact blind_pure _ | exact (noOk_stuck _).blind
theorem blind_intCmp (op : BinOp) (x y : Int) : Blind P (Op.intCmp op x y) := by
  unfold Op.intCmp
  split <;> first | exact blind_pure _ | exact (noOk_stuck _).blind
theorem blind_shift (op : BinOp) (k : IntKind) (x : Int) (yk : IntKind) (y : Int) : Blind P (Op.shift op k x yk y) := by
  unfold Op.shift
  split
  · exact (noOk_runtimePanic _).blind
  · dsimp only
    split <;> first | exact blind_pure _ | exact (noOk_stuck _).blind
theorem blind_unary (op : UnOp) (x : Value) : Blind P (Op.unary op x) := by
  unfold Op.unary
  split <;> first | exact blind_intArith _ _ _ _ | exact blind_intBits _ _ _ _ | exact blind_pure _ | exact (noOk_unsupported _).blind | exact (noOk_stuck _).blind

/-- Two whole numbers, two texts: whatever the operator. -/
theorem blind_binOp_int (op : BinOp) (t : TypeId) (k k' : IntKind) (x y : Int) : Blind P (Go.binOp op t (.int k x) (.int k' y)) := by
  unfold Go.binOp
  split
  case h_1 => exact blind_shift _ _ _ _ _
  case h_2 => exact blind_shift _ _ _ _ _
  case h_3 =>
    split
    · exact (noOk_stuck _).blind
    · split <;> first | exact blind_intArith _ _ _ _ | exact blind_intDiv _ _ _ _ | exact blind_intBits _ _ _ _ | exact blind_intCmp _ _ _
  case h_7 => rename_i q1 q2 q3 q4; exact (q1 _ _ _ _ rfl rfl).elim
  case h_8 => rename_i q1 q2 q3 q4; exact (q1 _ _ _ _ rfl rfl).elim
  all_goals first | (exfalso; simp_all; done) | exact (noOk_stuck _).blind
end


/-! One operation, with what is asked of it; the steps in whatever order. -/

section
variable {P : Program} {ops : Array Oper} {Q : Exit → Act → World → Prop}

/-- What an operation of a kind is asked: 0: a value, the same in every world; 1: a value, the world left alone; else nothing. -/
def Good (P : Program) (kind : Nat) (o : Oper) (a : Act) (w : World) : Prop :=
  match kind with
  | 0 => ∃ v, ∀ w', (execOp a.eval o).run P w' = .ok (.value v) w'
  | 1 => ∃ v, (execOp a.eval o).run P w = .ok (.value v) w
  | _ => True

theorem Good.one {k : Nat} {o : Oper} {a : Act} {w : World} (h : Good P k o a w) (hk : k ≤ 1) : ∃ v, (execOp a.eval o).run P w = .ok (.value v) w := by
  match k, hk with
  | 0, _ => obtain ⟨v, hv⟩ := h; exact ⟨v, hv w⟩
  | 1, _ => exact h

def opS (P : Program) (kind : Oper → Nat) (ops : Array Oper) (Q : Exit → Act → World → Prop) (i : Nat) (K : Act → World → Prop) (a : Act) (w : World) : Prop :=
  match ops[i]? with
  | none => K a w
  | some o => if Region.wanted o (yielded ops a.tmps) then Good P (kind o) o a w ∧ o.wp P a w K Q else K (a.put o.dst undef) w

theorem opS_mono {kind : Oper → Nat} {i : Nat} {a : Act} {w : World} {K K' : Act → World → Prop} (h : ∀ a w, K a w → K' a w) (hh : opS P kind ops Q i K a w) : opS P kind ops Q i K' a w := by
  unfold opS at *
  split
  · exact h _ _ (by simpa [*] using hh)
  · rename_i o ho
    simp only [ho] at hh
    split
    · rename_i hw; simp only [hw, if_true] at hh; exact ⟨hh.1, Oper.wp_mono h hh.2⟩
    · rename_i hw; simp only [hw] at hh; exact h _ _ hh

theorem opS_wpOp {kind : Oper → Nat} {i : Nat} {a : Act} {w : World} {K : Act → World → Prop} (hh : opS P kind ops Q i K a w) : wpOp P ops Q i K a w := by
  unfold opS at hh; unfold wpOp
  split
  · simpa [*] using hh
  · rename_i o ho
    simp only [ho] at hh
    split
    · rename_i hw; simp only [hw, if_true] at hh; exact .inl hh.2
    · rename_i hw; simp only [hw] at hh; exact hh

/-- Only the plain way out is let. -/
def Plain (Q : Exit → Act → World → Prop) : Prop := ∀ e a w, Q e a w → e = .normal

theorem Plain.panic (h : Plain Q) {c a w} (q : Q (.panic c) a w) : False := by cases h _ _ _ q
theorem Plain.out (h : Plain Q) (q : LetsOut Q) : False := by obtain ⟨a, w, q⟩ := q; cases h _ _ _ q

/-- What an operation came to, seen from a frame with one more slot filled in that it does not look at. -/
theorem wp_put {o : Oper} {d : Option Tmp} {v : Value} (hp : Plain Q) (hs : ∀ cs b, o.op ≠ .select cs b) (h1 : ∀ t, d = some t → t ∉ o.looksAt ops) (h2 : ∀ t, d = some t → o.dst ≠ some t)
    {K : Act → World → Prop} {a : Act} {w : World} : o.wp P (a.put d v) w K Q ↔ o.wp P a w (fun a' w' => K (a'.put d v) w') Q := by
  unfold Oper.wp
  rw [execOp_put (ops := ops) o hs a d v h1]
  generalize (execOp a.eval o).run P w = r
  have pc : ∀ (a : Act) u, (a.put d v).put o.dst u = (a.put o.dst u).put d v := fun a u => Act.put_comm a v u h2
  cases r with
  | ok n w' =>
    cases n <;> simp only [Oper.upon]
    case value u => rw [pc]
    case skip => rw [pc]
    case defer q => rw [Act.put_defers, pc]
    case enter f args =>
      constructor
      · intro h
        refine Calls.mono h fun e w'' he => ?_
        cases e with
        | returned u => simp only at he ⊢; rw [pc] at he; exact he
        | panicked c => exact (hp.panic he).elim
        | outgrown => exact he
      · intro h
        refine Calls.mono h fun e w'' he => ?_
        cases e with
        | returned u => simp only at he ⊢; rw [pc]; exact he
        | panicked c => exact (hp.panic he).elim
        | outgrown => exact he
    case row r args =>
      constructor
      · intro h; exact Rows.mono h fun u w'' he => by rw [pc] at he; exact he
      · intro h; exact Rows.mono h fun u w'' he => by rw [pc]; exact he
  | halt x w' =>
    cases x <;> simp only [Oper.upon]
    case panic u => exact ⟨fun h => (hp.panic h).elim, fun h => (hp.panic h).elim⟩

/-- An operation that comes to something comes to some frame and world. -/
theorem wp_some {o : Oper} (hp : Plain Q) {K : Act → World → Prop} {a : Act} {w : World} (h : o.wp P a w K Q) :
    ∃ b u w', K (Act.put b o.dst u) w' ∧ b.tmps = a.tmps ∧ b.eval = a.eval := by
  unfold Oper.wp at h
  generalize (execOp a.eval o).run P w = r at h
  cases r with
  | ok n w' =>
    cases n <;> simp only [Oper.upon] at h
    case value u => exact ⟨a, u, _, h, rfl, rfl⟩
    case skip => exact ⟨a, _, _, h, rfl, rfl⟩
    case defer q => exact ⟨_, _, _, h, rfl, rfl⟩
    case enter f args =>
      obtain ⟨e, w'', fr, hr, _⟩ := h []
      cases e with
      | returned u => exact ⟨a, u, _, hr, rfl, rfl⟩
      | panicked c => exact (hp.panic hr).elim
      | outgrown => exact (hp.out hr).elim
    case row r args =>
      obtain ⟨u, w'', hr, _⟩ := h default []
      exact ⟨a, u, _, hr, rfl, rfl⟩
  | halt x w' =>
    cases x <;> simp only [Oper.upon] at h
    case panic u => exact (hp.panic h).elim

theorem wp_value {o : Oper} {a : Act} {w : World} {v : Value} {K : Act → World → Prop} (e : (execOp a.eval o).run P w = .ok (.value v) w) : o.wp P a w K Q ↔ K (a.put o.dst v) w := by
  unfold Oper.wp; rw [e]; rfl

theorem wanted_of {o : Oper} {a b : Act} {d : Option Tmp} {v : Value} (hb : b.tmps = a.tmps) (h : ∀ t, d = some t → t ∉ o.looksAt ops) :
    Region.wanted o (yielded ops (b.put d v).tmps) = Region.wanted o (yielded ops a.tmps) := by
  rw [wanted_put o b d v h, hb]

/-- Two operations that don't touch each other may change places. -/
theorem opS_swap {kind : Oper → Nat} {i j : Nat} {oi oj : Oper} (hi : ops[i]? = some oi) (hj : ops[j]? = some oj) (hp : Plain Q)
    (hsi : ∀ cs b, oi.op ≠ .select cs b) (hsj : ∀ cs b, oj.op ≠ .select cs b) (hap : oi.apart ops oj = true)
    (hk : kind oi = 0 ∨ kind oj = 0 ∨ (kind oi ≤ 1 ∧ kind oj ≤ 1)) {K : Act → World → Prop} {a : Act} {w : World}
    (h : opS P kind ops Q i (opS P kind ops Q j K) a w) : opS P kind ops Q j (opS P kind ops Q i K) a w := by
  obtain ⟨h1, h2, h3⟩ := Oper.apart_spec hap
  have h2' : ∀ d, oj.dst = some d → oi.dst ≠ some d := fun d hd he => h2 d he hd
  have gi : ∀ b : Act, ∀ u w, Good P (kind oi) oi (b.put oj.dst u) w ↔ Good P (kind oi) oi b w := fun b u w => by
    unfold Good; rw [execOp_put (ops := ops) oi hsi b oj.dst u h3]
  have gj : ∀ b : Act, ∀ u w, Good P (kind oj) oj (b.put oi.dst u) w ↔ Good P (kind oj) oj b w := fun b u w => by
    unfold Good; rw [execOp_put (ops := ops) oj hsj b oi.dst u h1]
  have wi : ∀ b : Act, ∀ u, Region.wanted oi (yielded ops (b.put oj.dst u).tmps) = Region.wanted oi (yielded ops b.tmps) := fun b u => wanted_put oi b oj.dst u h3
  have wj : ∀ b : Act, ∀ u, Region.wanted oj (yielded ops (b.put oi.dst u).tmps) = Region.wanted oj (yielded ops b.tmps) := fun b u => wanted_put oj b oi.dst u h1
  have pc : ∀ (b : Act) (u v : Value), (b.put oi.dst u).put oj.dst v = (b.put oj.dst v).put oi.dst u := fun b u v => Act.put_comm b u v h2
  -- j behind i's slot
  have jput : ∀ (K : Act → World → Prop) (b : Act) (u : Value) (w : World), opS P kind ops Q j K (b.put oi.dst u) w ↔ opS P kind ops Q j (fun a' w' => K (a'.put oi.dst u) w') b w := fun K b u w => by
    unfold opS; simp only [hj, wj, gj, wp_put (ops := ops) hp hsj h1 h2]
    rw [pc]
  have iput : ∀ (K : Act → World → Prop) (b : Act) (u : Value) (w : World), opS P kind ops Q i K (b.put oj.dst u) w ↔ opS P kind ops Q i (fun a' w' => K (a'.put oj.dst u) w') b w := fun K b u w => by
    unfold opS; simp only [hi, wi, gi, wp_put (ops := ops) hp hsi h3 h2']
    rw [← pc]
  -- what i comes to at b, i being looked at behind j
  have iskip : ∀ (b : Act) (w : World), Region.wanted oi (yielded ops b.tmps) = false → opS P kind ops Q i K b w = K (b.put oi.dst undef) w := fun b w hb => by
    unfold opS; simp only [hi, hb, Bool.false_eq_true, if_false]
  have jskip : ∀ (K : Act → World → Prop) (b : Act) (w : World), Region.wanted oj (yielded ops b.tmps) = false → opS P kind ops Q j K b w = K (b.put oj.dst undef) w := fun K b w hb => by
    unfold opS; simp only [hj, hb, Bool.false_eq_true, if_false]
  have ival : ∀ (K : Act → World → Prop) (b : Act) (w : World) (v : Value), Region.wanted oi (yielded ops b.tmps) = true → (execOp b.eval oi).run P w = .ok (.value v) w → (opS P kind ops Q i K b w ↔ Good P (kind oi) oi b w ∧ K (b.put oi.dst v) w) := fun K b w v hb he => by
    unfold opS; simp only [hi, hb, if_true, wp_value he]
  have jval : ∀ (K : Act → World → Prop) (b : Act) (w : World) (v : Value), Region.wanted oj (yielded ops b.tmps) = true → (execOp b.eval oj).run P w = .ok (.value v) w → (opS P kind ops Q j K b w ↔ Good P (kind oj) oj b w ∧ K (b.put oj.dst v) w) := fun K b w v hb he => by
    unfold opS; simp only [hj, hb, if_true, wp_value he]
  -- whatever j comes to, i's slot, guard and operands are as they were
  have jkeep : ∀ (K K' : Act → World → Prop) (b : Act) (w : World), (∀ u w', K (b.put oj.dst u) w' → K' (b.put oj.dst u) w') → (∀ d u w', K (({ b with defers := d :: b.defers } : Act).put oj.dst u) w' → K' (({ b with defers := d :: b.defers } : Act).put oj.dst u) w') →
      opS P kind ops Q j K b w → opS P kind ops Q j K' b w := fun K K' b w hK hD hh => by
    unfold opS at *
    simp only [hj] at *
    split
    · rename_i hw
      simp only [hw, if_true] at hh
      refine ⟨hh.1, ?_⟩
      have h2 := hh.2
      unfold Oper.wp at *
      generalize (execOp b.eval oj).run P w = r at *
      cases r with
      | ok n w' =>
        cases n <;> simp only [Oper.upon] at h2 ⊢
        case value u => exact hK _ _ h2
        case skip => exact hK _ _ h2
        case defer q => exact hD _ _ _ h2
        case enter f args =>
          refine Calls.mono h2 fun e w'' he => ?_
          cases e with
          | returned u => exact hK _ _ he
          | panicked c => exact he
          | outgrown => exact he
        case row r args => exact Rows.mono h2 fun u w'' he => hK _ _ he
      | halt x w' =>
        cases x <;> simp only [Oper.upon] at h2 ⊢
        case panic u => exact h2
    · rename_i hw
      simp only [hw] at hh
      exact hK _ _ hh
  by_cases hwi : Region.wanted oi (yielded ops a.tmps) = true
  case neg =>
    have hwi' : Region.wanted oi (yielded ops a.tmps) = false := by simpa using hwi
    rw [show opS P kind ops Q i (opS P kind ops Q j K) a w = opS P kind ops Q j K (a.put oi.dst undef) w from by unfold opS; simp only [hi, hwi', Bool.false_eq_true, if_false]] at h
    rw [jput] at h
    refine jkeep _ _ a w (fun u w' hh => ?_) (fun d u w' hh => ?_) h
    · rw [iskip _ _ (by rw [wi]; exact hwi')]; exact hh
    · rw [iskip _ _ (by rw [wi]; exact hwi')]; exact hh
  case pos =>
    have hgw : Good P (kind oi) oi a w ∧ oi.wp P a w (opS P kind ops Q j K) Q := by unfold opS at h; simp only [hi, hwi, if_true] at h; exact h
    obtain ⟨hg, hw⟩ := hgw
    by_cases hi0 : kind oi = 0
    · -- i yields one value in every world
      obtain ⟨v, hv⟩ : ∃ v, ∀ w', (execOp a.eval oi).run P w' = .ok (.value v) w' := by rw [hi0] at hg; exact hg
      have hj1 : opS P kind ops Q j K (a.put oi.dst v) w := ((ival _ a w v hwi (hv w)).1 h).2
      rw [jput] at hj1
      refine jkeep _ _ a w (fun u w' hh => ?_) (fun d u w' hh => ?_) hj1
      · refine (ival _ _ w' v (by rw [wi]; exact hwi) (by rw [execOp_put (ops := ops) oi hsi a oj.dst u h3]; exact hv w')).2 ⟨?_, hh⟩
        rw [gi, hi0]; exact ⟨v, hv⟩
      · refine (ival _ _ w' v (by rw [wi]; exact hwi) (by rw [execOp_put (ops := ops) oi hsi _ oj.dst u h3]; exact hv w')).2 ⟨?_, hh⟩
        rw [gi, hi0]; exact ⟨v, hv⟩
    · by_cases hwj : Region.wanted oj (yielded ops a.tmps) = true
      case neg =>
        have hwj' : Region.wanted oj (yielded ops a.tmps) = false := by simpa using hwj
        rw [jskip _ _ _ hwj', iput]
        have hwj2 : ∀ (b : Act) u, b.tmps = a.tmps → Region.wanted oj (yielded ops (b.put oi.dst u).tmps) = false := fun b u hb => by rw [wanted_of hb h1]; exact hwj'
        unfold opS at h ⊢
        simp only [hi, hwi, if_true] at h ⊢
        refine ⟨h.1, ?_⟩
        have h2 := h.2
        unfold Oper.wp at *
        generalize (execOp a.eval oi).run P w = r at *
        have fin : ∀ (b : Act) u w', b.tmps = a.tmps → (match ops[j]? with
            | none => K (b.put oi.dst u) w'
            | some o => if Region.wanted o (yielded ops (b.put oi.dst u).tmps) = true then Good P (kind o) o (b.put oi.dst u) w' ∧ o.upon P (b.put oi.dst u) K Q ((execOp (b.put oi.dst u).eval o).run P w') else K ((b.put oi.dst u).put o.dst undef) w') → K ((b.put oi.dst u).put oj.dst undef) w' := fun b u w' hb hh => by
          simp only [hj, hwj2 b u hb, Bool.false_eq_true, if_false] at hh; exact hh
        cases r with
        | ok n w' =>
          cases n <;> simp only [Oper.upon] at h2 ⊢
          case value u => exact fin _ _ _ rfl h2
          case skip => exact fin _ _ _ rfl h2
          case defer q => exact fin _ _ _ rfl h2
          case enter f args =>
            refine Calls.mono h2 fun e w'' he => ?_
            cases e with
            | returned u => exact fin _ _ _ rfl he
            | panicked c => exact he
            | outgrown => exact he
          case row r args => exact Rows.mono h2 fun u w'' he => fin _ _ _ rfl he
        | halt x w' =>
          cases x <;> simp only [Oper.upon] at h2 ⊢
          case panic u => exact h2
      case pos =>
        by_cases hj0 : kind oj = 0
        · -- j yields one value in every world
          obtain ⟨b, u0, w0, hb1, hb2, hb3⟩ := wp_some hp hw
          have hwjb : Region.wanted oj (yielded ops (b.put oi.dst u0).tmps) = true := by rw [wanted_of hb2 h1]; exact hwj
          have hG : Good P (kind oj) oj (b.put oi.dst u0) w0 := by unfold opS at hb1; simp only [hj, hwjb, if_true] at hb1; exact hb1.1
          rw [gj, hj0] at hG
          obtain ⟨v, hv⟩ := hG
          rw [hb3] at hv
          refine (jval _ a w v hwj (hv w)).2 ⟨by rw [hj0]; exact ⟨v, hv⟩, ?_⟩
          rw [iput]
          unfold opS at h ⊢
          simp only [hi, hwi, if_true] at h ⊢
          refine ⟨h.1, ?_⟩
          have h2 := h.2
          have fin : ∀ (b : Act) u w', b.tmps = a.tmps → b.eval = a.eval → opS P kind ops Q j K (b.put oi.dst u) w' → K ((b.put oi.dst u).put oj.dst v) w' := fun b u w' hb he hh =>
            ((jval _ _ w' v (by rw [wanted_of hb h1]; exact hwj) (by rw [execOp_put (ops := ops) oj hsj b oi.dst u h1, he]; exact hv w')).1 hh).2
          change oi.wp P a w (opS P kind ops Q j K) Q at h2
          unfold Oper.wp at *
          generalize (execOp a.eval oi).run P w = r at *
          cases r with
          | ok n w' =>
            cases n <;> simp only [Oper.upon] at h2 ⊢
            case value u => exact fin _ _ _ rfl rfl h2
            case skip => exact fin _ _ _ rfl rfl h2
            case defer q => exact fin _ _ _ rfl rfl h2
            case enter f args =>
              refine Calls.mono h2 fun e w'' he => ?_
              cases e with
              | returned u => exact fin _ _ _ rfl rfl he
              | panicked c => exact he
              | outgrown => exact he
            case row r args => exact Rows.mono h2 fun u w'' he => fin _ _ _ rfl rfl he
          | halt x w' =>
            cases x <;> simp only [Oper.upon] at h2 ⊢
            case panic u => exact h2
        · obtain ⟨hi1, hj1⟩ : kind oi ≤ 1 ∧ kind oj ≤ 1 := by rcases hk with h | h | h <;> first | exact absurd h hi0 | exact absurd h hj0 | exact h
          obtain ⟨v, hv⟩ := hg.one hi1
          have hh := ((ival _ a w v hwi hv).1 h).2
          have hwj2 : Region.wanted oj (yielded ops (a.put oi.dst v).tmps) = true := by rw [wj]; exact hwj
          have hG : Good P (kind oj) oj (a.put oi.dst v) w := by unfold opS at hh; simp only [hj, hwj2, if_true] at hh; exact hh.1
          rw [gj] at hG
          obtain ⟨u, hu⟩ := hG.one hj1
          have hK := ((jval _ _ w u hwj2 (by rw [execOp_put (ops := ops) oj hsj a oi.dst v h1]; exact hu)).1 hh).2
          refine (jval _ a w u hwj hu).2 ⟨hG, ?_⟩
          refine (ival _ _ w v (by rw [wi]; exact hwi) (by rw [execOp_put (ops := ops) oi hsi a oj.dst u h3]; exact hv)).2 ⟨by rw [gi]; exact hg, ?_⟩
          rw [← pc]; exact hK

end

/-! The order of the text serves every order. -/

/-- j waits for i, directly or through others. -/
inductive Anc (ops : Array Oper) : Nat → Nat → Prop
  | one {j i : Nat} {oj : Oper} {e : Edge} : ops[j]? = some oj → e ∈ oj.after → Region.binds .any e = true → e.on = i → Anc ops j i
  | more {j i : Nat} {oj : Oper} {e : Edge} : ops[j]? = some oj → e ∈ oj.after → Region.binds .any e = true → Anc ops e.on i → Anc ops j i

section
variable {P : Program} {ops : Array Oper} {Q : Exit → Act → World → Prop}

def Closed (ops : Array Oper) (listed : Array Bool) : Prop :=
  ∀ j oj, ops[j]? = some oj → listed.getD j false = true → ∀ e ∈ oj.after, Region.binds .any e = true → listed.getD e.on false = true

theorem Closed.anc {listed : Array Bool} (h : Closed ops listed) {j i : Nat} (ha : Anc ops j i) (hj : listed.getD j false = true) : listed.getD i false = true := by
  induction ha with
  | one ho he hb hon => rw [← hon]; exact h _ _ ho hj _ he hb
  | more ho he hb _ ih => exact ih (h _ _ ho hj _ he hb)

theorem ready_anc {listed : Array Bool} (h : Closed ops listed) {j i : Nat} (hj : j ∈ Region.ready .any ops listed) (ha : Anc ops j i) : listed.getD i false = true := by
  obtain ⟨_, oj, ho, hall⟩ := mem_ready.1 hj
  cases ha with
  | one ho' he hb hon => rw [ho] at ho'; cases ho'; rw [← hon]; exact hall _ he hb
  | more ho' he hb hr => rw [ho] at ho'; cases ho'; exact h.anc hr (hall _ he hb)

theorem Closed.set {listed : Array Bool} (h : Closed ops listed) {j : Nat} (hj : j ∈ Region.ready .any ops listed) : Closed ops (listed.setIfInBounds j true) := by
  intro k ok hk hl e he hb
  obtain ⟨_, oj, ho, hall⟩ := mem_ready.1 hj
  by_cases hjk : j = k
  · subst hjk; rw [ho] at hk; cases hk; exact getD_set_true (hall e he hb)
  · rw [getD_set_ne false hjk] at hl; exact getD_set_true (h k ok hk hl e he hb)

def anyS (P : Program) (kind : Oper → Nat) (ops : Array Oper) (Q : Exit → Act → World → Prop) : Nat → Array Bool → Act → World → Prop
  | 0, listed, a, w => Region.ready .any ops listed = [] ∧ Q .normal a w
  | fuel + 1, listed, a, w =>
    (Region.ready .any ops listed = [] → Q .normal a w) ∧
    ∀ i ∈ Region.ready .any ops listed, opS P kind ops Q i (anyS P kind ops Q fuel (listed.setIfInBounds i true)) a w

theorem anyS_any {kind : Oper → Nat} : ∀ (fuel : Nat) (listed : Array Bool) (a : Act) (w : World), anyS P kind ops Q fuel listed a w → wpAny P .any ops Q fuel listed a w
  | 0, _, _, _, h => h
  | f + 1, _, _, _, h => ⟨h.1, fun i hi => wpOp_mono (fun a w h' => anyS_any f _ a w h') (opS_wpOp (h.2 i hi))⟩

theorem getD_get {listed : Array Bool} {i : Nat} (h : listed.getD i true = false) : listed.getD i false = false := by
  rcases Nat.lt_or_ge i listed.size with h' | h'
  · simp [h'] at h ⊢; exact h
  · simp [Array.getElem?_eq_none h'] at h

/-- i may come up now, and those that have not come up yet wait for it or don't touch it: it may be taken first. -/
theorem first {kind : Oper → Nat} {i : Nat} {oi : Oper} (hi : ops[i]? = some oi) (hp : Plain Q) (hsel : ∀ (j : Nat) (o : Oper) cs b, ops[j]? = some o → o.op ≠ .select cs b) :
    ∀ (fuel : Nat) (listed : Array Bool) (a : Act) (w : World), Closed ops listed →
      (∀ j oj, ops[j]? = some oj → j ≠ i → listed.getD j true = false → ¬ Anc ops j i → oi.apart ops oj = true ∧ (kind oi = 0 ∨ kind oj = 0 ∨ (kind oi ≤ 1 ∧ kind oj ≤ 1))) →
      i ∈ Region.ready .any ops listed → opS P kind ops Q i (anyS P kind ops Q fuel (listed.setIfInBounds i true)) a w → anyS P kind ops Q (fuel + 1) listed a w := by
  intro fuel
  induction fuel with
  | zero =>
    intro listed a w hc hfree hr H
    refine ⟨fun h => (by rw [h] at hr; cases hr), fun j hj => ?_⟩
    by_cases hji : j = i
    · subst hji; exact H
    · exfalso
      have hun := (mem_ready.1 hr).1
      have hjr : ∀ a w, ¬ anyS P kind ops Q 0 (listed.setIfInBounds i true) a w := fun a w h => by
        have := ready_mono hj hji
        rw [h.1] at this; cases this
      unfold opS at H
      simp only [hi] at H
      split at H
      · obtain ⟨b, u, w', hk, _⟩ := wp_some hp H.2
        exact hjr _ _ hk
      · exact hjr _ _ H
  | succ f ih =>
    intro listed a w hc hfree hr H
    have hun := (mem_ready.1 hr).1
    refine ⟨fun h => (by rw [h] at hr; cases hr), fun j hj => ?_⟩
    by_cases hji : j = i
    · subst hji; exact H
    · obtain ⟨hjun, oj, hoj, _⟩ := mem_ready.1 hj
      have hno : ¬ Anc ops j i := fun ha => by
        have h1 := ready_anc hc hj ha
        rw [getD_get hun] at h1; cases h1
      obtain ⟨hap, hk⟩ := hfree j oj hoj hji hjun hno
      have H1 : opS P kind ops Q i (opS P kind ops Q j (anyS P kind ops Q f ((listed.setIfInBounds i true).setIfInBounds j true))) a w :=
        opS_mono (fun a w h => h.2 j (ready_mono hj hji)) H
      have H2 := opS_swap hi hoj hp (fun cs b => hsel i oi cs b hi) (fun cs b => hsel j oj cs b hoj) hap hk H1
      refine opS_mono (fun a' w' h' => ih (listed.setIfInBounds j true) a' w' (hc.set hj) ?_ (ready_mono hr (Ne.symm hji)) ?_) H2
      · intro k ok hk hki hun2 hno2
        refine hfree k ok hk hki ?_ hno2
        by_cases hjk : j = k
        · subst hjk; exact hjun
        · rw [getD_set_ne true hjk] at hun2; exact hun2
      · rw [Array.setIfInBounds_comm _ _ hji]; exact h'

/-- The walk in the order of the text. -/
def lexS (P : Program) (kind : Oper → Nat) (ops : Array Oper) (Q : Exit → Act → World → Prop) : List Oper → Nat → Act → World → Prop
  | [], _, a, w => Q .normal a w
  | _ :: rest, k, a, w => opS P kind ops Q k (lexS P kind ops Q rest (k + 1)) a w

/-- What the kernel looks at: no select; each edge leads back; what no edge orders does not touch. -/
structure Fine (kind : Oper → Nat) (ops : Array Oper) : Prop where
  sel : ∀ (j : Nat) (o : Oper) cs b, ops[j]? = some o → o.op ≠ .select cs b
  back : ∀ (j : Nat) (o : Oper), ops[j]? = some o → ∀ e ∈ o.after, Region.binds .any e = true → e.on < j
  free : ∀ (i j : Nat) (oi oj : Oper), i < j → ops[i]? = some oi → ops[j]? = some oj → ¬ Anc ops j i → oi.apart ops oj = true ∧ (kind oi = 0 ∨ kind oj = 0 ∨ (kind oi ≤ 1 ∧ kind oj ≤ 1))

theorem any_of_lex {kind : Oper → Nat} (hp : Plain Q) (hf : Fine kind ops) : ∀ (l : List Oper) (k : Nat) (listed : Array Bool) (a : Act) (w : World), (∀ j, l[j]? = ops[k + j]?) →
    listed.size = ops.size → (∀ j, j < k → listed.getD j false = true) → (∀ j, k ≤ j → j < ops.size → listed.getD j true = false) →
    lexS P kind ops Q l k a w → anyS P kind ops Q l.length listed a w
  | [], k, listed, a, w, hl, hs, h1, h2, h => by
    refine ⟨?_, h⟩
    refine List.eq_nil_iff_forall_not_mem.2 fun j hj => ?_
    obtain ⟨hun, oj, hoj, _⟩ := mem_ready.1 hj
    have hjs : j < ops.size := (Array.getElem?_eq_some_iff.1 hoj).1
    rcases Nat.lt_or_ge j k with hjk | hjk
    · have := h1 j hjk; rw [getD_get hun] at this; cases this
    · have := hl (j - k)
      rw [show k + (j - k) = j by omega, hoj] at this
      simp at this
  | o :: l, k, listed, a, w, hl, hs, h1, h2, h => by
    have h0 : ops[k]? = some o := by simpa using (hl 0).symm
    have hks : k < ops.size := (Array.getElem?_eq_some_iff.1 h0).1
    have hr : k ∈ Region.ready .any ops listed := mem_ready.2 ⟨h2 k (Nat.le_refl _) hks, o, h0, fun e he hb => h1 _ (hf.back k o h0 e he hb)⟩
    have hc : Closed ops listed := by
      intro j oj hj hlj e he hb
      rcases Nat.lt_or_ge j k with hjk | hjk
      · exact h1 _ (by have := hf.back j oj hj e he hb; omega)
      · have hjs : j < ops.size := (Array.getElem?_eq_some_iff.1 hj).1
        rw [getD_get (h2 j hjk hjs)] at hlj; cases hlj
    refine first h0 hp hf.sel l.length listed a w hc (fun j oj hj hjk hun hno => ?_) hr ?_
    · have hjs : j < ops.size := (Array.getElem?_eq_some_iff.1 hj).1
      rcases Nat.lt_or_ge j k with hlt | hge
      · have := h1 j hlt; rw [getD_get hun] at this; cases this
      · exact hf.free k j o oj (by omega) h0 hj hno
    · refine opS_mono (fun a' w' h' => any_of_lex hp hf l (k + 1) (listed.setIfInBounds k true) a' w' (fun j => by have := hl (j + 1); simpa [Nat.add_assoc, Nat.add_comm 1 j] using this) (by simp [hs]) ?_ ?_ h') h
      · intro j hj
        by_cases hjk : k = j
        · subst hjk; rw [Array.getD_eq_getD_getElem?]; simp [hs, hks]
        · rw [getD_set_ne false hjk]; exact h1 j (by omega)
      · intro j hj hjs
        rw [getD_set_ne true (by omega)]; exact h2 j (by omega) hjs
end

/-! The look. -/

/-- A type whose values hold no pointer, interface and the like: '==' draws nothing. -/
def eqPlain (P : Program) : Nat → TypeId → Bool
  | 0, _ => false
  | d + 1, t => match P.underlying t with
    | some (.int _) | some .bool | some .string => true
    | some (.struct fs) => fs.toList.all fun f => eqPlain P d f.type
    | _ => false

/-- What kind an operation is of: 0: its value hangs on its operands alone (where the operands that 'checks' names are what it says); 1: it reads; 2: anything. -/
def cls (P : Program) (t : TypeId) : Nat :=
  match P.underlying t with
  | some (.int _) => 1
  | some .bool => 2
  | some .string => 3
  | some (.pointer _) => 4
  | some (.slice _) => 5
  | _ => 0

def isNil : Operand → Bool
  | .const (.pointer none) => true
  | _ => false

def isCmp : BinOp → Bool
  | .eql | .neq => true
  | _ => false

/-- The operands of which a shape is asked: 1 a whole number, 2 a bool, 3 a text. -/
def checks (P : Program) (o : Op) : List (Nat × Operand) :=
  match o with
  | .binOp _ t x y _ => if cls P t = 4 then [] else if cls P t = 0 then [(6, x), (6, y)] else [(cls P t, x), (cls P t, y)]
  | .convert s _ x => [(cls P s, x)]
  | .call c => match c.callee with
    | .builtin .min | .builtin .max => (c.args.toList.map fun x => (1, x))
    | _ => []
  | _ => []

def bigField (P : Program) (s : TypeId) (f : Nat) : Bool :=
  match P.underlying s with
  | some (.struct fs) => match fs[f]? with
    | some fd => match P.info? fd.type with
      | some i => i.size != 0
      | none => false
    | none => false
  | _ => false

def bytesT (P : Program) (t : TypeId) : Bool :=
  match P.underlying t with
  | some (.slice e) => match P.underlying e with
    | some (.int .u8) => true
    | _ => false
  | _ => false

def kindOf (P : Program) (o : Oper) : Nat :=
  match o.op with
  | .move _ | .assign _ | .pick _ _ _ | .nilCheck _ | .field _ _ _ | .indexAddr _ _ _ | .index _ _ _ | .extract _ _ | .unOp _ _ _ | .slice _ _ _ _ _ | .makeInterface _ _ | .build _ _ => 0
  | .fieldAddr s _ f => if bigField P s f then 0 else 2
  | .binOp op t x y _ =>
    match cls P t with
    | 1 | 2 | 3 => 0
    | 4 => if isCmp op && (isNil x || isNil y) then 0 else 2
    | 0 => if isCmp op && eqPlain P 6 t && !P.eqGuardType P.depth t then 1 else 2
    | _ => 2
  | .convert s d _ => if cls P s = 1 && cls P d = 1 then 0 else if bytesT P s && cls P d = 3 then 1 else 2
  | .load _ _ => 1
  | .call c => match c.callee with
    | .builtin .len => match c.argTypes[0]? with
      | some t => if cls P t = 3 || cls P t = 5 then 0 else 2
      | none => 2
    | .builtin .min | .builtin .max => 0
    | _ => 2
  | _ => 2

def shapeOk : Nat → Value → Bool
  | 1, .int _ _ => true
  | 2, .bool _ => true
  | 3, .string _ => true
  | 5, .slice _ _ _ => true
  | 6, .agg _ => true
  | _, .tuple _ => true
  | _, _ => false

def operandAt (tmps : Array Value) : Operand → Value
  | .tmp t => tmps.getD t undef
  | .const v => v
  | _ => .pointer none

/-- Behind the region the slots that were looked at still hold what was looked at. -/
def good (P : Program) (l : List Oper) (tmps : Array Value) : Bool := l.all fun o => decide (2 ≤ kindOf P o) || (checks P o.op).all fun c => shapeOk c.1 (operandAt tmps c.2)

def ancStep (rows : List Nat) (o : Oper) : Nat := o.after.toList.foldl (fun m e => if Region.binds .any e then m ||| 2 ^ e.on ||| rows.getD e.on 0 else m) 0
def ancRows : List Oper → List Nat → List Nat
  | [], rows => rows
  | o :: l, rows => ancRows l (rows ++ [ancStep rows o])

def noSel : Op → Bool
  | .select _ _ => false
  | _ => true

/-- No operation from the k-th on writes a slot whose value was looked at. -/
def kept (P : Program) : List Oper → Bool
  | [] => true
  | o :: l => ((checks P o.op).all fun c => match c.2 with | .tmp t => (o :: l).all (fun o' => o'.dst != some t) | .const _ => true | _ => decide (2 ≤ kindOf P o)) && kept P l

def commB (P : Program) (ops : Array Oper) (x y : Oper) : Bool :=
  x.apart ops y && (kindOf P x == 0 || kindOf P y == 0 || (decide (kindOf P x ≤ 1) && decide (kindOf P y ≤ 1)))

def freeB (P : Program) (ops : Array Oper) (rows : List Nat) : Nat → List Oper → Bool
  | _, [] => true
  | i, o :: l => ((List.range l.length).all fun d => (rows.getD (i + 1 + d) 0).testBit i || match l[d]? with | some o' => commB P ops o o' | none => true) && freeB P ops rows (i + 1) l

def okB (P : Program) (l : List Oper) : Bool :=
  l.all (fun o => noSel o.op) && kept P l &&
  ((List.range l.length).all fun j => match l[j]? with | some o => o.after.toList.all (fun e => !Region.binds .any e || decide (e.on < j)) | none => true) &&
  freeB P l.toArray (ancRows l []) 0 l

/-! Each kind is what it says. -/

section
variable {P : Program}

/-- Ends well with a value alone, the world left alone; the same in every world. -/
def BlindV (P : Program) (s : Sem Next) : Prop := ∀ w x w1, s.run P w = .ok x w1 → (∃ v, x = .value v) ∧ w1 = w ∧ ∀ w', s.run P w' = .ok x w'
def ReadsV (P : Program) (s : Sem Next) : Prop := ∀ w x w1, s.run P w = .ok x w1 → (∃ v, x = .value v) ∧ w1 = w

theorem run_v {s : Sem Value} {w w1 : World} {x : Next} (e : (do pure (Next.value (← s)) : Sem Next).run P w = .ok x w1) : ∃ v, x = .value v ∧ s.run P w = .ok v w1 := by
  change Sem.run P (Sem.bind s fun v => pure (Next.value v)) w = _ at e
  rw [Sem.run_bind'] at e
  cases hs : s.run P w with
  | ok v w' =>
    rw [hs] at e
    have e' : Result.ok (Next.value v) w' = .ok x w1 := e
    injection e' with h1 h2
    subst h1; subst h2
    exact ⟨v, rfl, rfl⟩
  | halt q w' => rw [hs] at e; cases e
theorem v_run {s : Sem Value} {w w1 : World} {v : Value} (e : s.run P w = .ok v w1) : (do pure (Next.value (← s)) : Sem Next).run P w = .ok (.value v) w1 := by
  change Sem.run P (Sem.bind s fun v => pure (Next.value v)) w = _
  rw [Sem.run_bind', e]; rfl
theorem blindV_of {s : Sem Value} (h : Blind P s) : BlindV P (do pure (Next.value (← s)) : Sem Next) := fun w x w1 e => by
  obtain ⟨v, rfl, hs⟩ := run_v e
  obtain ⟨rfl, h2⟩ := h _ _ _ hs
  exact ⟨⟨v, rfl⟩, rfl, fun w' => v_run (h2 w')⟩
theorem readsV_of {s : Sem Value} (h : Reads P s) : ReadsV P (do pure (Next.value (← s)) : Sem Next) := fun w x w1 e => by
  obtain ⟨v, rfl, hs⟩ := run_v e
  exact ⟨⟨v, rfl⟩, h _ _ _ hs⟩
theorem blindV_value (v : Value) : BlindV P (pure (Next.value v) : Sem Next) := fun w x w1 e => by
  have e' : Result.ok (Next.value v) w = .ok x w1 := e
  injection e' with h1 h2
  subst h1; subst h2
  exact ⟨⟨v, rfl⟩, rfl, fun _ => rfl⟩
theorem blindV_noOk {s : Sem Next} (h : NoOk P s) : BlindV P s := fun w x w1 e => absurd e (h w x w1)
theorem blindV_bind {α : Type} {s : Sem α} {f : α → Sem Next} (h : Blind P s) (g : ∀ a, BlindV P (f a)) : BlindV P (s >>= f) := fun w x w1 e => by
  change Sem.run P (Sem.bind s f) w = _ at e
  rw [Sem.run_bind'] at e
  cases hs : s.run P w with
  | ok a w' =>
    rw [hs] at e
    obtain ⟨rfl, h2⟩ := h _ _ _ hs
    obtain ⟨hv, rfl, g2⟩ := g a _ _ _ e
    refine ⟨hv, rfl, fun w'' => ?_⟩
    change Sem.run P (Sem.bind s f) w'' = _
    rw [Sem.run_bind', h2 w'']
    exact g2 w''
  | halt q w' => rw [hs] at e; cases e
theorem blind_underlying_bind {α : Type} {t : TypeId} {f : TypeDesc → Sem α} (h : ∀ d, P.underlying t = some d → Blind P (f d)) : Blind P (underlying t >>= f) := fun w x w1 e => by
  cases hd : P.underlying t with
  | some d =>
    have hu : ∀ w, (underlying t).run P w = .ok d w := fun w => by
      unfold underlying
      change Sem.run P (Sem.bind program _) w = _
      rw [Sem.run_bind']
      change (Result.ok P w).andThen _ = _
      simp only [Result.andThen_ok, hd]
      rfl
    have hr : ∀ w, Sem.run P (underlying t >>= f) w = (f d).run P w := fun w => by
      change Sem.run P (Sem.bind (underlying t) f) w = _
      rw [Sem.run_bind', hu]; rfl
    rw [hr] at e
    obtain ⟨rfl, h2⟩ := h d hd _ _ _ e
    exact ⟨rfl, fun w' => by rw [hr]; exact h2 w'⟩
  | none =>
    exfalso
    change Sem.run P (Sem.bind (underlying t) f) w = _ at e
    rw [Sem.run_bind'] at e
    have hu : (underlying t).run P w = .halt (.stuck "no such type") w := by
      unfold underlying
      change Sem.run P (Sem.bind program _) w = _
      rw [Sem.run_bind']
      change (Result.ok P w).andThen _ = _
      simp only [Result.andThen_ok, hd]
      rfl
    rw [hu] at e; cases e
theorem reads_underlying_bind {α : Type} {t : TypeId} {f : TypeDesc → Sem α} (h : ∀ d, P.underlying t = some d → Reads P (f d)) : Reads P (underlying t >>= f) := fun w x w1 e => by
  change Sem.run P (Sem.bind (underlying t) f) w = _ at e
  rw [Sem.run_bind'] at e
  cases hd : P.underlying t with
  | some d =>
    have hu : (underlying t).run P w = .ok d w := by
      unfold underlying
      change Sem.run P (Sem.bind program _) w = _
      rw [Sem.run_bind']
      change (Result.ok P w).andThen _ = _
      simp only [Result.andThen_ok, hd]
      rfl
    rw [hu] at e; exact h d hd _ _ _ e
  | none =>
    have hu : (underlying t).run P w = .halt (.stuck "no such type") w := by
      unfold underlying
      change Sem.run P (Sem.bind program _) w = _
      rw [Sem.run_bind']
      change (Result.ok P w).andThen _ = _
      simp only [Result.andThen_ok, hd]
      rfl
    rw [hu] at e; cases e

theorem blind_equalIn_bool (d : Nat) (t : TypeId) (a b : Bool) : Blind P (Op.equalIn d t (.bool a) (.bool b)) := by
  cases d with
  | zero => unfold Op.equalIn; exact (noOk_unsupported _).blind
  | succ d =>
    unfold Op.equalIn
    refine blind_bind (blind_underlying _) fun d => ?_
    split <;> first | exact blind_pure _ | exact (noOk_stuck _).blind | exact (noOk_unsupported _).blind | contradiction
theorem blind_equalIn_tuple_l (d : Nat) (t : TypeId) (a : Array Value) (y : Value) : Blind P (Op.equalIn d t (.tuple a) y) := by
  cases d with
  | zero => unfold Op.equalIn; exact (noOk_unsupported _).blind
  | succ d =>
    unfold Op.equalIn
    refine blind_bind (blind_underlying _) fun d => ?_
    split <;> first | exact blind_pure _ | exact (noOk_stuck _).blind | exact (noOk_unsupported _).blind | contradiction
theorem blind_equalIn_tuple_r (d : Nat) (t : TypeId) (a : Array Value) (y : Value) : Blind P (Op.equalIn d t y (.tuple a)) := by
  cases d with
  | zero => unfold Op.equalIn; exact (noOk_unsupported _).blind
  | succ d =>
    unfold Op.equalIn
    refine blind_bind (blind_underlying _) fun d => ?_
    split <;> first | exact blind_pure _ | exact (noOk_stuck _).blind | exact (noOk_unsupported _).blind | contradiction
theorem blind_equalIn_nil_r (d : Nat) (t : TypeId) (y : Value) : Blind P (Op.equalIn d t y (.pointer none)) := by
  cases d with
  | zero => unfold Op.equalIn; exact (noOk_unsupported _).blind
  | succ d =>
    unfold Op.equalIn
    refine blind_bind (blind_underlying _) fun d => ?_
    split <;> first | exact blind_pure _ | exact (noOk_stuck _).blind | exact (noOk_unsupported _).blind | (exfalso; simp_all; done) | (unfold samePointer; split <;> first | exact blind_pure _ | (exfalso; simp_all; done))
theorem blind_equalIn_nil_l (d : Nat) (t : TypeId) (y : Value) : Blind P (Op.equalIn d t (.pointer none) y) := by
  cases d with
  | zero => unfold Op.equalIn; exact (noOk_unsupported _).blind
  | succ d =>
    unfold Op.equalIn
    refine blind_bind (blind_underlying _) fun d => ?_
    split <;> first | exact blind_pure _ | exact (noOk_stuck _).blind | exact (noOk_unsupported _).blind | (exfalso; simp_all; done) | (unfold samePointer; split <;> first | exact blind_pure _ | (exfalso; simp_all; done))

/-- What the look lets by as operands of an operator of class c. -/
inductive Shaped : Nat → Value → Prop
  | int (k n) : Shaped 1 (.int k n)
  | bool (b) : Shaped 2 (.bool b)
  | str (s) : Shaped 3 (.string s)
  | slice (a n c) : Shaped 5 (.slice a n c)
  | agg (c) : Shaped 6 (.agg c)
  | none (c a) : Shaped c (.tuple a)

theorem Shaped.not_nilIface {c : Nat} {v : Value} (h : Shaped c v) : v ≠ .nilIface := by intro e; subst e; cases h
theorem Shaped.not_agg {c : Nat} {v : Value} (h : Shaped c v) (hc : c = 1 ∨ c = 2 ∨ c = 3) : ∀ l, v ≠ .agg l := by
  intro l e; subst e; cases h; omega
theorem shaped_of {c : Nat} {v : Value} (h : shapeOk c v = true) : Shaped c v := by
  unfold shapeOk at h
  split at h
  · exact .int _ _
  · exact .bool _
  · exact .str _
  · exact .slice _ _ _
  · exact .agg _
  · exact .none _ _
  · cases h

theorem blind_binOp_shaped {c : Nat} {x y : Value} (hx : Shaped c x) (hy : Shaped c y) (hc : c = 1 ∨ c = 2 ∨ c = 3) (op : BinOp) (t : TypeId) : Blind P (Go.binOp op t x y) := by
  have eq : ∀ x y, Blind P (Op.equal t x y) → Blind P (do pure (.bool (← Op.equal t x y)) : Sem Value) := fun x y h => blind_bind h fun _ => blind_pure _
  have ne : ∀ x y, Blind P (Op.equal t x y) → Blind P (do pure (.bool (!(← Op.equal t x y))) : Sem Value) := fun x y h => blind_bind h fun _ => blind_pure _
  have l : ∀ a y, Blind P (Op.equal t (.tuple a) y) := fun a y => blind_equalIn_tuple_l _ _ _ _
  have r : ∀ a y, Blind P (Op.equal t y (.tuple a)) := fun a y => blind_equalIn_tuple_r _ _ _ _
  have b : ∀ a y, Blind P (Op.equal t (.bool a) (.bool y)) := fun a y => blind_equalIn_bool _ _ _ _
  cases hx with
  | int k n => cases hy with
    | int k' n' => exact blind_binOp_int _ _ _ _ _ _
    | none c a => cases op <;> (unfold Go.binOp; first | exact eq _ _ (r _ _) | exact ne _ _ (r _ _) | exact (noOk_stuck _).blind)
  | bool v => cases hy with
    | bool v' => cases op <;> (unfold Go.binOp; first | exact eq _ _ (b _ _) | exact ne _ _ (b _ _) | exact (noOk_stuck _).blind)
    | none c a => cases op <;> (unfold Go.binOp; first | exact eq _ _ (r _ _) | exact ne _ _ (r _ _) | exact (noOk_stuck _).blind)
  | str s => cases hy with
    | str s' => cases op <;> (unfold Go.binOp; exact blind_stringOp _ _ _)
    | none c a => cases op <;> (unfold Go.binOp; first | exact eq _ _ (r _ _) | exact ne _ _ (r _ _) | exact (noOk_stuck _).blind)
  | slice a n m => rcases hc with h | h | h <;> cases h
  | agg c => rcases hc with h | h | h <;> cases h
  | none c a => cases hy <;> cases op <;> (unfold Go.binOp; first | exact eq _ _ (l _ _) | exact ne _ _ (l _ _) | exact (noOk_stuck _).blind)

theorem blind_eqGuard_r {op : BinOp} {t : TypeId} {x y : Operand} {a b : Value} (h : b ≠ .nilIface) (h2 : ∀ c, b ≠ .agg c) : Blind P (eqGuard op t x y a b) := by
  unfold eqGuard
  split
  all_goals (repeat' (first | exact blind_pure _ | (exfalso; simp_all; done) | split))
theorem blind_eqGuard_l {op : BinOp} {t : TypeId} {x y : Operand} {a b : Value} (h : a ≠ .nilIface) (h2 : ∀ c, a ≠ .agg c) : Blind P (eqGuard op t x y a b) := by
  unfold eqGuard
  split
  all_goals (repeat' (first | exact blind_pure _ | (exfalso; simp_all; done) | split))
theorem blind_binOp_nil_r {op : BinOp} (ho : isCmp op = true) (t : TypeId) (x : Value) : Blind P (Go.binOp op t x (.pointer none)) := by
  have e : Blind P (Op.equal t x (.pointer none)) := blind_equalIn_nil_r _ _ _
  cases op <;> first | (cases ho; done) | skip
  · unfold Go.binOp; cases x <;> exact blind_bind e fun _ => blind_pure _
  · unfold Go.binOp; cases x <;> exact blind_bind e fun _ => blind_pure _
theorem blind_binOp_nil_l {op : BinOp} (ho : isCmp op = true) (t : TypeId) (x : Value) : Blind P (Go.binOp op t (.pointer none) x) := by
  have e : Blind P (Op.equal t (.pointer none) x) := blind_equalIn_nil_l _ _ _
  cases op <;> first | (cases ho; done) | skip
  · unfold Go.binOp; cases x <;> exact blind_bind e fun _ => blind_pure _
  · unfold Go.binOp; cases x <;> exact blind_bind e fun _ => blind_pure _

theorem blind_minFold : ∀ (l : List Value) (x : Value), Shaped 1 x → (∀ y ∈ l, Shaped 1 y) → Blind P (l.foldlM Builtin.min2 x)
  | [], x, _, _ => blind_pure _
  | y :: l, x, hx, hl => by
    have hl' : ∀ y ∈ l, Shaped 1 y := fun y hy => hl y (List.mem_cons_of_mem _ hy)
    have hy := hl y (by simp)
    rw [List.foldlM_cons]
    cases hx with
    | int k n => cases hy with
      | int k' n' =>
        show Blind P (l.foldlM Builtin.min2 (.int k (if n' < n then n' else n)))
        exact blind_minFold l _ (.int _ _) hl'
      | none c a => exact (noOk_left (by unfold Builtin.min2; exact noOk_stuck _)).blind
    | none c a => cases hy <;> exact (noOk_left (by unfold Builtin.min2; exact noOk_stuck _)).blind
theorem blind_maxFold : ∀ (l : List Value) (x : Value), Shaped 1 x → (∀ y ∈ l, Shaped 1 y) → Blind P (l.foldlM Builtin.max2 x)
  | [], x, _, _ => blind_pure _
  | y :: l, x, hx, hl => by
    have hl' : ∀ y ∈ l, Shaped 1 y := fun y hy => hl y (List.mem_cons_of_mem _ hy)
    have hy := hl y (by simp)
    rw [List.foldlM_cons]
    cases hx with
    | int k n => cases hy with
      | int k' n' =>
        show Blind P (l.foldlM Builtin.max2 (.int k (if n' > n then n' else n)))
        exact blind_maxFold l _ (.int _ _) hl'
      | none c a => exact (noOk_left (by unfold Builtin.max2; exact noOk_stuck _)).blind
    | none c a => cases hy <;> exact (noOk_left (by unfold Builtin.max2; exact noOk_stuck _)).blind
theorem blind_min (ts : Array TypeId) (t : TypeId) (args : Array Value) (h : ∀ y ∈ args.toList, Shaped 1 y) : Blind P (Builtin.min_ ts t args) := by
  unfold Builtin.min_
  split
  · exact (noOk_stuck _).blind
  · rename_i x rest e
    rw [e] at h
    exact blind_minFold rest x (h x (by simp)) (fun y hy => h y (List.mem_cons_of_mem _ hy))
theorem blind_max (ts : Array TypeId) (t : TypeId) (args : Array Value) (h : ∀ y ∈ args.toList, Shaped 1 y) : Blind P (Builtin.max_ ts t args) := by
  unfold Builtin.max_
  split
  · exact (noOk_stuck _).blind
  · rename_i x rest e
    rw [e] at h
    exact blind_maxFold rest x (h x (by simp)) (fun y hy => h y (List.mem_cons_of_mem _ hy))
theorem blind_len (ts : Array TypeId) (t : TypeId) (args : Array Value) {t0 : TypeId} (h0 : ts[0]? = some t0) (h : cls P t0 = 3 ∨ cls P t0 = 5) : Blind P (Builtin.len_ ts t args) := by
  unfold Builtin.len_
  simp only [h0]
  cases ha : args[0]? with
  | none => exact (noOk_stuck _).blind
  | some x =>
    refine blind_underlying_bind fun d hd => ?_
    unfold cls at h
    rw [hd] at h
    split <;> first | exact blind_pure _ | exact (noOk_stuck _).blind | (exfalso; simp_all; done)
theorem cls1 {t : TypeId} (h : cls P t = 1) : ∃ k, P.underlying t = some (.int k) := by
  unfold cls at h; split at h <;> first | (cases h; done) | exact ⟨_, by assumption⟩
theorem cls3 {t : TypeId} (h : cls P t = 3) : P.underlying t = some .string := by
  unfold cls at h; split at h <;> first | (cases h; done) | assumption
theorem bytesT_of {t : TypeId} (h : bytesT P t = true) : ∃ e, P.underlying t = some (.slice e) ∧ P.underlying e = some (.int .u8) := by
  unfold bytesT at h
  split at h
  · split at h
    · exact ⟨_, by assumption, by assumption⟩
    · cases h
  · cases h
theorem blind_convert {s d : TypeId} {x : Value} (hs : cls P s = 1) (hd : cls P d = 1) (hx : Shaped 1 x) : Blind P (Go.convert s d x) := by
  obtain ⟨k1, hs⟩ := cls1 hs
  obtain ⟨k2, hd⟩ := cls1 hd
  unfold Go.convert
  refine blind_underlying_bind fun a ha => blind_underlying_bind fun b hb => ?_
  rw [hs] at ha; rw [hd] at hb
  cases ha; cases hb
  cases hx with
  | int k n => exact blind_pure _
  | none c l => exact (noOk_unsupported _).blind
theorem reads_loadCellsFrom (a : Addr) : ∀ (n i : Nat) (acc : Array Value), Reads P (loadCellsFrom a i n acc)
  | 0, i, acc => by unfold loadCellsFrom; exact reads_pure _
  | n + 1, i, acc => by unfold loadCellsFrom; exact reads_bind (reads_load _) fun _ => reads_loadCellsFrom a n _ _
theorem reads_loadAt (t : TypeId) (v : Value) : Reads P (Instr.loadAt t v) := by
  unfold Instr.loadAt
  refine reads_bind (blind_sureAddr _).reads fun a => ?_
  unfold loadVar
  refine reads_bind (blind_isAgg _).reads fun b => ?_
  split
  · refine reads_bind (blind_sizeOf _).reads fun n => ?_
    refine reads_bind ?_ fun _ => reads_pure _
    unfold loadCells; exact reads_loadCellsFrom _ _ _ _
  · exact reads_load _
theorem reads_forIn {α β : Type} (f : α → β → Sem (ForInStep β)) (h : ∀ a b, Reads P (f a b)) : ∀ (l : List α) (b : β), Reads P (forIn l b f)
  | [], b => by rw [List.forIn_nil]; exact reads_pure _
  | a :: l, b => by
    rw [List.forIn_cons]
    refine reads_bind (h _ _) fun r => ?_
    split
    · exact reads_pure _
    · exact reads_forIn f h l _
theorem reads_forIn_mem {α β : Type} (f : α → β → Sem (ForInStep β)) : ∀ (l : List α) (h : ∀ a ∈ l, ∀ b, Reads P (f a b)) (b : β), Reads P (forIn l b f)
  | [], _, b => by rw [List.forIn_nil]; exact reads_pure _
  | a :: l, h, b => by
    rw [List.forIn_cons]
    refine reads_bind (h _ (by simp) _) fun r => ?_
    split
    · exact reads_pure _
    · exact reads_forIn_mem f l (fun a ha => h a (List.mem_cons_of_mem _ ha)) _
theorem reads_bytesToString (x : Value) : Reads P (Conv.bytesToString x) := by
  unfold Conv.bytesToString
  split
  · exact reads_pure _
  · dsimp only
    refine reads_bind (by unfold loadCells; exact reads_loadCellsFrom _ _ _ _) fun cs => ?_
    refine reads_bind ?_ fun _ => reads_pure _
    rw [← Array.forIn_toList]
    refine reads_forIn _ (fun c s => ?_) _ _
    split
    · exact reads_bind (reads_pure _) fun _ => reads_pure _
    · exact reads_bind (noOk_stuck _).blind.reads fun _ => reads_pure _
  · exact (noOk_stuck _).blind.reads
theorem reads_convert {s d : TypeId} {x : Value} (hs : bytesT P s = true) (hd : cls P d = 3) (hx : Shaped 5 x) : Reads P (Go.convert s d x) := by
  obtain ⟨e, hs, he⟩ := bytesT_of hs
  have hd := cls3 hd
  unfold Go.convert
  refine reads_underlying_bind fun a ha => reads_underlying_bind fun b hb => ?_
  rw [hs] at ha; rw [hd] at hb
  cases ha; cases hb
  cases hx with
  | slice k n c =>
    refine reads_underlying_bind fun e' he' => ?_
    rw [he] at he'; cases he'
    exact reads_bytesToString _
  | none c l =>
    refine reads_underlying_bind fun e' he' => ?_
    rw [he] at he'; cases he'
    exact reads_bytesToString _
theorem reads_numberAt (r : Nat) : Reads P (numberAt r) := by
  unfold numberAt
  refine reads_bind (reads_shape _) fun s => ?_
  split
  · exact reads_pure _
  · refine reads_bind (reads_getObj _) fun o => ?_
    split <;> exact reads_pure _
theorem reads_behindNumber (a : Addr) : Reads P (behindNumber a) := by
  unfold behindNumber; exact reads_bind (reads_numberAt _) fun _ => reads_pure _
theorem reads_viewAt (r : Nat) : Reads P (viewAt r) := by
  unfold viewAt
  refine reads_bind (reads_shape _) fun s => ?_
  split
  · exact reads_pure _
  · refine reads_bind (reads_getObj _) fun o => ?_
    split <;> exact reads_pure _
theorem reads_noView (a : Addr) : Reads P (noView a) := by
  unfold noView
  refine reads_bind (reads_viewAt _) fun o => ?_
  split
  · exact (noOk_unsupported _).blind.reads
  · exact reads_pure _
theorem reads_byteOf (a : Addr) : Reads P (byteOf a) := by
  unfold byteOf
  repeat' (first | exact reads_pure _ | exact (noOk_stuck _).blind.reads | exact reads_noView _ | exact reads_shape _ | exact blind_program.reads | refine reads_bind ?_ (fun _ => ?_) | split | dsimp only)
theorem reads_equalIn : ∀ (d n : Nat) (t : TypeId) (x y : Value), eqPlain P n t = true → Reads P (Op.equalIn d t x y)
  | 0, n, t, x, y, _ => by unfold Op.equalIn; exact (noOk_unsupported _).blind.reads
  | d + 1, 0, t, x, y, h => by unfold eqPlain at h; cases h
  | d + 1, n + 1, t, x, y, h => by
    have ih := fun t x y h => reads_equalIn d n t x y h
    unfold eqPlain at h
    unfold Op.equalIn
    refine reads_underlying_bind fun u hu => ?_
    rw [hu] at h
    split at h
    case h_5 => cases h
    case h_4 fs he =>
      cases he
      split <;> first | exact reads_pure _ | exact (noOk_stuck _).blind.reads | exact (noOk_unsupported _).blind.reads | (exfalso; simp_all; done) | skip
      rename_i fields xs ys heq
      cases heq
      repeat' (first | exact reads_pure _ | exact (noOk_unsupported _).blind.reads | exact blind_program.reads | exact (blind_part _ _ _).reads | exact ih _ _ _ (List.all_eq_true.1 h _ (by assumption)) |
        (rw [← Array.forIn_toList]; refine reads_forIn_mem _ _ (fun f hf b => ?_) _) | refine reads_bind ?_ (fun _ => ?_) | split | dsimp only)
    all_goals
      rename_i he
      cases he
      split <;> first | exact reads_pure _ | exact (noOk_stuck _).blind.reads | exact (noOk_unsupported _).blind.reads | (exfalso; simp_all; done) | skip
    · split <;> first | exact reads_pure _ | exact (noOk_stuck _).blind.reads
    · repeat' (first | exact reads_pure _ | exact (noOk_unsupported _).blind.reads | exact blind_program.reads | exact reads_behindNumber _ | exact reads_byteOf _ | exact (blind_typeInfo _).reads | refine reads_bind ?_ (fun _ => ?_) | split | dsimp only)
theorem reads_eqGuard {op : BinOp} {t : TypeId} {x y : Operand} {a b : Value} (h : P.eqGuardType P.depth t = false) (ha : Shaped 6 a) (hb : Shaped 6 b) : Reads P (eqGuard op t x y a b) := by
  intro w r w1 e
  unfold eqGuard at e
  cases ha with
  | none c l => cases hb <;> (split at e <;> (have e' : Result.ok () w = .ok r w1 := e; injection e' with _ h2; exact h2.symm))
  | agg l => cases hb with
    | none c l' => split at e <;> (have e' : Result.ok () w = .ok r w1 := e; injection e' with _ h2; exact h2.symm)
    | agg l' =>
      split at e
      case h_3 => have e' : Result.ok () w = .ok r w1 := e; injection e' with _ h2; exact h2.symm
      all_goals
        simp only [Bool.not_true, Bool.false_eq_true, if_false] at e
        change Sem.run P (Sem.bind program _) w = _ at e
        rw [Sem.run_bind'] at e
        change (Result.ok P w).andThen _ = _ at e
        simp only [Result.andThen_ok] at e
        change Sem.run P (Sem.bind program _) w = _ at e
        rw [Sem.run_bind'] at e
        change (Result.ok P w).andThen _ = _ at e
        simp only [Result.andThen_ok, h, Bool.not_false, if_true] at e
        have e' : Result.ok () w = .ok r w1 := e
        injection e' with _ h2; exact h2.symm
theorem reads_cmp {op : BinOp} {t : TypeId} {a b : Value} (ho : isCmp op = true) (h : eqPlain P 6 t = true) (ha : Shaped 6 a) (hb : Shaped 6 b) : Reads P (Go.binOp op t a b) := by
  have he : Reads P (Op.equal t a b) := reads_equalIn _ 6 t a b h
  cases op <;> first | (cases ho; done) | skip
  all_goals
    unfold Go.binOp
    cases ha <;> cases hb <;> exact reads_bind he fun _ => reads_pure _

theorem eval_operandAt {a : Act} {x : Operand} (h : (∃ t, x = .tmp t) ∨ ∃ v, x = .const v) : a.eval x = operandAt a.tmps x := by
  rcases h with ⟨t, rfl⟩ | ⟨v, rfl⟩
  · simp [Act.eval, operandAt, Array.getD_eq_getD_getElem?]
  · rfl

theorem blind_fieldAt {s : TypeId} {x : Value} {f : Nat} (h : bigField P s f = true) : Blind P (Instr.fieldAt s x f) := by
  unfold bigField at h
  unfold Instr.fieldAt
  refine blind_underlying_bind fun d hd => ?_
  rw [hd] at h
  split
  · rename_i fs
    simp only at h
    split
    · rename_i fd hf
      rw [hf] at h
      simp only at h
      refine blind_bind (blind_sureAddr _) fun a => ?_
      unfold fieldPlace
      cases hi : P.info? fd.type with
      | none => rw [hi] at h; cases h
      | some i =>
        rw [hi] at h
        have hne : i.size ≠ 0 := by simpa using h
        have hz : ∀ w, (sizeOf fd.type).run P w = .ok i.size w := fun w => by
          unfold sizeOf typeInfo
          change Sem.run P (Sem.bind (Sem.bind program _) _) w = _
          rw [Sem.run_bind', Sem.run_bind']
          change ((Result.ok P w).andThen _).andThen _ = _
          simp only [Result.andThen_ok, hi]
          rfl
        intro w x w1 e
        have hr : ∀ w, Sem.run P (do let a ← (do if (← sizeOf fd.type) = 0 then partAt a fd.offset fd.byteOffset else pure (a.add fd.offset)); pure (Value.pointer (some a)) : Sem Value) w = .ok (Value.pointer (some (a.add fd.offset))) w := fun w => by
          change Sem.run P (Sem.bind (Sem.bind (sizeOf fd.type) fun n => if n = 0 then partAt a fd.offset fd.byteOffset else pure (a.add fd.offset)) _) w = _
          rw [Sem.run_bind', Sem.run_bind', hz]
          simp only [Result.andThen_ok, if_neg hne]
          rfl
        rw [hr] at e
        injection e with h1 h2
        subst h1; subst h2
        exact ⟨rfl, hr⟩
    · exact (noOk_stuck _).blind
  · exact (noOk_stuck _).blind

theorem kind0 {o : Oper} {a : Act} (hk : kindOf P o = 0) (hc : ∀ c ∈ checks P o.op, Shaped c.1 (a.eval c.2)) : BlindV P (execOp a.eval o) := by
  obtain ⟨dst, op, type, pos, after, guard⟩ := o
  unfold kindOf at hk
  unfold checks at hc
  unfold execOp
  cases op <;> simp only at hk hc ⊢
  case move x => exact blindV_value _
  case assign x => exact blindV_value _
  case pick c x y => exact blindV_bind (blind_asBool _) fun _ => blindV_value _
  case nilCheck x =>
    split
    · exact blindV_noOk (noOk_runtimePanic _)
    · exact blindV_noOk (noOk_runtimePanic _)
    · exact blindV_noOk (noOk_runtimePanic _)
    · split
      · exact blindV_noOk (noOk_runtimePanic _)
      · refine blindV_bind blind_program fun p => blindV_bind (blind_nilAhead _ _ _ _) fun r => ?_
        split
        · exact blindV_noOk (noOk_left (noOk_unsupported _))
        · exact blindV_value (Value.func (Fn.method _) _ _)
      · exact blindV_value _
    · exact blindV_value _
  case binOp op t x y yt =>
    refine blindV_of ?_
    split at hk
    case h_1 h | h_2 h | h_3 h =>
      have hne : ¬ cls P t = 4 := by omega
      have hne0 : ¬ cls P t = 0 := by omega
      rw [if_neg hne, if_neg hne0] at hc
      have hx := hc (cls P t, x) (by simp)
      have hy := hc (cls P t, y) (by simp)
      have h13 : cls P t = 1 ∨ cls P t = 2 ∨ cls P t = 3 := by omega
      exact blind_bind (blind_eqGuard_r hy.not_nilIface (hy.not_agg h13)) fun _ => blind_binOp_shaped hx hy h13 _ _
    case h_4 h =>
      split at hk
      · rename_i hb
        simp only [Bool.and_eq_true, Bool.or_eq_true] at hb
        obtain ⟨hop, hn⟩ := hb
        rcases hn with hn | hn
        · have : a.eval x = .pointer none := by
            unfold isNil at hn; split at hn
            · rfl
            · cases hn
          rw [this]
          exact blind_bind (blind_eqGuard_l (by simp) (by simp)) fun _ => blind_binOp_nil_l hop _ _
        · have : a.eval y = .pointer none := by
            unfold isNil at hn; split at hn
            · rfl
            · cases hn
          rw [this]
          exact blind_bind (blind_eqGuard_r (by simp) (by simp)) fun _ => blind_binOp_nil_r hop _ _
      · cases hk
    case h_5 => split at hk <;> cases hk
    case h_6 => cases hk
  case unOp op t x => exact blindV_of (blind_unary _ _)
  case convert s d x =>
    split at hk
    · rename_i hb
      simp only [Bool.and_eq_true, decide_eq_true_eq] at hb
      have hx := hc (cls P s, x) (by simp)
      rw [hb.1] at hx
      exact blindV_of (blind_convert hb.1 hb.2 hx)
    · split at hk <;> cases hk
  case makeInterface t x => exact blindV_of (blind_makeInterface _ _)
  case slice t x lo hi mx => exact blindV_of (blind_sliceAt _ _ _ _ _)
  case build t ps => exact blindV_of (blind_build _ _)
  case fieldAddr s x f =>
    split at hk
    · rename_i hb; exact blindV_of (blind_fieldAt hb)
    · cases hk
  case field t x f => exact blindV_of (blind_field _ _ _)
  case indexAddr t x i => exact blindV_of (blind_indexAt _ _ _)
  case index t x i => exact blindV_of (blind_index _ _ _)
  case extract t i => exact blindV_of (blind_extract _ _)
  case call c =>
    obtain ⟨callee, args, ts⟩ := c
    simp only at hk hc
    cases callee with
    | builtin b =>
      have hr : ∀ s : Sem Value, (Go.builtin b ts type (args.map fun | .const _ => true | _ => false) (args.map a.eval) = (do pure (Next.value (← s)) : Sem Next)) → BlindV P (do pure (Next.value (← s)) : Sem Next) →
          BlindV P (do let d ← resolve a.eval { callee := .builtin b, args := args, argTypes := ts } type; invoke d.target d.args) := fun s e h => by
        have : (do let d ← resolve a.eval { callee := .builtin b, args := args, argTypes := ts } type; invoke d.target d.args : Sem Next) = (do pure (Next.value (← s)) : Sem Next) := e
        rw [this]; exact h
      cases b <;> simp only at hk hc <;> first | (cases hk; done) | skip
      case len =>
        cases h0 : ts[0]? with
        | none => rw [h0] at hk; cases hk
        | some t0 =>
          rw [h0] at hk
          simp only at hk
          split at hk
          · rename_i hb
            exact hr _ rfl (blindV_of (blind_len _ _ _ h0 (by simpa using hb)))
          · cases hk
      case max => exact hr _ rfl (blindV_of (blind_max _ _ _ fun y hy => by
        obtain ⟨z, hz, rfl⟩ : ∃ z ∈ args.toList, a.eval z = y := by simpa using hy
        exact hc (1, z) (List.mem_map.2 ⟨z, hz, rfl⟩)))
      case min => exact hr _ rfl (blindV_of (blind_min _ _ _ fun y hy => by
        obtain ⟨z, hz, rfl⟩ : ∃ z ∈ args.toList, a.eval z = y := by simpa using hy
        exact hc (1, z) (List.mem_map.2 ⟨z, hz, rfl⟩)))
    | value f => cases hk
    | invoke r m => cases hk
  all_goals (cases hk)

theorem kind1 {o : Oper} {a : Act} (hk : kindOf P o = 1) (hc : ∀ c ∈ checks P o.op, Shaped c.1 (a.eval c.2)) : ReadsV P (execOp a.eval o) := by
  obtain ⟨dst, op, type, pos, after, guard⟩ := o
  unfold kindOf at hk
  unfold checks at hc
  unfold execOp
  cases op <;> simp only at hk hc ⊢
  case load t x => exact readsV_of (reads_loadAt _ _)
  case convert s d x =>
    split at hk
    · cases hk
    · split at hk
      · rename_i hb
        simp only [Bool.and_eq_true, decide_eq_true_eq] at hb
        have hx := hc (cls P s, x) (by simp)
        obtain ⟨e, he, _⟩ := bytesT_of hb.1
        have h5 : cls P s = 5 := by unfold cls; rw [he]
        rw [h5] at hx
        exact readsV_of (reads_convert hb.1 hb.2 hx)
      · cases hk
  case binOp op t x y yt =>
    split at hk
    case h_4 => split at hk <;> cases hk
    case h_5 h0 =>
      split at hk
      case isFalse => cases hk
      rename_i hb
      simp only [Bool.and_eq_true, Bool.not_eq_true'] at hb
      have hne : ¬ cls P t = 4 := by omega
      rw [if_neg hne, if_pos h0] at hc
      have hx := hc (6, x) (by simp)
      have hy := hc (6, y) (by simp)
      exact readsV_of (reads_bind (reads_eqGuard hb.2 hx hy) fun _ => reads_cmp hb.1.1 hb.1.2 hx hy)
    all_goals cases hk
  case fieldAddr s x f => split at hk <;> cases hk
  case call c =>
    obtain ⟨callee, args, ts⟩ := c
    simp only at hk
    cases callee with
    | builtin b =>
      cases b <;> simp only at hk <;> first | (cases hk; done) | skip
      case len =>
        cases h0 : ts[0]? with
        | none => rw [h0] at hk; cases hk
        | some t0 => rw [h0] at hk; simp only at hk; split at hk <;> cases hk
    | value f => cases hk
    | invoke r m => cases hk
  all_goals (cases hk)

end

/-! From the plain walk of the list, and the look, to every order. -/

/-- The only way out is the plain one; there the slots that were looked at are of the shape that was asked. -/
def Post (P : Program) (l : List Oper) (Q : Exit → Act → World → Prop) : Exit → Act → World → Prop
  | .normal, a, w => good P l a.tmps = true ∧ Q .normal a w
  | _, _, _ => False
theorem Post.plain (P : Program) (l : List Oper) (Q : Exit → Act → World → Prop) : Plain (Post P l Q) := fun e a w h => by cases e <;> first | rfl | exact h.elim

section
variable {P : Program} {ops : Array Oper} {Q : Exit → Act → World → Prop}

theorem put_get {a : Act} {d : Option Tmp} {v : Value} {t : Nat} (h : d ≠ some t) : (a.put d v).tmps[t]? = a.tmps[t]? := by
  cases d with
  | none => rfl
  | some d => simp [Act.put, Array.getElem?_setIfInBounds_ne (fun e => h (by rw [e]) : d ≠ t)]

/-- A walk that comes to its end leaves the slots alone that it does not write. -/
theorem list_some (hp : Plain Q) : ∀ (l : List Oper) (a : Act) (w : World), wpList P ops Q l a w →
    ∃ b w', Q .normal b w' ∧ ∀ t, (∀ o ∈ l, o.dst ≠ some t) → b.tmps[t]? = a.tmps[t]?
  | [], a, w, h => ⟨a, w, h, fun _ _ => rfl⟩
  | o :: l, a, w, h => by
    unfold wpList at h
    split at h
    · rcases h with h | ⟨_, h⟩
      · obtain ⟨b, u, w', hk, hb, _⟩ := wp_some hp h
        obtain ⟨c, w'', hq, hc⟩ := list_some hp l _ _ hk
        refine ⟨c, w'', hq, fun t ht => ?_⟩
        rw [hc t (fun o' ho' => ht o' (List.mem_cons_of_mem _ ho')), put_get (ht o (by simp)), hb]
      · exact (hp.out h).elim
    · obtain ⟨c, w'', hq, hc⟩ := list_some hp l _ _ h
      refine ⟨c, w'', hq, fun t ht => ?_⟩
      rw [hc t (fun o' ho' => ht o' (List.mem_cons_of_mem _ ho')), put_get (ht o (by simp))]

theorem wp_ok (hp : Plain Q) {o : Oper} {a : Act} {w : World} {K : Act → World → Prop} (h : o.wp P a w K Q) : ∃ n w', (execOp a.eval o).run P w = .ok n w' := by
  unfold Oper.wp at h
  cases hr : (execOp a.eval o).run P w with
  | ok n w' => exact ⟨n, w', rfl⟩
  | halt x w' =>
    rw [hr] at h
    cases x <;> simp only [Oper.upon] at h
    case panic u => exact (hp.panic h).elim

theorem getD_same {xs ys : Array Value} {t : Nat} (h : xs[t]? = ys[t]?) (d : Value) : xs.getD t d = ys.getD t d := by
  simp only [Array.getD_eq_getD_getElem?, h]

theorem lex_of_list {L : List Oper} : ∀ (l : List Oper) (k : Nat) (a : Act) (w : World), (∀ j, l[j]? = ops[k + j]?) → (∀ o ∈ l, o ∈ L) → kept P l = true →
    wpList P ops (Post P L Q) l a w → lexS P (kindOf P) ops (Post P L Q) l k a w
  | [], _, _, _, _, _, _, h => h
  | o :: l, k, a, w, hl, hL, hk, h => by
    have hp := Post.plain P L Q
    have h0 : ops[k]? = some o := by simpa using (hl 0).symm
    have hl' : ∀ j, l[j]? = ops[k + 1 + j]? := fun j => by have := hl (j + 1); simpa [Nat.add_assoc, Nat.add_comm 1 j] using this
    have hall := h
    unfold kept at hk
    simp only [Bool.and_eq_true] at hk
    have ih : ∀ a w, wpList P ops (Post P L Q) l a w → lexS P (kindOf P) ops (Post P L Q) l (k + 1) a w := fun a w h => lex_of_list l (k + 1) a w hl' (fun o ho => hL o (List.mem_cons_of_mem _ ho)) hk.2 h
    unfold wpList at h
    show opS P (kindOf P) ops (Post P L Q) k (lexS P (kindOf P) ops (Post P L Q) l (k + 1)) a w
    unfold opS
    simp only [h0]
    split
    · rename_i hw
      rw [if_pos hw] at h
      rcases h with h | ⟨_, h⟩
      · refine ⟨?_, Oper.wp_mono ih h⟩
        -- the shapes, off the end of the walk
        obtain ⟨b, w', ⟨hg, _⟩, hb⟩ := list_some hp (o :: l) a w hall
        have hsh : kindOf P o ≤ 1 → ∀ c ∈ checks P o.op, Shaped c.1 (a.eval c.2) := fun hk1 c hc => by
          have hg1 := List.all_eq_true.1 hg o (hL o (by simp))
          have hk3 := List.all_eq_true.1 hk.1 c hc
          simp only [Bool.or_eq_true, decide_eq_true_eq] at hg1
          have hg2 := List.all_eq_true.1 (hg1.resolve_left (by omega)) c hc
          refine shaped_of ?_
          obtain ⟨k, x⟩ := c
          cases x with
          | tmp t =>
            simp only [List.all_eq_true, bne_iff_ne] at hk3
            rw [eval_operandAt (.inl ⟨t, rfl⟩)]
            have := hb t hk3
            simp only [operandAt] at hg2 ⊢
            rw [← getD_same this]; exact hg2
          | const v => exact hg2
          | global g => simp at hk3; omega
          | func f => simp at hk3; omega
        obtain ⟨n, w1, he⟩ := wp_ok hp h
        unfold Good
        split
        · rename_i h0
          obtain ⟨⟨v, rfl⟩, rfl, hv⟩ := kind0 h0 (hsh (by omega)) _ _ _ he
          exact ⟨v, hv⟩
        · rename_i h1
          obtain ⟨⟨v, rfl⟩, rfl⟩ := kind1 h1 (hsh (by omega)) _ _ _ he
          exact ⟨v, he⟩
        · trivial
      · exact (hp.out h).elim
    · rename_i hw
      rw [if_neg hw] at h
      exact ih _ _ h

theorem ancRows_len : ∀ (l : List Oper) (rows : List Nat), (ancRows l rows).length = rows.length + l.length
  | [], rows => by simp [ancRows]
  | o :: l, rows => by rw [ancRows, ancRows_len l]; simp; omega

theorem ancStep_bit {rows : List Nat} {o : Oper} {i j : Nat} (ho : ops[j]? = some o) (hrows : ∀ k, k < j → (rows.getD k 0).testBit i = true → Anc ops k i) (hlt : ∀ e ∈ o.after, Region.binds .any e = true → e.on < j)
    (h : (ancStep rows o).testBit i = true) : Anc ops j i := by
  unfold ancStep at h
  have key : ∀ (es : List Edge) (m : Nat), (∀ e ∈ es, e ∈ o.after) → (es.foldl (fun m e => if Region.binds .any e then m ||| 2 ^ e.on ||| rows.getD e.on 0 else m) m).testBit i = true → m.testBit i = true ∨ Anc ops j i := by
    intro es
    induction es with
    | nil => intro m _ h; exact .inl h
    | cons e es ih =>
      intro m hes h
      rw [List.foldl_cons] at h
      rcases ih _ (fun e he => hes e (List.mem_cons_of_mem _ he)) h with h | h
      · split at h
        · rename_i hb
          have he := hes e (by simp)
          simp only [Nat.testBit_or, Bool.or_eq_true] at h
          rcases h with (h | h) | h
          · exact .inl h
          · right
            rw [Nat.testBit_two_pow] at h
            exact .one ho he hb (by simpa using h)
          · right
            exact .more ho he hb (hrows _ (hlt e he hb) h)
        · exact .inl h
      · exact .inr h
  rcases key o.after.toList 0 (fun e he => Array.mem_toList_iff.1 he) h with h | h
  · simp at h
  · exact h

theorem ancRows_anc : ∀ (l : List Oper) (rows : List Nat), (∀ j, l[j]? = ops[rows.length + j]?) → (∀ j o, ops[j]? = some o → ∀ e ∈ o.after, Region.binds .any e = true → e.on < j) →
    (∀ k i, k < rows.length → (rows.getD k 0).testBit i = true → Anc ops k i) → ∀ k i, k < rows.length + l.length → ((ancRows l rows).getD k 0).testBit i = true → Anc ops k i
  | [], rows, _, _, hr, k, i, hk, h => hr k i (by simpa using hk) h
  | o :: l, rows, hl, hb, hr, k, i, hk, h => by
    have h0 : ops[rows.length]? = some o := by simpa using (hl 0).symm
    refine ancRows_anc l (rows ++ [ancStep rows o]) (fun j => by have := hl (j + 1); simpa [Nat.add_assoc, Nat.add_comm 1 j] using this) hb ?_ k i (by simp at hk ⊢; omega) h
    intro k i hk h
    simp only [List.length_append, List.length_cons, List.length_nil] at hk
    rcases Nat.lt_or_ge k rows.length with hlt | hge
    · refine hr k i hlt ?_
      simpa [List.getD_eq_getElem?_getD, List.getElem?_append_left hlt] using h
    · obtain rfl : k = rows.length := by omega
      refine ancStep_bit h0 (fun k hk h => hr k i hk h) (fun e he hbb => hb _ _ h0 e he hbb) ?_
      simpa [List.getD_eq_getElem?_getD] using h

theorem freeB_spec {P : Program} {ops : Array Oper} {rows : List Nat} : ∀ (l : List Oper) (s : Nat), freeB P ops rows s l = true → ∀ i d oi oj, l[i]? = some oi → l[i + 1 + d]? = some oj →
    (rows.getD (s + i + 1 + d) 0).testBit (s + i) = true ∨ commB P ops oi oj = true
  | [], s, _, i, d, oi, oj, hi, _ => by simp at hi
  | o :: l, s, h, i, d, oi, oj, hi, hj => by
    unfold freeB at h
    simp only [Bool.and_eq_true] at h
    cases i with
    | zero =>
      obtain rfl : o = oi := by simpa using hi
      have hj' : l[d]? = some oj := by simpa [Nat.add_comm] using hj
      have hd : d < l.length := (List.getElem?_eq_some_iff.1 hj').1
      have := List.all_eq_true.1 h.1 d (List.mem_range.2 hd)
      simp only [hj', Bool.or_eq_true] at this
      simpa using this
    | succ i =>
      have := freeB_spec l (s + 1) h.2 i d oi oj (by simpa using hi) (by rw [show i + 1 + 1 + d = (i + 1 + d) + 1 by omega] at hj; simpa using hj)
      rw [show s + (i + 1) + 1 + d = s + 1 + i + 1 + d by omega, show s + (i + 1) = s + 1 + i by omega]
      exact this

theorem fine_of {P : Program} {l : List Oper} (h : okB P l = true) : Fine (kindOf P) l.toArray ∧ kept P l = true := by
  unfold okB at h
  simp only [Bool.and_eq_true] at h
  obtain ⟨⟨⟨h1, h2⟩, h3⟩, h4⟩ := h
  have hback : ∀ (j : Nat) (o : Oper), l.toArray[j]? = some o → ∀ e ∈ o.after, Region.binds .any e = true → e.on < j := by
    intro j o ho e he hb
    have ho' : l[j]? = some o := by simpa using ho
    have hj : j < l.length := (List.getElem?_eq_some_iff.1 ho').1
    have := List.all_eq_true.1 h3 j (List.mem_range.2 hj)
    simp only [ho'] at this
    have := List.all_eq_true.1 this e (Array.mem_toList_iff.2 he)
    simpa [hb] using this
  refine ⟨⟨?_, hback, ?_⟩, h2⟩
  · intro j o cs b ho he
    have ho' : l[j]? = some o := by simpa using ho
    have := List.all_eq_true.1 h1 o (List.mem_of_getElem? ho')
    rw [he] at this; cases this
  · intro i j oi oj hij hi hj hno
    have hi' : l[i]? = some oi := by simpa using hi
    have hj' : l[j]? = some oj := by simpa using hj
    have hjl : j < l.length := (List.getElem?_eq_some_iff.1 hj').1
    have := freeB_spec l 0 h4 i (j - (i + 1)) oi oj hi' (by rw [show i + 1 + (j - (i + 1)) = j by omega]; exact hj')
    rw [show 0 + i + 1 + (j - (i + 1)) = j by omega, show 0 + i = i by omega] at this
    rcases this with h | h
    · exact absurd (ancRows_anc (ops := l.toArray) l [] (fun j => by simp) hback (fun k i hk => by simp at hk) j i (by simpa using hjl) h) hno
    · unfold commB at h
      simp only [Bool.and_eq_true, Bool.or_eq_true, beq_iff_eq, decide_eq_true_eq] at h
      exact ⟨h.1, by rcases h.2 with (h | h) | h <;> simp [h]⟩

theorem wpAny_mono {Q Q' : Exit → Act → World → Prop} (hQ : ∀ e a w, Q e a w → Q' e a w) : ∀ (f : Nat) (listed : Array Bool) (a : Act) (w : World), wpAny P .any ops Q f listed a w → wpAny P .any ops Q' f listed a w
  | 0, _, _, _, h => ⟨h.1, hQ _ _ _ h.2⟩
  | f + 1, _, _, _, h => ⟨fun e => hQ _ _ _ (h.1 e), fun i hi => by
      have := h.2 i hi
      have lo : LetsOut Q → LetsOut Q' := fun ⟨a, w, q⟩ => ⟨a, w, hQ _ _ _ q⟩
      unfold wpOp at *
      split
      · rename_i hn; simp only [hn] at this; exact wpAny_mono hQ f _ _ _ this
      · rename_i o ho
        simp only [ho] at this
        split
        · rename_i hw
          simp only [hw, if_true] at this
          rcases this with this | ⟨h1, h2⟩
          · left
            unfold Oper.wp at *
            generalize (execOp _ o).run P _ = r at *
            cases r with
            | ok n w' =>
              cases n <;> simp only [Oper.upon] at this ⊢
              case value u => exact wpAny_mono hQ f _ _ _ this
              case skip => exact wpAny_mono hQ f _ _ _ this
              case defer q => exact wpAny_mono hQ f _ _ _ this
              case enter g args =>
                refine Calls.mono this fun e w'' he => ?_
                cases e with
                | returned u => exact wpAny_mono hQ f _ _ _ he
                | panicked c => exact hQ _ _ _ he
                | outgrown => exact lo he
              case row r args => exact Rows.mono this fun u w'' he => wpAny_mono hQ f _ _ _ he
            | halt x w' =>
              cases x <;> simp only [Oper.upon] at this ⊢
              case panic u => exact hQ _ _ _ this
          · exact .inr ⟨h1, lo h2⟩
        · rename_i hw
          simp only [hw] at this
          exact wpAny_mono hQ f _ _ _ this⟩

/-- A REGION THAT DRAWS ITS ORDER: the walk in the order of the text serves every order. -/
theorem lex_any {P : Program} {l : List Oper} {Q : Exit → Act → World → Prop} {a : Act} {w : World} (hB : okB P l = true)
    (h : wpList P l.toArray (Post P l Q) l a w.drew) : wpAny P .any l.toArray Q l.toArray.size (Array.replicate l.toArray.size false) a w.drew := by
  obtain ⟨hf, hk⟩ := fine_of hB
  refine wpAny_mono (Q := Post P l Q) (fun e a w q => by cases e <;> first | exact q.2 | exact q.elim) _ _ _ _ ?_
  have := any_of_lex (Post.plain P l Q) hf l 0 (Array.replicate l.toArray.size false) a w.drew (by simp) (by simp) (fun j hj => by omega) (fun j _ hj => by simp at hj; simp [hj])
    (lex_of_list l 0 a w.drew (by simp) (fun o ho => ho) hk h)
  have := anyS_any _ _ _ _ this
  simpa using this
theorem wp_region_lex {P : Program} {id : Nat} {l : List Oper} {Q : Exit → Act → World → Prop} {a : Act} {w : World} (hm : P.follows .mixedOrders = true) (hB : okB P l = true)
    (h : wpList P l.toArray (Post P l Q) l a w.drew) : (Code.region id l.toArray true).wp P Q a w :=
  wp_region_any hm (lex_any hB h)
end

#print axioms wp_region_lex
end Go.YtnhnmpgjbopihaaLex
