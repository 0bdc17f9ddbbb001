/- script.Decode. -/
import Derived.Test.YtmiagiemagdnfaaScript
import Derived.Deep.WholeRow
namespace Go.Proofs.Ytmiagiemagdnfaa.Script
open Go Go.RowKit Go.YtmiagiemagdnfaaMem Go.YtmiagiemagdnfaaLex Go.Proofs.Ytmiagiemagdnfaa.Frame
set_option linter.unusedVariables false
set_option linter.unusedSimpArgs false

/-- An act that bytes tell. -/
structure Act where
  kind : Nat
  clock : Nat
  conn : Nat
  data : List UInt8
  n : Nat
  seeds : List Nat
def later (y : Nat) : Nat := y % 4096 * 2 ^ (2 * (y / 4096))
/-- The act at the k-th byte, where the next one stands, the time. -/
def step (bs : List UInt8) (k c : Nat) : Act × Nat × Nat :=
  let x := rdN 1 (bs.drop k)
  let k1 := min (k + 1) bs.length
  let y := rdN 2 (bs.drop k1)
  let k3 := min (k1 + 2) bs.length
  let c' := c + later y
  let m := rdN 1 (bs.drop k3)
  let k4 := min (k3 + 1) bs.length
  if x % 5 = 2 then (⟨2, c', x / 5 % 16, (bs.drop k4).take m, 0, []⟩, min (k4 + m) bs.length, c')
  else if x % 5 = 3 then (⟨3, c', x / 5 % 16, [], m, []⟩, k4, c')
  else if x % 5 = 4 then (⟨4, c', x / 5 % 16, [], 0, (List.range (m % 4)).map fun i => rdN 8 (bs.drop (min (k4 + 8 * i) bs.length))⟩, min (k4 + 8 * (m % 4)) bs.length, c')
  else (⟨x % 5, c', x / 5 % 16, [], 0, []⟩, k3, c')
inductive Steps (bs : List UInt8) : Nat → Nat → List Act → Prop
  | nil : Steps bs 0 0 []
  | snoc {k c : Nat} {l : List Act} (h : Steps bs k c l) (hk : k < bs.length) : Steps bs (step bs k c).2.1 (step bs k c).2.2 (l ++ [(step bs k c).1])

/-- An act with its slices. -/
structure ActV where
  act : Act
  d : Value
  s : Value
def ActV.cells (a : ActV) : List Value := [.int .i64 a.act.kind, .int .i64 a.act.clock, .int .i64 a.act.conn, a.d, .int .i64 a.act.n, a.s]
def vs (l : List Nat) : List Value := l.map fun (x : Nat) => .int .u64 (x : Int)
def flat (l : List ActV) : List Value := l.flatMap ActV.cells
theorem flat_snoc (l : List ActV) (q : ActV) : flat (l ++ [q]) = flat l ++ q.cells := by simp [flat]
/-- What is read stays, while what is behind x grows and the reader g goes on. -/
def Keep (w : World) (g : Nat) (x v : Value) (xs : List Value) : Prop := Sl w v xs ∧ (xs.length = 0 ∨ ∀ b, v.ownBlock = some b → g < b ∧ b < w.heap.size ∧ x.ownBlock ≠ some b)
theorem Keep.mod {w w' : World} {g : Nat} {x v : Value} {xs : List Value} (h : Keep w g x v xs) (hm : Mod [g] w w') : Keep w' g x v xs := by
  refine ⟨h.1.mod hm fun b hb => ?_, h.2.imp id fun h b hb => ?_⟩
  · rcases h.2 with h | h
    · exact .inl h
    · right; have := (h b hb).1; simp; omega
  · obtain ⟨h1, h2, h3⟩ := h b hb; exact ⟨h1, hm.lt h2, h3⟩
theorem Keep.grow {w w' : World} {g : Nat} {x x' v : Value} {xs : List Value} (h : Keep w g x v xs) (hm : Mod x.ownBlock.toList w w') (hx : x'.ownBlock = x.ownBlock ∨ x'.ownBlock = some w.heap.size) : Keep w' g x' v xs := by
  refine ⟨h.1.mod hm fun b hb => ?_, h.2.imp id fun h b hb => ?_⟩
  · rcases h.2 with h | h
    · exact .inl h
    · right; have := (h b hb).2.2; simpa using this
  · obtain ⟨h1, h2, h3⟩ := h b hb
    refine ⟨h1, hm.lt h2, ?_⟩
    rcases hx with hx | hx
    · rw [hx]; exact h3
    · rw [hx]; intro e; injection e with e; omega
/-- Acts in a row of one's own, above block g. -/
def OwnA (w : World) (g : Nat) (x : Value) (l : List ActV) : Prop := w.ownsRow (g + 1) 28 6 x l.length (flat l) ∧ ∀ a, a ∈ l → Keep w g x a.d (vb a.act.data) ∧ Keep w g x a.s (vs a.act.seeds)
theorem OwnA.nil (w : World) (g : Nat) : OwnA w g (.slice none 0 0) [] := ⟨World.ownsRow_nil w _ _ _, fun a h => by simp at h⟩
theorem OwnA.mod {w w' : World} {g : Nat} {x : Value} {l : List ActV} (h : OwnA w g x l) (hm : Mod [g] w w') : OwnA w' g x l :=
  ⟨hm.own h.1 (fun b hb hx => by have := own_block h.1 b hb; simp at hx; omega), fun a ha => ⟨(h.2 a ha).1.mod hm, (h.2 a ha).2.mod hm⟩⟩

theorem act_info : ∃ i, Try.prog.info? 28 = some i ∧ i.zero = some (.agg #[.int .i64 0, .int .i64 0, .int .i64 0, .slice none 0 0, .int .i64 0, .slice none 0 0]) ∧ i.size = 6 ∧ i.bytes = 80 := ⟨_, rfl, rfl, rfl, rfl⟩
section
variable {ops : Array Oper} {rest : List Oper} {o : Oper} {act : Go.Act} {Q : Exit → Go.Act → World → Prop} {w : World} {g : Nat} {v : Value} {l : List ActV}
theorem app_act (q : ActV) (n : Nat) (hown : OwnA w g v l) (hgd : o.guard = none) (s x : Operand) (ho : o.op = .call { callee := .builtin .append, args := #[s, x], argTypes := #[24, 24] })
    (hs : act.eval s = v) (hx : act.eval x = .slice (some ⟨n, 0, none⟩) 1 1) (hn : Blk w n 28 q.cells) (hB : g + 1 ≤ w.heap.size) (hl : l.length ≤ 900000) (h1 : ∀ u ∈ q.cells, u.oneCell' = true) (hq : Keep w g v q.d (vb q.act.data) ∧ Keep w g v q.s (vs q.act.seeds))
    (h : ∀ v' w', OwnA w' g v' (l ++ [q]) → Mod v.ownBlock.toList w w' → wpList Try.prog ops Q rest (act.put o.dst v') w') : wpList Try.prog ops Q (o :: rest) act w := by
  obtain ⟨i0, hi, hz0, hz1, hz2⟩ := act_info
  refine wpList_append_own_at w hgd s x 24 ho (g + 1) 28 i0 _ 6 80 Try.underlying24 hi hz0 hz1 hz2 rfl (by decide) v l.length (flat l) hs hown.1 ⟨n, 0, none⟩ 1 1 q.cells hx rfl (fun j u hu => by rw [add_eq, Nat.zero_add]; exact hn.cell hu)
    h1 (by unfold maxLen; omega) (by omega) hB fun v' w' h1 h2 _ h4 => h v' w' ?_ (grown_mod (Mod.refl [] w) h2)
  have hm := grown_mod (Mod.refl [] w) h2
  refine ⟨by rw [flat_snoc, List.length_append]; exact h1, fun a ha => ?_⟩
  rcases List.mem_append.1 ha with ha | ha
  · exact ⟨(hown.2 a ha).1.grow hm h4, (hown.2 a ha).2.grow hm h4⟩
  · rw [List.mem_singleton.1 ha]; exact ⟨hq.1.grow hm h4, hq.2.grow hm h4⟩
theorem u64_info : ∃ i, Try.prog.info? 42 = some i ∧ i.zero = some (.int .u64 0) ∧ i.size = 1 ∧ i.bytes = 8 := ⟨_, rfl, rfl, rfl, rfl⟩
theorem app_u64 {B m : Nat} {ss : List Nat} (z n : Nat) (hown : w.ownsRow B 42 1 v m (vs ss)) (hgd : o.guard = none) (s x : Operand) (ho : o.op = .call { callee := .builtin .append, args := #[s, x], argTypes := #[26, 26] })
    (hs : act.eval s = v) (hx : act.eval x = .slice (some ⟨n, 0, none⟩) 1 1) (hn : w.cell? ⟨n, 0, none⟩ = some (.int .u64 (z : Int))) (hB : B ≤ w.heap.size) (hl : m ≤ 900000)
    (h : ∀ v' w', w'.ownsRow B 42 1 v' (m + 1) (vs (ss ++ [z])) → Mod v.ownBlock.toList w w' → wpList Try.prog ops Q rest (act.put o.dst v') w') : wpList Try.prog ops Q (o :: rest) act w := by
  obtain ⟨i0, hi, hz0, hz1, hz2⟩ := u64_info
  refine wpList_append_own_at w hgd s x 26 ho B 42 i0 (.int .u64 0) 1 8 Try.underlying26 hi hz0 hz1 hz2 rfl (by decide) v m (vs ss) hs hown ⟨n, 0, none⟩ 1 1 [.int .u64 (z : Int)] hx rfl (cells_one hn)
    (fun x hx => by simp at hx; subst hx; rfl) (by unfold maxLen; omega) (by omega) hB fun v' w' h1 h2 _ h4 => h v' w' ?_ (grown_mod (Mod.refl [] w) h2)
  have e : vs (ss ++ [z]) = vs ss ++ [.int .u64 (z : Int)] := by simp [vs]
  rw [e]; exact h1
end
end Go.Proofs.Ytmiagiemagdnfaa.Script
