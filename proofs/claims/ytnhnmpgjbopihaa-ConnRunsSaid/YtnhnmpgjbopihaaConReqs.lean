/- Rows of requests of one's own. -/
import Derived.Test.YtnhnmpgjbopihaaConReq
namespace Go.Proofs.Ytnhnmpgjbopihaa.Frame
open Go Go.RowKit Go.YtnhnmpgjbopihaaMem Go.YtnhnmpgjbopihaaLex
set_option linter.unusedVariables false
set_option linter.unusedSimpArgs false

def Req.none0 : Req := ⟨0, 0, 0, [], 0⟩
theorem req_info : ∃ i, Try.prog.info? 50 = some i ∧ i.zero = some Req.none0.val ∧ i.size = 5 ∧ i.bytes = 48 := info_parts (show (Try.prog.info? 50).map (fun i => (i.zero, i.size, i.bytes)) = some (some (Req.none0.val), 5, 48) by kernel_rfl)
def flat (l : List Req) : List Value := l.flatMap Req.cells
theorem flat_length (l : List Req) : (flat l).length = l.length * 5 := by
  induction l with
  | nil => rfl
  | cons q l ih =>
    have : flat (q :: l) = q.cells ++ flat l := rfl
    rw [this, List.length_append, ih, List.length_cons]
    show 5 + _ = _
    omega
theorem flat_snoc (l : List Req) (q : Req) : flat (l ++ [q]) = flat l ++ q.cells := by simp [flat]
theorem flat_get : ∀ (l : List Req) (i j : Nat) (q : Req), l[i]? = some q → j < 5 → (flat l)[5 * i + j]? = q.cells[j]?
  | [], i, j, q, h, _ => by simp at h
  | p :: l, 0, j, q, h, hj => by
    simp only [List.getElem?_cons_zero, Option.some.injEq] at h
    subst h
    have : flat (p :: l) = p.cells ++ flat l := rfl
    rw [this, Nat.mul_zero, Nat.zero_add, List.getElem?_append_left (show j < 5 from hj)]
  | p :: l, i + 1, j, q, h, hj => by
    have h' : l[i]? = some q := by simpa using h
    have : flat (p :: l) = p.cells ++ flat l := rfl
    rw [this, List.getElem?_append_right (by show 5 ≤ _; omega)]
    have := flat_get l i j q h' hj
    rw [show 5 * (i + 1) + j - p.cells.length = 5 * i + j by show 5 * (i + 1) + j - 5 = _; omega]
    exact this
/-- Requests in a row of one's own, above block B. -/
def OwnQ (w : World) (B : Nat) (v : Value) (l : List Req) : Prop := w.ownsRow B 50 5 v l.length (flat l)
theorem OwnQ.nil (w : World) (B : Nat) : OwnQ w B (.slice none 0 0) [] := World.ownsRow_nil w B _ _
theorem OwnQ.slice {w : World} {B : Nat} {v : Value} {l : List Req} (h : OwnQ w B v l) : ∃ a c, v = .slice a l.length c := own_slice h
theorem OwnQ.mod {S : List Nat} {w w' : World} {B : Nat} {v : Value} {l : List Req} (h : OwnQ w B v l) (hm : Mod S w w') (hn : ∀ x, x ∈ S → x < B) : OwnQ w' B v l :=
  hm.own h (fun b hb hx => by have := own_block h b hb; have := hn b hx; omega)
theorem OwnQ.at {w : World} {B : Nat} {v : Value} {l : List Req} (h : OwnQ w B v l) (hn : l ≠ []) :
    ∃ g cap, v = .slice (some ⟨g, 0, none⟩) l.length cap ∧ B ≤ g ∧ g < w.heap.size ∧ l.length ≤ cap ∧ cap ≤ maxLen ∧ ∀ i q, l[i]? = some q → ∀ j u, q.cells[j]? = some u → w.cell? ⟨g, i * 5 + j, none⟩ = some u := by
  rcases h.2 with ⟨_, h0⟩ | ⟨g, cap, cur, rfl, h1, h2, h3, h4, h5, h6⟩
  · exact absurd (List.eq_nil_of_length_eq_zero h0) hn
  · refine ⟨g, cap, rfl, h1, lt_of_some h2, h3, h4, fun i q hq j u hu => ?_⟩
    have hj : j < 5 := (List.getElem?_eq_some_iff.1 hu).1
    have := h.cells (g := g) rfl (5 * i + j) u (by rw [flat_get l i j q hq hj]; exact hu)
    rw [add_eq, Nat.zero_add] at this; rw [Nat.mul_comm]; exact this

section
variable {ops : Array Oper} {rest : List Oper} {o : Oper} {act : Act} {Q : Exit → Act → World → Prop} {w : World} {B : Nat} {v : Value} {l : List Req}
/-- A request behind requests of one's own. -/
theorem app_req (q : Req) (n : Nat) (hown : OwnQ w B v l) (hgd : o.guard = none) (s x : Operand) (ho : o.op = .call { callee := .builtin .append, args := #[s, x], argTypes := #[28, 28] })
    (hs : act.eval s = v) (hx : act.eval x = .slice (some ⟨n, 0, none⟩) 1 1) (hn : Box w n q) (hB : B ≤ w.heap.size) (hl : l.length ≤ 900000)
    (h : ∀ v' w', OwnQ w' B v' (l ++ [q]) → Mod v.ownBlock.toList w w' → wpList Try.prog ops Q rest (act.put o.dst v') w') : wpList Try.prog ops Q (o :: rest) act w := by
  obtain ⟨i0, hi, hz0, hz1, hz2⟩ := req_info
  refine wpList_append_own_at w hgd s x 28 ho B 50 i0 Req.none0.val 5 48 Try.underlying28 hi hz0 hz1 hz2 rfl (by decide) v l.length (flat l) hs hown ⟨n, 0, none⟩ 1 1 q.cells hx rfl (fun j u hu => by rw [add_eq, Nat.zero_add]; exact hn.cell hu)
    (fun x hx => by simp only [Req.cells, List.mem_cons, List.not_mem_nil, or_false] at hx; rcases hx with rfl | rfl | rfl | rfl | rfl <;> rfl) (by unfold maxLen; omega) (by omega) hB fun v' w' h1 h2 _ h4 => h v' w' ?_ (grown_mod (Mod.refl [] w) h2)
  unfold OwnQ; rw [flat_snoc, List.length_append]; exact h1
end
end Go.Proofs.Ytnhnmpgjbopihaa.Frame
