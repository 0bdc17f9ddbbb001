/- script.Decode: what is told of any bytes; the example. -/
import Derived.Test.YtmiagiemagdnfaaScript3
namespace Go.Proofs.Ytmiagiemagdnfaa.Script
open Go Go.RowKit Go.YtmiagiemagdnfaaMem Go.YtmiagiemagdnfaaLex Go.Proofs.Ytmiagiemagdnfaa.Frame
set_option linter.unusedVariables false
set_option linter.unusedSimpArgs false

/-- The acts of bytes, by steps. -/
def decF : Nat → List UInt8 → Nat → Nat → List Act
  | 0, _, _, _ => []
  | f + 1, bs, k, c => if k < bs.length then (step bs k c).1 :: decF f bs (step bs k c).2.1 (step bs k c).2.2 else []
theorem steps_dec {bs : List UInt8} {k c : Nat} {l : List Act} (h : Steps bs k c l) : ∀ f, decF (l.length + f) bs 0 0 = l ++ decF f bs k c := by
  induction h with
  | nil => intro f; simp
  | @snoc k c l h hk ih =>
    intro f
    rw [List.length_append, List.length_singleton, Nat.add_assoc, Nat.add_comm 1 f, ih (f + 1)]
    show l ++ (if k < bs.length then _ else _) = _
    rw [if_pos hk, List.append_assoc]; rfl
theorem decF_end (bs : List UInt8) (f c : Nat) : decF f bs bs.length c = [] := by
  cases f with
  | zero => rfl
  | succ f => show (if bs.length < bs.length then _ else _) = _; rw [if_neg (by omega)]
theorem steps_eq {bs : List UInt8} {c : Nat} {l : List Act} (h : Steps bs bs.length c l) (hl : l.length ≤ bs.length) : l = decF bs.length bs 0 0 := by
  have := steps_dec h (bs.length - l.length)
  rw [show l.length + (bs.length - l.length) = bs.length by omega, decF_end, List.append_nil] at this
  exact this.symm

/-- What each act keeps to. -/
def fair (a : Act) : Prop := a.kind ≤ 4 ∧ a.conn ≤ 15 ∧ a.seeds.length ≤ 3 ∧ a.n ≤ 255 ∧ a.data.length ≤ 255
def weight (l : List Act) : Nat := (l.map fun a => 1 + a.data.length).sum
theorem step_fair (bs : List UInt8) (k c : Nat) : fair (step bs k c).1 := by
  have h1 := rdN_lt 1 (bs.drop k)
  have h2 := rdN_lt 1 (bs.drop (min (min (k + 1) bs.length + 2) bs.length))
  unfold step
  simp only
  split
  · exact ⟨by show 2 ≤ 4; omega, by show _ / 5 % 16 ≤ 15; omega, by show 0 ≤ 3; omega, by show 0 ≤ 255; omega, by show (List.take _ _).length ≤ 255; rw [List.length_take]; omega⟩
  · split
    · exact ⟨by show 3 ≤ 4; omega, by show _ / 5 % 16 ≤ 15; omega, by show 0 ≤ 3; omega, by show rdN 1 _ ≤ 255; omega, by show 0 ≤ 255; omega⟩
    · split
      · exact ⟨by show 4 ≤ 4; omega, by show _ / 5 % 16 ≤ 15; omega, by show (List.map _ _).length ≤ 3; rw [List.length_map, List.length_range]; omega, by show 0 ≤ 255; omega, by show 0 ≤ 255; omega⟩
      · exact ⟨by show _ % 5 ≤ 4; omega, by show _ / 5 % 16 ≤ 15; omega, by show 0 ≤ 3; omega, by show 0 ≤ 255; omega, by show 0 ≤ 255; omega⟩
theorem step_clock (bs : List UInt8) (k c : Nat) : (step bs k c).1.clock = (step bs k c).2.2 ∧ c ≤ (step bs k c).2.2 := by
  unfold step
  simp only
  split
  · exact ⟨rfl, Nat.le_add_right _ _⟩
  · split
    · exact ⟨rfl, Nat.le_add_right _ _⟩
    · split
      · exact ⟨rfl, Nat.le_add_right _ _⟩
      · exact ⟨rfl, Nat.le_add_right _ _⟩
theorem step_weight (bs : List UInt8) (k c : Nat) (hk : k < bs.length) : k + 1 + (step bs k c).1.data.length ≤ (step bs k c).2.1 := by
  unfold step
  simp only
  split
  · show k + 1 + (List.take _ (List.drop _ bs)).length ≤ min _ _
    rw [List.length_take, List.length_drop]; omega
  · split
    · show k + 1 + 0 ≤ min _ _; omega
    · split
      · show k + 1 + 0 ≤ min _ _; omega
      · show k + 1 + 0 ≤ min _ _; omega
structure Told (bs : List UInt8) (k c : Nat) (l : List Act) : Prop where
  fair : ∀ (i : Nat) (a : Act), l[i]? = some a → fair a
  up : ∀ (i : Nat) (a b : Act), l[i]? = some a → l[i + 1]? = some b → a.clock ≤ b.clock
  last : ∀ (i : Nat) (a : Act), l[i]? = some a → a.clock ≤ c
  weight : weight l ≤ k
  none : l = [] → k = 0
theorem steps_told {bs : List UInt8} {k c : Nat} {l : List Act} (h : Steps bs k c l) : Told bs k c l := by
  induction h with
  | nil => exact ⟨fun i a h => by simp at h, fun i a b h => by simp at h, fun i a h => by simp at h, Nat.le_refl _, fun _ => rfl⟩
  | @snoc k c l h hk ih =>
    have hc := step_clock bs k c
    have key : ∀ (i : Nat) (a : Act), (l ++ [(step bs k c).1])[i]? = some a → l[i]? = some a ∨ (i = l.length ∧ a = (step bs k c).1) := fun i a h => by
      by_cases hi : i < l.length
      · rw [List.getElem?_append_left hi] at h; exact .inl h
      · rw [List.getElem?_append_right (by omega)] at h
        by_cases e : i = l.length
        · subst e; simp at h; exact .inr ⟨rfl, h.symm⟩
        · rw [List.getElem?_eq_none (by simp; omega)] at h; cases h
    refine ⟨fun i a h => ?_, fun i a b h h' => ?_, fun i a h => ?_, ?_, fun h => by simp at h⟩
    · rcases key i a h with h | ⟨_, rfl⟩
      · exact ih.fair i a h
      · exact step_fair bs k c
    · rcases key (i + 1) b h' with h2 | ⟨e, rfl⟩
      · have h1 : l[i]? = some a := by
          have := (List.getElem?_eq_some_iff.1 h2).1
          rw [List.getElem?_append_left (by omega)] at h; exact h
        exact ih.up i a b h1 h2
      · have h1 : l[i]? = some a := by rw [List.getElem?_append_left (by omega)] at h; exact h
        have := ih.last i a h1
        omega
    · rcases key i a h with h | ⟨_, rfl⟩
      · have := ih.last i a h; omega
      · omega
    · have h1 := ih.weight
      have h2 := step_weight bs k c hk
      unfold Script.weight at *
      rw [List.map_append, List.sum_append]
      simp only [List.map_cons, List.map_nil, List.sum_cons, List.sum_nil]
      omega

theorem decode_any {w : World} {v : Value} {bs : List UInt8} (hv : Sl w v (vb bs)) (hl : bs.length ≤ 100000) :
    Calls Try.prog 8 #[v] w (DecPost bs w) := by
  rcases hv with ⟨hn, av, capv, rfl⟩ | ⟨b, off, cap, rfl, hc1, hc2, hc3, hcell⟩
  · obtain rfl : bs = [] := by cases bs; rfl; simp [vb] at hn
    go_enter Try.func8, Try.ntmps8
    go_wp2_with fail
    refine wp_loop_once ?_
    go_wp2_with fail
    go_ret
    exact ⟨_, 0, [], [], w.heap.size, rfl, Nat.le_refl _, OwnA.nil _ _, rfl, Steps.nil, Nat.le_refl _, (Mod.refl [] w).alloc _⟩
  · rw [vb_length] at *
    exact decode_main hc1 hc2 hc3 hcell hl
theorem flat_length (l : List ActV) : (flat l).length = l.length * 6 := by
  induction l with
  | nil => rfl
  | cons q l ih =>
    have : flat (q :: l) = q.cells ++ flat l := rfl
    rw [this, List.length_append, ih, List.length_cons]
    show 6 + _ = _
    omega
theorem flat_get : ∀ (l : List ActV) (i j : Nat) (q : ActV), l[i]? = some q → j < 6 → (flat l)[6 * i + j]? = q.cells[j]?
  | [], i, j, q, h, _ => by simp at h
  | p :: l, 0, j, q, h, hj => by
    simp only [List.getElem?_cons_zero, Option.some.injEq] at h
    subst h
    have : flat (p :: l) = p.cells ++ flat l := rfl
    rw [this, Nat.mul_zero, Nat.zero_add, List.getElem?_append_left (show j < 6 from hj)]
  | p :: l, i + 1, j, q, h, hj => by
    have h' : l[i]? = some q := by simpa using h
    have : flat (p :: l) = p.cells ++ flat l := rfl
    rw [this, List.getElem?_append_right (by show 6 ≤ _; omega)]
    have := flat_get l i j q h' hj
    rw [show 6 * (i + 1) + j - p.cells.length = 6 * i + j by show 6 * (i + 1) + j - 6 = _; omega]
    exact this
theorem OwnA.at {w : World} {g0 : Nat} {v : Value} {l : List ActV} (h : OwnA w g0 v l) (hn : l ≠ []) :
    ∃ g cap, v = .slice (some ⟨g, 0, none⟩) l.length cap ∧ g < w.heap.size ∧ l.length ≤ cap ∧ cap ≤ maxLen ∧ ∀ i q, l[i]? = some q → ∀ j u, q.cells[j]? = some u → w.cell? ⟨g, i * 6 + j, none⟩ = some u := by
  have h := h.1
  rcases h.2 with ⟨_, h0⟩ | ⟨g, cap, cur, rfl, h1, h2, h3, h4, h5, h6⟩
  · exact absurd (List.eq_nil_of_length_eq_zero h0) hn
  · refine ⟨g, cap, rfl, lt_of_some h2, h3, h4, fun i q hq j u hu => ?_⟩
    have hj : j < 6 := (List.getElem?_eq_some_iff.1 hu).1
    have := h.cells (g := g) rfl (6 * i + j) u (by rw [flat_get l i j q hq hj]; exact hu)
    rw [add_eq, Nat.zero_add] at this; rw [Nat.mul_comm]; exact this
/-- One act of a row, its slices in sight. -/
theorem OwnA.one {w : World} {g0 : Nat} {v : Value} {av : List ActV} (h : OwnA w g0 v av) {l : List Act} (hl : av.map ActV.act = l) {i : Nat} {a : Act} (ha : l[i]? = some a) :
    ∃ (g cap : Nat) (x y : Option Addr) (p q : Nat), v = .slice (some ⟨g, 0, none⟩) l.length cap ∧ g < w.heap.size ∧ l.length ≤ cap ∧ cap ≤ maxLen ∧
      w.cell? ⟨g, i * 6, none⟩ = some (.int .i64 a.kind) ∧ w.cell? ⟨g, i * 6 + 1, none⟩ = some (.int .i64 a.clock) ∧ w.cell? ⟨g, i * 6 + 2, none⟩ = some (.int .i64 a.conn) ∧
      w.cell? ⟨g, i * 6 + 3, none⟩ = some (.slice x a.data.length p) ∧ w.cell? ⟨g, i * 6 + 4, none⟩ = some (.int .i64 a.n) ∧ w.cell? ⟨g, i * 6 + 5, none⟩ = some (.slice y a.seeds.length q) := by
  subst hl
  rw [List.getElem?_map] at ha
  obtain ⟨q, hq, rfl⟩ := Option.map_eq_some_iff.1 ha
  obtain ⟨g, cap, rfl, h1, h2, h3, hx⟩ := h.at (fun e => by rw [e] at hq; simp at hq)
  obtain ⟨k1, k2⟩ := h.2 q (List.mem_of_getElem? hq)
  obtain ⟨x, p, hd, _⟩ := k1.1.open
  obtain ⟨y, p', hs, _⟩ := k2.1.open
  rw [vb_length] at hd
  have hs' : q.s = .slice y q.act.seeds.length p' := by rw [hs]; congr 1; simp [vs]
  have e := hx i q hq
  refine ⟨g, cap, x, y, p, p', by rw [List.length_map], h1, by rw [List.length_map]; exact h2, h3, ?_, e 1 _ rfl, e 2 _ rfl, ?_, e 4 _ rfl, ?_⟩
  · have := e 0 _ rfl; rwa [Nat.add_zero] at this
  · rw [← hd]; exact e 3 _ rfl
  · rw [← hs']; exact e 5 _ rfl

set_option maxRecDepth 4000 in
theorem fit_any (w : World) : Calls Try.prog 7 #[] w fun e w' => e = .returned (.bool true) ∧ Mod [] w w' := by
  have hsl : Sl (w.alloc (.cells (vb [2, 0, 5, 1, 9]).toArray 5)) (.slice (some ⟨w.heap.size, 0, none⟩) 5 5) (vb [2, 0, 5, 1, 9]) :=
    .inr ⟨w.heap.size, 0, 5, rfl, by decide, by unfold maxLen; decide, by simp, fun i u hu => by rw [Nat.zero_add]; exact (Blk.new w (vb [2, 0, 5, 1, 9]) 5).cell hu⟩
  have DEC := Lib.hid (decode_any hsl (by decide))
  clear hsl
  go_enter Try.func7, Try.ntmps7
  go_wp2_with fail
  refine DEC.out.mono ?_
  rintro e1 w1 ⟨v1, c, l, av, g, rfl, hg, hO, hav, hS, hll, hM⟩
  have hl := steps_eq hS hll
  have hl' : l = [⟨2, 5, 0, [9], 0, []⟩] := by rw [hl]; rfl
  obtain ⟨g1, cap, x, y, p, q, rfl, hg1, hc1, hc2, c0, c1, c2, c3, c4, c5⟩ := hO.one hav (i := 0) (a := ⟨2, 5, 0, [9], 0, []⟩) (by rw [hl']; rfl)
  rw [hl'] at hc1 ⊢
  have M1 := Lib.hid hM
  clear hM hO hS hl hl' hav hll hg
  simp only [Nat.zero_mul, Nat.zero_add] at c0 c1 c2 c3 c4 c5
  go_wp2_with fail
  go_ret
  exact ⟨rfl, ((Mod.refl [] w).alloc _).trans M1.out⟩
end Go.Proofs.Ytmiagiemagdnfaa.Script
