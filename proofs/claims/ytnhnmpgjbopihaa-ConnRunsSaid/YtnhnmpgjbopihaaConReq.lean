/- Requests: unlike ones have unlike bytes; a request in a block of its own. -/
import Derived.Test.YtnhnmpgjbopihaaFrameA
namespace Go.Proofs.Ytnhnmpgjbopihaa.Frame
open Go Go.RowKit Go.YtnhnmpgjbopihaaMem Go.YtnhnmpgjbopihaaLex
set_option linter.unusedVariables false
set_option linter.unusedSimpArgs false

def Req.may (q : Req) (rules : Int) : Prop := 0 ≤ q.rule ∧ q.rule < rules ∧ q.rule ≤ 255 ∧
  ((q.op = 1 ∨ q.op = 2) ∧ q.key.length ≤ 64 ∧ q.k = 0 ∨ q.op = 3 ∧ q.cost = 0 ∧ q.key = [] ∧ q.k = 0 ∨ q.op = 4 ∧ q.cost = 0 ∧ q.key = [] ∧ 0 ≤ q.k ∧ q.k ≤ 255)
instance (q : Req) (rules : Int) : Decidable (q.may rules) := by unfold Req.may; infer_instance

theorem b8_inj {x y : Int} (hx : 0 ≤ x ∧ x < 256) (hy : 0 ≤ y ∧ y < 256) (h : b8 x = b8 y) : x = y := by
  have := b8_val x; have := b8_val y; rw [h] at *; omega
theorem be4_inj {x y : Nat} (hx : x < 4294967296) (hy : y < 4294967296) (h : be 4 x = be 4 y) : x = y := by
  have e : ∀ x, be 4 x = [UInt8.ofNat (x / 16777216), UInt8.ofNat (x / 65536), UInt8.ofNat (x / 256), UInt8.ofNat (x / 1)] := fun x => rfl
  rw [e, e] at h
  simp only [List.cons.injEq, and_true] at h
  obtain ⟨h1, h2, h3, h4⟩ := h
  have t : ∀ a b, UInt8.ofNat a = UInt8.ofNat b → a % 256 = b % 256 := fun a b h => by
    have := congrArg UInt8.toNat h; simpa [UInt8.toNat_ofNat'] using this
  have := t _ _ h1; have := t _ _ h2; have := t _ _ h3; have := t _ _ h4
  omega

theorem Req.may_len {q : Req} {n : Int} (h : q.may n) : 2 ≤ q.body.length ∧ q.body.length ≤ 71 ∧
    q.body.length = (if q.op = 1 ∨ q.op = 2 then 7 + q.key.length else if q.op = 4 then 3 else 2) := by
  obtain ⟨_, _, _, h⟩ := h
  unfold Req.body
  rcases h with ⟨h, h', _⟩ | ⟨h, _⟩ | ⟨h, _⟩
  · simp only [h, if_true]; simp [be_length]; omega
  · have n1 : ¬ (q.op = 1 ∨ q.op = 2) := by omega
    have n2 : ¬ q.op = 4 := by omega
    simp only [n1, n2, if_false]; simp
  · have n1 : ¬ (q.op = 1 ∨ q.op = 2) := by omega
    simp only [n1, if_false]; simp [h]
theorem body_inj {p q : Req} {n : Int} (hp : p.may n) (hq : q.may n) (cp : p.cost < 4294967296) (cq : q.cost < 4294967296) (h : p.body = q.body) : p = q := by
  have hl := congrArg List.length h
  have lp := (Req.may_len hp).2.2
  have lq := (Req.may_len hq).2.2
  have hh := h
  unfold Req.body at hh
  simp only [List.cons_append, List.nil_append, List.cons.injEq] at hh
  obtain ⟨h1, h2, h3⟩ := hh
  obtain ⟨hp0, hp1, hp2, hp3⟩ := hp
  obtain ⟨hq0, hq1, hq2, hq3⟩ := hq
  have eop : p.op = q.op := b8_inj (by omega) (by omega) h1
  have er : p.rule = q.rule := b8_inj (by omega) (by omega) h2
  obtain ⟨op, rule, cost, key, k⟩ := p
  obtain ⟨op', rule', cost', key', k'⟩ := q
  simp only at *
  subst eop er
  by_cases h12 : op = 1 ∨ op = 2
  · rw [if_pos h12, if_pos h12] at h3
    rw [List.append_assoc, List.append_assoc] at h3
    obtain ⟨g1, g2⟩ := List.append_inj h3 (by rw [be_length, be_length])
    have := be4_inj cp cq g1
    simp only [List.cons_append, List.nil_append, List.cons.injEq] at g2
    obtain ⟨_, rfl⟩ := g2
    subst this
    congr 1
    omega
  · rw [if_neg h12, if_neg h12] at h3
    have e1 : cost = cost' := by omega
    have e2 : key = key' := by
      rcases hp3 with h | ⟨_, _, h, _⟩ | ⟨_, _, h, _⟩
      · omega
      · rcases hq3 with h' | ⟨_, _, h', _⟩ | ⟨_, _, h', _⟩
        · omega
        · rw [h, h']
        · rw [h, h']
      · rcases hq3 with h' | ⟨_, _, h', _⟩ | ⟨_, _, h', _⟩
        · omega
        · rw [h, h']
        · rw [h, h']
    subst e1 e2
    congr 1
    by_cases h4 : op = 4
    · rw [if_pos h4, if_pos h4] at h3
      exact b8_inj (by omega) (by omega) (List.cons.inj h3).1
    · omega

theorem frame_length (s : UInt8) (bs : List UInt8) : (frame s bs).length = 4 + bs.length := by simp [frame]; omega
theorem bytes_apart {p q : Req} {n : Int} (hp : p.may n) (hq : q.may n) (cp : p.cost < 4294967296) (cq : q.cost < 4294967296)
    (h : p.bytes.take (min p.bytes.length q.bytes.length) = q.bytes.take (min p.bytes.length q.bytes.length)) : p = q := by
  obtain ⟨p1, p2, _⟩ := Req.may_len hp
  obtain ⟨q1, q2, _⟩ := Req.may_len hq
  have hp' : p.bytes.length = 4 + p.body.length := frame_length _ _
  have hq' : q.bytes.length = 4 + q.body.length := frame_length _ _
  have h3 : p.bytes[3]? = q.bytes[3]? := by
    have := congrArg (fun l : List UInt8 => l[3]?) h
    rwa [List.getElem?_take_of_lt (by omega), List.getElem?_take_of_lt (by omega)] at this
  have hl : p.body.length = q.body.length := by
    simp only [Req.bytes, frame, List.cons_append, List.nil_append, List.getElem?_cons_succ, List.getElem?_cons_zero, Option.some.injEq] at h3
    have := congrArg UInt8.toNat h3
    simp only [UInt8.toNat_ofNat'] at this
    omega
  have hm1 : min p.bytes.length q.bytes.length = p.bytes.length := by omega
  have hm2 : min p.bytes.length q.bytes.length = q.bytes.length := by omega
  rw [List.take_of_length_le (by omega), List.take_of_length_le (by omega)] at h
  refine body_inj hp hq cp cq ?_
  unfold Req.bytes frame at h
  exact (List.append_inj h rfl).2

def TruePost (w : World) (e : Ending) (w' : World) : Prop := e = .returned (.bool true) ∧ Mod [] w w'

/-- A request that lies in a block of its own. -/
def Box (w : World) (b : Nat) (q : Req) : Prop := Blk w b 50 q.cells
theorem Box.facts {w : World} {b : Nat} {q : Req} (h : Box w b q) : w.cell? ⟨b, 0, none⟩ = some (.int .i64 q.op) ∧ w.cell? ⟨b, 1, none⟩ = some (.int .i64 q.rule) ∧ w.cell? ⟨b, 2, none⟩ = some (.int .u32 q.cost) ∧
    w.cell? ⟨b, 3, none⟩ = some (.string ⟨q.key.toArray⟩) ∧ w.cell? ⟨b, 4, none⟩ = some (.int .i64 q.k) :=
  ⟨h.cell rfl, h.cell rfl, h.cell rfl, h.cell rfl, h.cell rfl⟩
theorem Box.mod {w w' : World} {b : Nat} {q : Req} (h : Box w b q) (hm : Mod [] w w') : Box w' b q := hm.blk h (by simp)
theorem Box.new (w : World) (q : Req) {n : Nat} (hn : w.heap.size = n) : Box (w.alloc (.cells q.cells.toArray 50)) n q := by subst hn; exact Blk.new w _ _
end Go.Proofs.Ytnhnmpgjbopihaa.Frame
