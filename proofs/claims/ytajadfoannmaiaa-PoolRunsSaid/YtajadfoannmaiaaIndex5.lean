/- index.Index: New over an empty store; where it lies. -/
import Derived.Test.YtajadfoannmaiaaIndex4
namespace Go.Proofs.Ytajadfoannmaiaa.Index
open Go Go.RowKit Go.YtajadfoannmaiaaMem Go.YtajadfoannmaiaaLex Go.Proofs.Ytajadfoannmaiaa.Hash Go.Proofs.Ytajadfoannmaiaa.Keys Go.Proofs.Ytajadfoannmaiaa.Probe
set_option linter.unusedVariables false
set_option linter.unusedSimpArgs false

def emp (n : Nat) : List (Option (List UInt8)) := List.replicate n none
theorem emp_no (n p : Nat) (k : List UInt8) : (emp n)[p]? ≠ some (some k) := by
  intro h
  unfold emp at h
  rw [List.getElem?_replicate] at h
  split at h <;> simp at h
/-- What comes of putting: nothing old is turned. -/
theorem IdxAt.lt {w : World} {x g : Nat} {L : List Nat} {r : Row} {S : List (Option (List UInt8))} {fl : List Nat} (h : IdxAt w x g L r S fl) : ∀ b, b ∈ L → b < w.heap.size := by
  obtain ⟨b1, b2, b3, t, bs, nx, T, rfl, h⟩ := h
  intro b hb
  have hl := sto_lt h.sto
  simp at hb
  rcases hb with rfl | rfl | rfl | rfl | rfl | rfl
  · exact h.blk.lt
  · exact hl _ (by simp)
  · exact hl _ (by simp)
  · exact hl _ (by simp)
  · exact hl _ (by simp)
  · exact h.tab.lt
theorem new_at {w : World} {g b1 b2 b3 n : Nat} {bs : List UInt8} {nx : List Int} (h : Sto w g b1 b2 b3 (List.replicate n none) (List.range n) bs nx) (r : Row) (hr : r.ok) :
    Calls Try.prog 21 #[.pointer (some ⟨g, 0, none⟩), .agg #[.int .u64 (r.x : Int), .int .u64 (r.a : Int), .int .u64 (r.b : Int)]] w (MadePost g [g, b1, b2, b3] r (emp n) (List.range n) w) :=
  new_any h (emp_no n) r hr
end Go.Proofs.Ytajadfoannmaiaa.Index
