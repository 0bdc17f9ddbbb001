/- index's laws: fit. -/
import Derived.Test.YtgnemlfheiaolaaIndex4
namespace Go.Proofs.Ytgnemlfheiaolaa.Index
open Go Go.RowKit Go.YtgnemlfheiaolaaMem Go.YtgnemlfheiaolaaLex Go.Proofs.Ytgnemlfheiaolaa.Hash Go.Proofs.Ytgnemlfheiaolaa.Keys Go.Proofs.Ytgnemlfheiaolaa.Probe
set_option linter.unusedVariables false
set_option linter.unusedSimpArgs false

def emp (n : Nat) : List (Option (List UInt8)) := List.replicate n none
theorem emp_no (n p : Nat) (k : List UInt8) : (emp n)[p]? ≠ some (some k) := by
  intro h
  unfold emp at h
  rw [List.getElem?_replicate] at h
  split at h <;> simp at h
/-- What comes of putting: nothing old is turned. -/
theorem IdxAt.lt {w : World} {x g : Nat} {L : List Nat} {r : Row} {S : List (Option (List UInt8))} {fl : List Nat} (h : IdxAt w x g L r S fl) : ∀ b, b ∈ L → b < w.heap.size := by
  obtain ⟨b1, b2, b3, t, bs, nx, T, rfl, h⟩ := h
  intro b hb
  have hl := sto_lt h.sto
  simp at hb
  rcases hb with rfl | rfl | rfl | rfl | rfl | rfl
  · exact h.blk.lt
  · exact hl _ (by simp)
  · exact hl _ (by simp)
  · exact hl _ (by simp)
  · exact hl _ (by simp)
  · exact h.tab.lt
theorem new_at {w : World} {g b1 b2 b3 n : Nat} {bs : List UInt8} {nx : List Int} (h : Sto w g b1 b2 b3 (List.replicate n none) (List.range n) bs nx) (r : Row) (hr : r.ok) :
    Calls Try.prog 8 #[.pointer (some ⟨g, 0, none⟩), .agg #[.int .u64 (r.x : Int), .int .u64 (r.a : Int), .int .u64 (r.b : Int)]] w (MadePost g [g, b1, b2, b3] r (emp n) (List.range n) w) :=
  new_any h (emp_no n) r hr
set_option maxRecDepth 4000 in
set_option maxHeartbeats 1600000 in
theorem fit_any (w : World) : Calls Try.prog 7 #[] w fun e w' => e = .returned (.bool true) ∧ Mod [] w w' := by
  have h7 : ∀ w : World, Calls Try.prog 18 #[.int .i64 3] w fun e w' => e = .returned (.int .i64 7) ∧ w = w' := fun w => size_any 3 (by omega) w
  have H7 := Lib.hid h7
  clear h7
  go_enter Try.func7, Try.ntmps7
  go_wp2_with fail
  refine (Keys.new_any 3 (by omega) _).mono ?_
  rintro e1 w1 ⟨g, b1, b2, b3, bs, nx, rfl, hS, hg, h1, h2, h3, hM1⟩
  have HS := Lib.hid hS
  have M1 := Lib.hid hM1
  clear hS hM1
  go_wp2_with fail
  refine (new_at HS.out ⟨1, 1, 0⟩ ⟨by decide, by decide, by decide⟩).mono ?_
  rintro e2 w2 ⟨x, L, rfl, hI, hL, hx, hM2⟩
  have M2 := Lib.hid (M1.out.trans hM2)
  have HL : Hid (∀ b, b ∈ L → w.heap.size ≤ b) := Lib.hid fun b hb => by
    rcases hL b hb with h | h
    · simp at h; omega
    · have := M1.out.size; omega
  have I2 := Lib.hid hI
  clear hI hL hM2
  go_wp2_with fail
  refine (put_any I2.out [97] (by decide)).mono ?_
  rintro e3 w3 ⟨rfl, hI, hM⟩
  have e3 : (putS (emp 3) (List.range 3) [97]).1 = 0 := by decide
  have I3 := Lib.hid hI
  have M3 := Lib.hid (M2.out.trans' hM (fun b hb => .inr (HL.out b hb)))
  rw [e3]
  clear hI hM e3
  go_wp2_with fail
  refine (put_any I3.out [98] (by decide)).mono ?_
  rintro e4 w4 ⟨rfl, hI, hM⟩
  have e4 : (putS (putS (emp 3) (List.range 3) [97]).2.1 (putS (emp 3) (List.range 3) [97]).2.2 [98]).1 = 1 := by decide
  have I4 := Lib.hid hI
  have M4 := Lib.hid (M3.out.trans' hM (fun b hb => .inr (HL.out b hb)))
  rw [e4]
  clear hI hM e4
  go_wp2_with fail
  refine (remove_any I4.out [97] (by decide)).mono ?_
  rintro e5 w5 ⟨rfl, hI, hM⟩
  have e5 : (remS (putS (putS (emp 3) (List.range 3) [97]).2.1 (putS (emp 3) (List.range 3) [97]).2.2 [98]).2.1 (putS (putS (emp 3) (List.range 3) [97]).2.1 (putS (emp 3) (List.range 3) [97]).2.2 [98]).2.2 [97]).1 = 0 := by decide
  have I5 := Lib.hid hI
  have M5 := Lib.hid (M4.out.trans' hM (fun b hb => .inr (HL.out b hb)))
  rw [e5]
  clear hI hM e5
  go_wp2_with fail
  obtain ⟨S5, hS5⟩ : ∃ S5, (remS (putS (putS (emp 3) (List.range 3) [97]).2.1 (putS (emp 3) (List.range 3) [97]).2.2 [98]).2.1 (putS (putS (emp 3) (List.range 3) [97]).2.1 (putS (emp 3) (List.range 3) [97]).2.2 [98]).2.2 [97]).2.1 = S5 := ⟨_, rfl⟩
  rw [hS5] at I5
  have eb : optInt (placeOf S5 [98]) = 1 := by rw [← hS5]; decide
  have ea : optInt (placeOf S5 [97]) = -1 := by rw [← hS5]; decide
  have EA := Lib.hid ea
  have EB := Lib.hid eb
  clear hS5 ea eb
  refine (find_any I5.out [98] (by decide)).mono ?_
  rintro e6 w6 ⟨rfl, hM⟩
  rw [EB.out]
  have I6 := Lib.hid (I5.out.mod hM (by simp))
  have M6 := Lib.hid (M5.out.trans hM)
  clear hM
  go_wp2_with fail
  refine (find_any I6.out [97] (by decide)).mono ?_
  rintro e7 w7 ⟨rfl, hM⟩
  rw [EA.out]
  have M7 := Lib.hid (M6.out.trans hM)
  clear hM
  go_wp2_with fail
  refine (H7.out _).mono ?_
  rintro e8 w8 ⟨rfl, rfl⟩
  go_wp2_with fail
  go_ret
  exact ⟨rfl, M7.out⟩
end Go.Proofs.Ytgnemlfheiaolaa.Index
