/- limiter's laws: alike, of events that are the same. -/
import Derived.Test.YtndekdafiaogmaaZLimC
section
namespace Go.Proofs.Ytndekdafiaogmaa.Lim
open Go Go.RowKit Go.YtndekdafiaogmaaMem Go.YtndekdafiaogmaaLex Go.Proofs.Ytndekdafiaogmaa.Hash Go.Proofs.Ytndekdafiaogmaa.Arith Go.Proofs.Ytndekdafiaogmaa.Index Go.Proofs.Ytndekdafiaogmaa.Cell Go.Proofs.Ytndekdafiaogmaa.Slot
set_option linter.unusedVariables false
set_option linter.unusedSimpArgs false

set_option maxRecDepth 8000 in
set_option maxHeartbeats 3200000 in
theorem alike_any {w : World} {A B : Nat} {va vb : Value} {l : List Ev} (ha : OwnE w A va l) (hb : OwnE w B vb l) (hl : l.length ≤ 1000) :
    Calls Try.prog 27 #[va, vb] w fun e w' => e = .returned (.bool true) ∧ Mod [] w w' := by
  by_cases hn : l = []
  · subst hn
    obtain ⟨a1, c1, rfl⟩ := ha.slice
    obtain ⟨a2, c2, rfl⟩ := hb.slice
    clear ha hb hl
    simp only [List.length_nil]
    go_enter Try.func27, Try.ntmps27
    go_wp2_with fail
    go_loopw [13] (fun i W => i = .int .i64 0 ∧ Mod [] w W) (fun i _ => 0)
    case atStart => exact ⟨rfl, Mod.refl _ _⟩
    case round =>
      obtain ⟨rfl, hM⟩ := hrel
      have MR := Lib.hid hM
      clear hM
      go_wp2_with fail
      go_ret
      exact ⟨rfl, MR.out⟩
  · obtain ⟨g1, c1, rfl, h1, h1l, hc1⟩ := ha.at hn
    obtain ⟨g2, c2, rfl, h2, h2l, hc2⟩ := hb.at hn
    have G1 := Lib.hid hc1
    have G2 := Lib.hid hc2
    have L1 := Lib.hid h1l
    have L2 := Lib.hid h2l
    have HL := Lib.hid hl
    obtain ⟨n, hn'⟩ : ∃ n, l.length = n := ⟨_, rfl⟩
    have HN := Lib.hid hn'
    rw [hn'] at hl ⊢
    clear ha hb hc1 hc2 hn h1 h2 hn' h1l h2l
    go_enter Try.func27, Try.ntmps27
    go_wp2_with fail
    go_loopw [13] (fun i W => ∃ k : Nat, k ≤ n ∧ i = .int .i64 (k : Int) ∧ Mod [] w W) (fun i _ => n - (intOf i).toNat)
    case atStart => exact ⟨0, Nat.zero_le _, rfl, Mod.refl _ _⟩
    case round =>
      obtain ⟨k, hk, rfl, hM⟩ := hrel
      have MR := Lib.hid hM
      by_cases hlt : k < n
      · obtain ⟨q, hq⟩ : ∃ q, l[k]? = some q := ⟨_, List.getElem?_eq_getElem (by have := HN.out; omega)⟩
        have hd : decide ((k : Int) < (n : Int)) = true := by simp; omega
        have hd' : decide (k < n) = true := by simp; omega
        have x0 := (hM.cell (a := ⟨g1, k * 4 + 0, none⟩) L1.out (by simp)).trans (G1.out k q hq 0 _ rfl)
        have x1 := (hM.cell (a := ⟨g1, k * 4 + 1, none⟩) L1.out (by simp)).trans (G1.out k q hq 1 _ rfl)
        have x2 := (hM.cell (a := ⟨g1, k * 4 + 2, none⟩) L1.out (by simp)).trans (G1.out k q hq 2 _ rfl)
        have x3 := (hM.cell (a := ⟨g1, k * 4 + 3, none⟩) L1.out (by simp)).trans (G1.out k q hq 3 _ rfl)
        have y0 := (hM.cell (a := ⟨g2, k * 4 + 0, none⟩) L2.out (by simp)).trans (G2.out k q hq 0 _ rfl)
        have y1 := (hM.cell (a := ⟨g2, k * 4 + 1, none⟩) L2.out (by simp)).trans (G2.out k q hq 1 _ rfl)
        have y2 := (hM.cell (a := ⟨g2, k * 4 + 2, none⟩) L2.out (by simp)).trans (G2.out k q hq 2 _ rfl)
        have y3 := (hM.cell (a := ⟨g2, k * 4 + 3, none⟩) L2.out (by simp)).trans (G2.out k q hq 3 _ rfl)
        rw [Nat.add_zero] at x0 y0
        obtain ⟨key, up, at_⟩ := q
        simp only at x1 x2 x3 y1 y2 y3
        clear hM hq
        go_wp2_with fail
        refine Go.YtndekdafiaogmaaLex.wp_region_lex (by kernel_rfl) (by kernel_rfl) ?_
        go_wp2_with fail
        refine ⟨by kernel_rfl, ?_⟩
        go_wp2_with fail
        go_roundw
        case rel => exact ⟨k + 1, by omega, by go_num, MR.out.drew⟩
        case measure => simp [intOf]; omega
      · obtain rfl : k = n := by omega
        have hd : decide ((k : Int) < (k : Int)) = false := by simp
        clear hM
        go_wp2_with fail
        go_ret
        exact ⟨rfl, MR.out⟩
end Go.Proofs.Ytndekdafiaogmaa.Lim
end
