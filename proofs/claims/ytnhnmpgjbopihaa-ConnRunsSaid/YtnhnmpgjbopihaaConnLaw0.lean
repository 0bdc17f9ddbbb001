/- conn's laws: Accept of any slice; the example. -/
import Derived.Test.YtnhnmpgjbopihaaAccept
namespace Go.Proofs.Ytnhnmpgjbopihaa.Conn
open Go Go.RowKit Go.YtnhnmpgjbopihaaMem Go.YtnhnmpgjbopihaaLex Go.Proofs.Ytnhnmpgjbopihaa.Frame Go.Proofs.Ytnhnmpgjbopihaa.Out
set_option linter.unusedVariables false
set_option linter.unusedSimpArgs false

/-- A slice of bytes that lies below block K. -/
def InB (w : World) (K : Nat) (v : Value) (bs : List UInt8) : Prop :=
  (bs = [] ∧ ∃ a c, v = .slice a 0 c) ∨ ∃ b off cap, v = .slice (some ⟨b, off, none⟩) bs.length cap ∧ b < K ∧ bs.length ≤ cap ∧ cap ≤ maxLen ∧ ∀ i u, (vb bs)[i]? = some u → w.cell? ⟨b, off + i, none⟩ = some u
theorem InB.of {w : World} {v : Value} {bs : List UInt8} (h : Sl w v (vb bs)) : InB w w.heap.size v bs := by
  rcases h with ⟨h0, a, c, rfl⟩ | ⟨b, off, cap, rfl, h1, h2, h3, h4⟩
  · left; exact ⟨by cases bs; rfl; simp [vb] at h0, a, c, rfl⟩
  · rw [vb_length] at *; exact .inr ⟨b, off, cap, rfl, h3, h1, h2, h4⟩
theorem InB.mod {S : List Nat} {w w' : World} {K : Nat} {v : Value} {bs : List UInt8} (h : InB w K v bs) (hm : Mod S w w') (hK : K ≤ w.heap.size) (hS : ∀ x, x ∈ S → K ≤ x) : InB w' K v bs := by
  rcases h with h | ⟨b, off, cap, rfl, h1, h2, h3, h4⟩
  · exact .inl h
  · exact .inr ⟨b, off, cap, rfl, h1, h2, h3, fun i u hu => (hm.cell (show b < _ by omega) (fun hx => by have := hS b hx; omega)).trans (h4 i u hu)⟩
theorem InB.slice {w : World} {K : Nat} {v : Value} {bs : List UInt8} (h : InB w K v bs) : ∃ a c, v = .slice a bs.length c := by
  rcases h with ⟨rfl, a, c, rfl⟩ | ⟨b, off, cap, rfl, _⟩
  · exact ⟨a, c, rfl⟩
  · exact ⟨_, cap, rfl⟩

set_option maxRecDepth 4000 in
theorem accept_any {w : World} {g p d N hb B K : Nat} {rules : Int} {v val : Value} {bs : List UInt8} (s0 : CS) (hC : Con w g p d N rules rules s0.pend s0.err s0.out true) (hH : Hst w hb B v s0.reqs) (hgB : g < B ∧ p < B ∧ d < B) (hne : g ≠ hb ∧ p ≠ hb ∧ d ≠ hb)
    (hl : bs.length ≤ 100000) (hr : s0.reqs.length ≤ 100000) (hI : InB w K val bs) (hK : K ≤ g ∧ K ≤ p ∧ K ≤ d ∧ K ≤ hb) :
    Calls Try.prog 14 #[.pointer (some ⟨g, 0, none⟩), val, .iface 27 (.pointer (some ⟨hb, 0, none⟩))] w (AcceptPost w g p d N hb B rules v (crun rules N s0 bs)) := by
  rcases hI with ⟨rfl, a, c, rfl⟩ | ⟨b, off, cap, rfl, h1, h2, h3, h4⟩
  · have HC := Lib.hid hC
    have HH := Lib.hid hH
    clear hC hH
    go_enter Try.func14, Try.ntmps14
    go_wp2_with fail
    refine (isOpen_any HC.out).mono ?_
    rintro e w' ⟨rfl, rfl⟩
    go_wp2_with fail
    refine wp_loop_once ?_
    go_wp2_with fail
    go_ret
    exact ⟨v, rfl, HC.out, HH.out, Mod.refl _ w, fun b hb => .inl hb⟩
  · have hhb := hH.2.2.1
    exact accept_main s0 hC hH hgB hne hl hr (by omega) (by omega) h4
theorem accept_no {w : World} {g p d N : Nat} {rules dr : Int} {pend : List UInt8} {err : Nat} {q : List UInt8} (h : Con w g p d N rules dr pend err q false) (a : Option Addr) (n c : Nat) (x : Value) :
    Calls Try.prog 14 #[.pointer (some ⟨g, 0, none⟩), .slice a n c, x] w fun e w' => e = .returned (.int .i64 0) ∧ w = w' := by
  have H := Lib.hid h
  clear h
  go_enter Try.func14, Try.ntmps14
  go_wp2_with fail
  refine (isOpen_any H.out).mono ?_
  rintro e w' ⟨rfl, rfl⟩
  go_wp2_with fail
  go_ret
  exact ⟨rfl, rfl⟩
theorem accept_nil (w : World) (a : Option Addr) (n c : Nat) (x : Value) :
    Calls Try.prog 14 #[.pointer none, .slice a n c, x] w fun e w' => e = .returned (.int .i64 0) ∧ w = w' := by
  go_enter Try.func14, Try.ntmps14
  go_wp2_with fail
  refine (isOpen_nil w).mono ?_
  rintro e w' ⟨rfl, rfl⟩
  go_wp2_with fail
  go_ret
  exact ⟨rfl, rfl⟩

set_option maxRecDepth 4000 in
theorem fit_any (w : World) : Calls Try.prog 10 #[] w fun e w' => e = .returned (.bool true) ∧ Mod [] w w' := by
  go_enter Try.func10, Try.ntmps10
  go_wp2_with fail
  refine (new_con w 1 30 (by decide) (by decide)).mono ?_
  rintro e w1 ⟨g, p, d, rfl, hC1, hg, hp, hd, hM1⟩
  have C1 := Lib.hid hC1
  have M1 := Lib.hid hM1
  clear hC1 hM1
  go_wp2_with fail
  refine (open_yes C1.out).mono ?_
  rintro e w2 ⟨rfl, hC2, hM2⟩
  have C2 := Lib.hid hC2
  have M2 := Lib.hid (M1.out.trans' hM2 (by simp; omega))
  clear hC2 hM2
  go_wp2_with fail
  refine (open_no C2.out).mono ?_
  rintro e w3 ⟨rfl, rfl⟩
  go_wp2_with fail
  refine (isOpen_any C2.out).mono ?_
  rintro e w3 ⟨rfl, rfl⟩
  go_wp2_with fail
  refine (room_con C2.out).mono ?_
  rintro e w3 ⟨rfl, rfl⟩
  go_wp2_with fail
  refine (waits_any (C2.out.mod (Mod.drew (Mod.refl [] _)) (by simp) (by simp) (by simp))).mono ?_
  rintro e w3 ⟨rfl, rfl⟩
  go_wp2_with fail
  go_ret
  exact ⟨rfl, M2.out.drew⟩
end Go.Proofs.Ytnhnmpgjbopihaa.Conn
