/- The first bytes of an answer's frame, as FrameSizes reads them. -/
import Derived.Test.YtpjmoomjbcplgaaFrameList
namespace Go.Proofs.Ytpjmoomjbcplgaa.Frame
open Go Go.RowKit Go.YtpjmoomjbcplgaaMem Go.YtpjmoomjbcplgaaLex
set_option linter.unusedVariables false
set_option linter.unusedSimpArgs false

set_option maxRecDepth 8000 in
theorem or_two {a c : Nat} (ha : a < 256) (hc : c < 256) : bits .or .i64 ((a : Int) * 256) (c : Int) = ((a * 256 + c : Nat) : Int) := by
  rw [show (a : Int) * 256 = ((a * 256 : Nat) : Int) by simp]
  simp only [bits, BitVec.ofInt_natCast, BitVec.toNat_or, BitVec.toNat_ofNat]
  simp only [show IntKind.i64.bits = 64 from rfl]
  rw [Nat.mod_eq_of_lt (show a * 256 < 2 ^ 64 by omega), Nat.mod_eq_of_lt (show c < 2 ^ 64 by omega)]
  have : a * 256 ||| c = a * 256 + c := by
    have := Nat.two_pow_add_eq_or_of_lt (i := 8) (b := c) hc a
    rw [show (2 : Nat) ^ 8 * a = a * 256 by omega] at this
    exact this.symm
  rw [this, IntKind.wrap_i64]
  omega
/-- A row that holds an answer's frame. -/
structure Head (w : World) (v : Value) (m : Nat) : Prop where
  at_ : ∃ g c k, v = .slice (some ⟨g, 0, none⟩) (m + 4) c ∧ g < w.heap.size ∧ m + 4 ≤ c ∧ 2 ≤ m ∧ m < 65536 ∧ 128 ≤ k ∧ k < 256 ∧
    w.cell? ⟨g, 0, none⟩ = some (.int .u8 168) ∧ w.cell? ⟨g, 1, none⟩ = some (.int .u8 1) ∧ w.cell? ⟨g, 2, none⟩ = some (.int .u8 ((m / 256 : Nat) : Int)) ∧
    w.cell? ⟨g, 3, none⟩ = some (.int .u8 ((m % 256 : Nat) : Int)) ∧ w.cell? ⟨g, 4, none⟩ = some (.int .u8 ((k : Nat) : Int))
theorem Head.mod {w w' : World} {v : Value} {m : Nat} (h : Head w v m) (hm : Mod [] w w') : Head w' v m := by
  obtain ⟨g, c, k, h1, h2, h3, h4, h5, h6, h7, c0, c1, c2, c3, c4⟩ := h.at_
  have e := fun i => hm.cell (a := ⟨g, i, none⟩) h2 (by simp)
  exact ⟨g, c, k, h1, hm.lt h2, h3, h4, h5, h6, h7, (e 0).trans c0, (e 1).trans c1, (e 2).trans c2, (e 3).trans c3, (e 4).trans c4⟩
theorem head_of {w : World} {B : Nat} {v : Value} {k : UInt8} {body : List UInt8} (h : OwnB w B v (frame 0xA8 (k :: body))) (hk : 128 ≤ k.toNat) (h1 : 1 ≤ body.length) (hl : body.length < 60000) : Head w v (body.length + 1) := by
  have hlen : (frame 0xA8 (k :: body)).length = body.length + 1 + 4 := by simp [frame]
  obtain ⟨g, c, rfl, hg, hgl, hc⟩ := own_one h (by rw [hlen]; omega)
  have hcap : (frame 0xA8 (k :: body)).length ≤ c := by
    rcases h.2 with ⟨h, _⟩ | ⟨g, cap, cur, h, _, _, h1, h2, _⟩
    · cases h
    · injection h with _ _ h; subst h; exact h1
  have hk2 := k.toNat_lt
  have e : vb (frame 0xA8 (k :: body)) = [.int .u8 168, .int .u8 1, .int .u8 ((UInt8.ofNat ((body.length + 1) / 256)).toNat : Int), .int .u8 ((UInt8.ofNat (body.length + 1)).toNat : Int), .int .u8 (k.toNat : Int)] ++ vb body := rfl
  have f : ∀ (i : Nat) (u : Value), (vb (frame 0xA8 (k :: body)))[i]? = some u → w.cell? ⟨g, i, none⟩ = some u := hc
  refine ⟨g, c, k.toNat, by rw [hlen], hgl, by omega, by omega, by omega, hk, hk2, f 0 _ rfl, f 1 _ rfl, ?_, ?_, f 4 _ rfl⟩
  · have h := f 2 (.int .u8 ((UInt8.ofNat ((body.length + 1) / 256)).toNat : Int)) rfl
    rw [UInt8.toNat_ofNat', Nat.mod_eq_of_lt (show (body.length + 1) / 256 < 2 ^ 8 by omega)] at h; exact h
  · have h := f 3 (.int .u8 ((UInt8.ofNat (body.length + 1)).toNat : Int)) rfl
    rw [UInt8.toNat_ofNat'] at h; exact h
end Go.Proofs.Ytpjmoomjbcplgaa.Frame
