/- frame: the bytes of a request that bytes tell are these bytes. -/
import Derived.Test.YtfmojpkggkjceaaParseLaw
import Derived.Test.YtfmojpkggkjceaaParseRef
namespace Go.Proofs.Ytfmojpkggkjceaa.Frame
open Go Go.RowKit Go.YtfmojpkggkjceaaMem Go.YtfmojpkggkjceaaLex
set_option linter.unusedVariables false
set_option linter.unusedSimpArgs false

theorem of_b8 (a : UInt8) : b8 (a.toNat : Int) = a := by
  apply UInt8.toNat_inj.1
  have h := b8_val (a.toNat : Int)
  have := a.toNat_lt
  omega
theorem be_num4 (a b c d : UInt8) : be 4 (numOf [a, b, c, d]) = [a, b, c, d] := by
  have e : ∀ x, be 4 x = [UInt8.ofNat (x / 16777216), UInt8.ofNat (x / 65536), UInt8.ofNat (x / 256), UInt8.ofNat (x / 1)] := fun _ => rfl
  have h1 := a.toNat_lt
  have h2 := b.toNat_lt
  have h3 := c.toNat_lt
  have h4 := d.toNat_lt
  have en : numOf [a, b, c, d] = ((a.toNat * 256 + b.toNat) * 256 + c.toNat) * 256 + d.toNat := by simp [numOf]
  rw [e, en]
  congr 1
  · apply UInt8.toNat_inj.1; rw [UInt8.toNat_ofNat']; omega
  congr 1
  · apply UInt8.toNat_inj.1; rw [UInt8.toNat_ofNat']; omega
  congr 1
  · apply UInt8.toNat_inj.1; rw [UInt8.toNat_ofNat']; omega
  congr 1
  · apply UInt8.toNat_inj.1; rw [UInt8.toNat_ofNat']; omega

theorem may_12 {op rule k rules : Int} {cost : Nat} {key : List UInt8} (h0 : 0 ≤ rule) (h1 : rule < rules) (h2 : rule ≤ 255) (h3 : op = 1 ∨ op = 2) (h4 : key.length ≤ 64) (h5 : k = 0) : Req.may ⟨op, rule, cost, key, k⟩ rules := ⟨h0, h1, h2, .inl ⟨h3, h4, h5⟩⟩
theorem may_3 {op rule k rules : Int} (h0 : 0 ≤ rule) (h1 : rule < rules) (h2 : rule ≤ 255) (h3 : op = 3) (h5 : k = 0) : Req.may ⟨op, rule, 0, [], k⟩ rules := ⟨h0, h1, h2, .inr (.inl ⟨h3, rfl, rfl, h5⟩)⟩
theorem may_4 {op rule k rules : Int} (h0 : 0 ≤ rule) (h1 : rule < rules) (h2 : rule ≤ 255) (h3 : op = 4) (h5 : 0 ≤ k) (h6 : k ≤ 255) : Req.may ⟨op, rule, 0, [], k⟩ rules := ⟨h0, h1, h2, .inr (.inr ⟨h3, rfl, rfl, h5, h6⟩)⟩

theorem bytes_reqOf {bs : List UInt8} {rules : Int} (hp : pfx bs rules = 0) (h1 : 4 + nb bs 3 ≤ bs.length) (h2 : 4 ≤ bs.length) :
    (reqOf bs).may rules ∧ (reqOf bs).bytes = bs.take (4 + nb bs 3) ∧ (reqOf bs).cost < 4294967296 ∧ (reqOf bs).key.length ≤ 64 := by
  obtain ⟨f1, f2, f3, f4, g0, g1, g2⟩ := parse_facts hp h1 h2
  have n5 := nb_lt bs 5
  by_cases h7 : 7 ≤ nb bs 3
  · have h12 : nb bs 4 = 1 ∨ nb bs 4 = 2 := by
      by_cases h12 : nb bs 4 = 1 ∨ nb bs 4 = 2
      · exact h12
      · unfold fitsB at f2; rw [if_neg h12] at f2
        split at f2
        · simp at f2; omega
        · split at f2
          · simp at f2; omega
          · cases f2
    have f4' := f4 h7
    rw [req7 f2 h7]
    rcases bs with _ | ⟨a0, _ | ⟨a1, _ | ⟨a2, _ | ⟨a3, _ | ⟨a4, _ | ⟨a5, _ | ⟨c0, _ | ⟨c1, _ | ⟨c2, _ | ⟨c3, _ | ⟨kl, t⟩⟩⟩⟩⟩⟩⟩⟩⟩⟩⟩
    all_goals (try (exfalso; simp only [List.length_cons, List.length_nil] at h1; omega))
    simp only [nb, List.getD_cons_zero, List.getD_cons_succ] at *
    simp only [List.length_cons] at h1
    have hk : (t.take (a3.toNat - 7)).length = a3.toNat - 7 := by rw [List.length_take]; omega
    have e11 : (a0 :: a1 :: a2 :: a3 :: a4 :: a5 :: c0 :: c1 :: c2 :: c3 :: kl :: t).drop 11 = t := rfl
    have e6 : ((a0 :: a1 :: a2 :: a3 :: a4 :: a5 :: c0 :: c1 :: c2 :: c3 :: kl :: t).drop 6).take 4 = [c0, c1, c2, c3] := rfl
    rw [e11, e6]
    have hn : numOf [c0, c1, c2, c3] < 4294967296 := by have h := numOf_lt [c0, c1, c2, c3]; rw [show [c0, c1, c2, c3].length = 4 from rfl] at h; exact h
    refine ⟨may_12 (by omega) f3 (by omega) (by omega) (by rw [hk]; omega) rfl, ?_, hn, by show (t.take _).length ≤ 64; rw [hk]; omega⟩
    have eb : (Req.mk (a4.toNat : Int) (a5.toNat : Int) (numOf [c0, c1, c2, c3]) (t.take (a3.toNat - 7)) 0).body = [a4, a5] ++ ([c0, c1, c2, c3] ++ [kl] ++ t.take (a3.toNat - 7)) := by
      unfold Req.body
      rw [if_pos (show (a4.toNat : Int) = 1 ∨ (a4.toNat : Int) = 2 by omega)]
      show [b8 _, b8 _] ++ (be 4 _ ++ [b8 ((t.take (a3.toNat - 7)).length : Int)] ++ _) = _
      rw [of_b8, of_b8, be_num4, hk, show ((a3.toNat - 7 : Nat) : Int) = (kl.toNat : Int) by omega, of_b8]
    have el : (Req.mk (a4.toNat : Int) (a5.toNat : Int) (numOf [c0, c1, c2, c3]) (t.take (a3.toNat - 7)) 0).body.length = a3.toNat := by
      rw [eb]; simp only [List.length_append, List.length_cons, List.length_nil, hk]; omega
    unfold Req.bytes frame
    rw [el, eb]
    have z0 : a0 = 167 := UInt8.toNat_inj.1 g0
    have z1 : a1 = 1 := UInt8.toNat_inj.1 g1
    have z2 : UInt8.ofNat (a3.toNat / 256) = a2 := by apply UInt8.toNat_inj.1; rw [UInt8.toNat_ofNat']; have := a3.toNat_lt; omega
    have z3 : UInt8.ofNat a3.toNat = a3 := by apply UInt8.toNat_inj.1; rw [UInt8.toNat_ofNat']; have := a3.toNat_lt; omega
    rw [z2, z3, z0, z1, show 4 + a3.toNat = (a3.toNat - 7) + 11 by omega]
    rfl
  · by_cases h3 : nb bs 3 = 3
    · have h4 : nb bs 4 = 4 := by
        unfold fitsB at f2
        split at f2
        · simp at f2; omega
        · split at f2
          · simp at f2; omega
          · split at f2
            · assumption
            · cases f2
      rw [req3 f2 h3]
      rcases bs with _ | ⟨a0, _ | ⟨a1, _ | ⟨a2, _ | ⟨a3, _ | ⟨a4, _ | ⟨a5, _ | ⟨c0, t⟩⟩⟩⟩⟩⟩⟩
      all_goals (try (exfalso; simp only [List.length_cons, List.length_nil] at h1; omega))
      simp only [nb, List.getD_cons_zero, List.getD_cons_succ] at *
      have hc := c0.toNat_lt
      refine ⟨may_4 (by omega) f3 (by omega) (by omega) (by omega) (by omega), ?_, by show 0 < 4294967296; omega, by simp⟩
      have eb : (Req.mk (a4.toNat : Int) (a5.toNat : Int) 0 [] (c0.toNat : Int)).body = [a4, a5] ++ [c0] := by
        unfold Req.body
        rw [if_neg (show ¬ ((a4.toNat : Int) = 1 ∨ (a4.toNat : Int) = 2) by omega), if_pos (show (a4.toNat : Int) = 4 by omega)]
        show [b8 _, b8 _] ++ [b8 _] = _
        rw [of_b8, of_b8, of_b8]
      unfold Req.bytes frame
      rw [eb]
      have z0 : a0 = 167 := UInt8.toNat_inj.1 g0
      have z1 : a1 = 1 := UInt8.toNat_inj.1 g1
      have z2 : a2 = 0 := UInt8.toNat_inj.1 g2
      have z3 : a3 = 3 := UInt8.toNat_inj.1 h3
      rw [z0, z1, z2, z3]
      simp
    · have h2' : nb bs 3 = 2 := by omega
      have h4 : nb bs 4 = 3 := by
        unfold fitsB at f2
        split at f2
        · simp at f2; omega
        · split at f2
          · assumption
          · split at f2
            · simp at f2; omega
            · cases f2
      rw [req2 f2 h7 h3]
      rcases bs with _ | ⟨a0, _ | ⟨a1, _ | ⟨a2, _ | ⟨a3, _ | ⟨a4, _ | ⟨a5, t⟩⟩⟩⟩⟩⟩
      all_goals (try (exfalso; simp only [List.length_cons, List.length_nil] at h1; omega))
      simp only [nb, List.getD_cons_zero, List.getD_cons_succ] at *
      refine ⟨may_3 (by omega) f3 (by omega) (by omega) rfl, ?_, by show 0 < 4294967296; omega, by simp⟩
      have eb : (Req.mk (a4.toNat : Int) (a5.toNat : Int) 0 [] 0).body = [a4, a5] := by
        unfold Req.body
        rw [if_neg (show ¬ ((a4.toNat : Int) = 1 ∨ (a4.toNat : Int) = 2) by omega), if_neg (show ¬ (a4.toNat : Int) = 4 by omega)]
        show [b8 _, b8 _] ++ [] = _
        rw [of_b8, of_b8]; rfl
      unfold Req.bytes frame
      rw [eb]
      have z0 : a0 = 167 := UInt8.toNat_inj.1 g0
      have z1 : a1 = 1 := UInt8.toNat_inj.1 g1
      have z2 : a2 = 0 := UInt8.toNat_inj.1 g2
      have z3 : a3 = 2 := UInt8.toNat_inj.1 h2'
      rw [z0, z1, z2, z3]
      simp

/-- What bytes begin with: nothing, or a request that may be, of just these bytes. -/
theorem parse_two (bs : List UInt8) (rules : Int) : (∃ e, parse bs rules = (Req.none, 0, e)) ∨
    ∃ q n, parse bs rules = (q, n, 0) ∧ 0 < n ∧ n ≤ bs.length ∧ n ≤ 75 ∧ q.may rules ∧ q.bytes = bs.take n ∧ q.cost < 4294967296 ∧ q.key.length ≤ 64 := by
  by_cases hp : pfx bs rules = 0
  · by_cases hs : bs.length < 4 + nb bs 3 ∨ bs.length < 4
    · exact .inl ⟨_, parse_short hp hs⟩
    · obtain ⟨f1, _⟩ := parse_facts hp (by omega) (by omega)
      obtain ⟨m1, m2, m3, m4⟩ := bytes_reqOf hp (show 4 + nb bs 3 ≤ bs.length by omega) (by omega)
      exact .inr ⟨_, _, parse_ok hp (by omega) (by omega), by omega, by omega, by omega, m1, m2, m3, m4⟩
  · exact .inl ⟨_, parse_fault hp⟩
end Go.Proofs.Ytfmojpkggkjceaa.Frame
