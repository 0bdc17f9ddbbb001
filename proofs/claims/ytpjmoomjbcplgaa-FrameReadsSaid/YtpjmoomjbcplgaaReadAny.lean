/- frame: any bytes that begin with an answer are its own bytes: no function of the program is walked. -/
import Derived.Test.YtpjmoomjbcplgaaReadList
namespace Go.Proofs.Ytpjmoomjbcplgaa.Frame
open Go Go.RowKit Go.YtpjmoomjbcplgaaMem Go.YtpjmoomjbcplgaaLex
set_option linter.unusedVariables false
set_option linter.unusedSimpArgs false

theorem be_at8 (bs : List UInt8) (m : Nat) (h : m + 8 ≤ bs.length) : be 8 (u64 (at8 bs m)) = (bs.drop m).take 8 := by
  have l1 : ((bs.drop m).take 8).length = 8 := by simp; omega
  have n1 : numOf ((bs.drop m).take 8) < 18446744073709551616 := by have := numOf_lt ((bs.drop m).take 8); rw [l1] at this; simpa using this
  unfold at8
  rw [u64_s64 n1, be_num 8 _ l1]
theorem cut8 (bs : List UInt8) (m : Nat) (h : m + 8 ≤ bs.length) : bs.drop m = be 8 (u64 (at8 bs m)) ++ bs.drop (m + 8) := by
  rw [be_at8 bs m h, ← List.drop_drop, List.take_append_drop]
theorem b8_nb (bs : List UInt8) (m : Nat) (h : m < bs.length) : b8 ((nb bs m : Nat) : Int) = bs[m] := by
  have hb := nb_lt bs m
  refine UInt8.toNat_inj.1 ?_
  have e1 := b8_nat (x := ((nb bs m : Nat) : Int)) (by omega)
  have e2 : nb bs m = (bs[m]).toNat := by unfold nb; rw [List.getD_eq_getElem?_getD, List.getElem?_eq_getElem h]; rfl
  omega
theorem cut1 (bs : List UInt8) (m : Nat) (h : m < bs.length) : bs.drop m = b8 ((nb bs m : Nat) : Int) :: bs.drop (m + 1) := by
  rw [b8_nb bs m h]; exact List.drop_eq_getElem_cons h
theorem end_nil (bs : List UInt8) (m : Nat) (h : bs.length = m) : bs.drop m = [] := by rw [List.drop_eq_nil_iff]; omega
theorem rest_check (bs : List UInt8) (h : bs.length = 17) : bs = b8 ((nb bs 0 : Nat) : Int) :: (be 8 (u64 (at8 bs 1)) ++ be 8 (u64 (at8 bs 9))) := by
  have h0 : bs = bs.drop 0 := rfl
  conv => lhs; rw [h0, cut1 bs 0 (by omega), cut8 bs (0 + 1) (by omega), cut8 bs (0 + 1 + 8) (by omega), end_nil bs (0 + 1 + 8 + 8) (by omega), List.append_nil]
theorem rest_stats (bs : List UInt8) (h : bs.length = 41) : bs = b8 ((nb bs 0 : Nat) : Int) :: (be 8 (u64 (at8 bs 1)) ++ (be 8 (u64 (at8 bs 9)) ++ (be 8 (u64 (at8 bs 17)) ++ (be 8 (u64 (at8 bs 25)) ++ be 8 (u64 (at8 bs 33)))))) := by
  have h0 : bs = bs.drop 0 := rfl
  conv => lhs; rw [h0, cut1 bs 0 (by omega), cut8 bs (0 + 1) (by omega), cut8 bs (0 + 1 + 8) (by omega), cut8 bs (0 + 1 + 8 + 8) (by omega), cut8 bs (0 + 1 + 8 + 8 + 8) (by omega), cut8 bs (0 + 1 + 8 + 8 + 8 + 8) (by omega), end_nil bs (0 + 1 + 8 + 8 + 8 + 8 + 8) (by omega), List.append_nil]
theorem rest_top (bs : List UInt8) (h : 2 ≤ bs.length) : bs = b8 ((nb bs 0 : Nat) : Int) :: b8 ((nb bs 1 : Nat) : Int) :: bs.drop 2 := by
  have h0 : bs = bs.drop 0 := rfl
  conv => lhs; rw [h0, cut1 bs 0 (by omega), cut1 bs (0 + 1) (by omega)]
theorem rest_fault (bs : List UInt8) (h : bs.length = 1) : bs = [b8 ((nb bs 0 : Nat) : Int)] := by
  have h0 : bs = bs.drop 0 := rfl
  conv => lhs; rw [h0, cut1 bs 0 (by omega), end_nil bs (0 + 1) (by omega)]

/-- What is read tells the bytes that it was read from. -/
def Tells (bs : List UInt8) (s : Said) (l : List Cnt) (n : Nat) : Prop :=
  ((s.op = 1 ∨ s.op = 2) ∧ bs.take n = frame 0xA8 ([b8 (bits .or .i64 s.op 128), b8 s.v] ++ be 8 (u64 s.r) ++ be 8 (u64 s.t))) ∨
  (s.op = 3 ∧ bs.take n = frame 0xA8 ([131, b8 s.rule] ++ nums [s.a, s.b, s.c, s.d, s.e])) ∨
  (s.op = 4 ∧ l.length ≤ 255 ∧ (∀ q, q ∈ l → q.key.length ≤ 64) ∧ bs.take n = frame 0xA8 ([132, b8 s.rule, b8 l.length] ++ listed l)) ∨
  (s.op = 127 ∧ bs.take n = frame 0xA8 [255, b8 s.er])
theorem sign_of {k : UInt8} {o : Nat} (h1 : 128 ≤ k.toNat) (h2 : k.toNat - 128 = o) (K : UInt8) (hK : K.toNat = 128 + o) : k = K := UInt8.toNat_inj.1 (by omega)
set_option maxRecDepth 8000 in
theorem reads_bytes {bs : List UInt8} {s : Said} {l : List Cnt} {n : Nat} (h : readF bs = some (s, l, n)) : Tells bs s l n ∧ n ≤ bs.length := by
  obtain ⟨k, rest, hk, hs, hb, hn, hnl⟩ := readF_back h
  refine ⟨?_, hnl⟩
  unfold Tells
  rw [hb]
  clear h hb hn hnl
  have k2 := k.toNat_lt
  generalize ho : k.toNat - 128 = o at hs
  unfold saidOf at hs
  split at hs
  · rename_i hc
    injection hs with hs
    injection hs with e1 e2
    subst e1; subst e2
    refine .inl ⟨by show (o : Int) = 1 ∨ (o : Int) = 2; omega, ?_⟩
    have hr := rest_check rest hc.2.1
    have hkk : k = b8 (bits .or .i64 (o : Int) 128) := by
      rcases hc.1 with rfl | rfl
      · exact sign_of hk ho _ (by decide)
      · exact sign_of hk ho _ (by decide)
    show frame 168 (k :: rest) = frame 168 ([b8 (bits .or .i64 (o : Int) 128), b8 ((nb rest 0 : Nat) : Int)] ++ be 8 (u64 (at8 rest 1)) ++ be 8 (u64 (at8 rest 9)))
    rw [← hkk]
    congr 1
    conv => lhs; rw [hr]
    simp
  · split at hs
    · rename_i hc
      injection hs with hs
      injection hs with e1 e2
      subst e1; subst e2
      refine .inr (.inl ⟨by show (o : Int) = 3; omega, ?_⟩)
      have hr := rest_stats rest hc.2
      obtain rfl : k = 131 := sign_of hk (ho.trans hc.1) _ (by decide)
      show frame 168 (131 :: rest) = frame 168 ([131, b8 ((nb rest 0 : Nat) : Int)] ++ nums [at8 rest 1, at8 rest 9, at8 rest 17, at8 rest 25, at8 rest 33])
      congr 1
      conv => lhs; rw [hr]
      simp [nums]
    · split at hs
      · rename_i hc
        obtain ⟨l', hl, he⟩ := Option.map_eq_some_iff.1 hs
        injection he with e1 e2
        subst e1; subst e2
        obtain ⟨b1, b2, b3⟩ := listOf_back hl
        have n1 := nb_lt rest 1
        refine .inr (.inr (.inl ⟨by show (o : Int) = 4; omega, by omega, b2, ?_⟩))
        have hr := rest_top rest hc.2
        obtain rfl : k = 132 := sign_of hk (ho.trans hc.1) _ (by decide)
        show frame 168 (132 :: rest) = frame 168 ([132, b8 ((nb rest 0 : Nat) : Int), b8 ((l'.length : Nat) : Int)] ++ listed l')
        rw [b1, b3]
        congr 1
        conv => lhs; rw [hr]
        simp
      · split at hs
        · rename_i hc
          injection hs with hs
          injection hs with e1 e2
          subst e1; subst e2
          refine .inr (.inr (.inr ⟨by show (o : Int) = 127; omega, ?_⟩))
          have hr := rest_fault rest hc.2.1
          obtain rfl : k = 255 := sign_of hk (ho.trans hc.1) _ (by decide)
          show frame 168 (255 :: rest) = frame 168 [255, b8 ((nb rest 0 : Nat) : Int)]
          congr 1
          conv => lhs; rw [hr]
        · cases hs
theorem fault_read {e : Int} (he : 1 ≤ e ∧ e ≤ 255) : readF (frame 0xA8 [255, b8 e]) = some (⟨127, 0, 0, 0, 0, 0, 0, 0, 0, 0, e⟩, [], 6) := by
  have h0 : nb [b8 e] 0 = e.toNat := by
    show (b8 e).toNat = _
    have := b8_nat (x := e) (by omega); omega
  rw [readF_frame _ _ (by decide) (by simp) (by simp), show (255 : UInt8).toNat - 128 = 127 from rfl]
  unfold saidOf
  rw [h0, if_neg (by omega), if_neg (by omega), if_neg (by omega), if_pos ⟨rfl, rfl, by omega⟩]
  simp only [Option.map_some]
  congr 2
  rw [show ((e.toNat : Nat) : Int) = e by omega]
  rfl
end Go.Proofs.Ytpjmoomjbcplgaa.Frame
