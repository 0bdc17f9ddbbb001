/- decode's laws: DecodeJoins: requests that may be, one behind the other, are the requests of their stream. No condition. -/
import Derived.Test.YtfmojpkggkjceaaDecLaw5
import Derived.Test.YtfmojpkggkjceaaReqArg
namespace Go.Proofs.Ytfmojpkggkjceaa.Frame
open Go Go.RowKit Go.YtfmojpkggkjceaaMem Go.YtfmojpkggkjceaaLex
set_option linter.unusedVariables false
set_option linter.unusedSimpArgs false

/-- The bytes of requests, one behind the other. -/
def bytesAll (l : List Req) : List UInt8 := l.flatMap Req.bytes
theorem bytesAll_snoc (l : List Req) (q : Req) : bytesAll (l ++ [q]) = bytesAll l ++ q.bytes := by simp [bytesAll]
theorem bytesAll_cons (q : Req) (l : List Req) : bytesAll (q :: l) = q.bytes ++ bytesAll l := rfl
theorem runA_bytes : ∀ (l : List Req) (i : Nat), (∀ q, q ∈ l → q.may 9 ∧ q.cost < 4294967296) → runA 9 (bytesAll l) [] i = (l, i + (bytesAll l).length, 0)
  | [], i, _ => rfl
  | q :: l, i, h => by
    obtain ⟨hm, hc⟩ := h q (by simp)
    have hp := parse_bytes hm hc (bytesAll l) 9
    rw [if_pos hm.2.1] at hp
    have hl := bytes_len hm
    rw [bytesAll_cons]
    rcases parse_three (q.bytes ++ bytesAll l) 9 with ⟨h1, h2⟩ | ⟨h1, h2⟩ | ⟨h1, h2, h3, h4⟩
    · rw [h2] at hp; simp only [Prod.mk.injEq] at hp; have := hp.2.1; omega
    · rw [h2] at hp; simp only [Prod.mk.injEq] at hp; have := hp.2.1; omega
    · rw [h4] at hp
      simp only [Prod.mk.injEq] at hp
      obtain ⟨e1, e2, _⟩ := hp
      rw [runA_whole h1 h2, e1, e2, List.drop_left, runA_bytes l _ (fun q hq => h q (by simp [hq])), List.length_append, Nat.add_assoc]
theorem bytesAll_len : ∀ (l : List Req), (∀ q, q ∈ l → q.may 9) → (bytesAll l).length ≤ 75 * l.length
  | [], _ => by simp [bytesAll]
  | q :: l, h => by
    have hm := h q (by simp)
    obtain ⟨l1, l2, _⟩ := Req.may_len hm
    have hl := bytes_len hm
    have := bytesAll_len l (fun q hq => h q (by simp [hq]))
    rw [bytesAll_cons, List.length_append, List.length_cons]; omega

set_option maxRecDepth 4000 in
set_option maxHeartbeats 3200000 in
theorem joins_main (w : World) (a : Option Addr) (cp : Nat) (l : List Req) (hI : InQ w a l) (hq : ∀ q, q ∈ l → q.cost < 4294967296) (hl : l.length ≤ 20) (hne : l ≠ []) (cut : Int) :
    Calls Try.prog 7 #[.slice a l.length cp, .int .i64 cut] w fun e w' => e = .returned (.bool true) ∧ Mod [] w w' := by
  have d20 : decide ((20 : Int) < l.length) = false := by simp; omega
  have h0l : 0 < l.length := by cases l; exact absurd rfl hne; simp
  have HI := Lib.hid hI
  have HQ := Lib.hid hq
  clear hI hq hne
  go_enter Try.func7, Try.ntmps7
  go_wp2_with fail
  refine (fit_any _).mono ?_
  rintro e1 w1 ⟨rfl, hM1⟩
  have M1 := Lib.hid hM1
  clear hM1
  go_wp2_with fail
  go_loopw [5, 22] (fun x i wr => ∃ (k : Nat), k ≤ l.length ∧ i = .int .i64 k ∧ OwnB wr w.heap.size x (bytesAll (l.take k)) ∧ (∀ q, q ∈ l.take k → q.may 9) ∧ Mod [] w wr) (fun _ i _ => l.length - (intOf i).toNat)
  case atStart => exact ⟨0, Nat.zero_le _, rfl, World.ownsRow_nil _ _ _ _, fun q h => by simp at h, M1.out⟩
  case round =>
    obtain ⟨k, hk, rfl, hO, hmay, hM⟩ := hrel
    have HO := Lib.hid hO
    have HMY := Lib.hid hmay
    have MR := Lib.hid hM
    have hlb := bytesAll_len _ hmay
    rw [List.length_take, Nat.min_eq_left hk] at hlb
    have hs0 := hM.size
    clear hO hM hmay
    by_cases hlt : k < l.length
    · obtain ⟨q, hqk⟩ : ∃ q, l[k]? = some q := ⟨_, List.getElem?_eq_getElem hlt⟩
      obtain ⟨b, off, rfl, hb, hx⟩ := HI.out k q hqk
      have hcq := HQ.out q (List.mem_of_getElem? hqk)
      have hx' := fun j u h => (MR.out.cell hb (by simp)).trans (hx j u h)
      have p0 := hx' 0 _ rfl
      have p1 := hx' 1 _ rfl
      have p2 := hx' 2 _ rfl
      have p3 := hx' 3 _ rfl
      have p4 := hx' 4 _ rfl
      have htk : l.take (k + 1) = l.take k ++ [q] := by rw [List.take_add_one, hqk]; rfl
      have RQ := fun w => refRight w q 9
      unfold RightPost at RQ
      have B1 := fun w' : World => Box.new w' q rfl
      clear hx hx'
      by_cases hk100 : q.key.length ≤ 100
      · have d100 : decide ((100 : Int) < q.key.length) = false := by simp; omega
        by_cases hm : q.may 9
        · rw [decide_eq_true hm] at RQ
          have EN := fun w => refEncode w q hcq hm
          have HRQ := Lib.hid RQ
          have HEN := Lib.hid EN
          have HM := Lib.hid hm
          have HB1 := Lib.hid B1
          have HTK := Lib.hid htk
          have hlq : q.bytes.length ≤ 75 := by obtain ⟨l1, l2, _⟩ := Req.may_len hm; have := bytes_len hm; omega
          have hlq1 : 6 ≤ q.bytes.length := by obtain ⟨l1, l2, _⟩ := Req.may_len hm; have := bytes_len hm; omega
          have HLQ := Lib.hid hlq
          have HLQ1 := Lib.hid hlq1
          clear RQ EN hm B1 htk hqk hcq hlq hlq1
          obtain ⟨op, rule, cost, key, k0⟩ := q
          simp only [Req.val, Nat.add_zero] at *
          go_wp2_with fail
          refine (HRQ.out _).mono ?_
          rintro e4 w4 ⟨rfl, hM4⟩
          have M4 := Lib.hid ((MR.out.alloc (.cells (Req.cells ⟨op, rule, cost, key, k0⟩).toArray 32)).trans hM4)
          have O4 := Lib.hid ((((Mod.refl [] wr).alloc (.cells (Req.cells ⟨op, rule, cost, key, k0⟩).toArray 32)).trans hM4).own HO.out (by simp))
          have B4 := Lib.hid (Box.mod (HB1.out wr) hM4)
          clear hM4 p0 p1 p2 p3 p4
          obtain ⟨p0, p1, p2, p3, p4⟩ := Box.facts B4.out
          go_wp2_with fail
          refine (HEN.out _).mono ?_
          rintro e5 w5 ⟨v5, rfl, ho5, hM5⟩
          have M5 := Lib.hid (M4.out.trans hM5)
          have O5 := Lib.hid (hM5.own O4.out (by simp))
          obtain ⟨g5, c5, rfl, hg5, hgl5, hc5⟩ := own_one ho5 (by have := HLQ1.out; omega)
          have HC5 := Lib.hid hc5
          have hs5 := (M4.out.trans hM5).size
          clear hM5 ho5 hc5 p0 p1 p2 p3 p4
          go_wp2_with (at_builtin; go_must (refine app_row (Req.bytes ⟨op, rule, cost, key, k0⟩) ⟨g5, 0, none⟩ c5 O5.out rfl _ _ rfl rfl rfl (fun i u hu => by rw [add_eq, Nat.zero_add]; exact HC5.out i u hu) (by omega) (by have := HLQ.out; omega) ?_; intro v6 w6 ho6 hM6 hat6))
          have hb6 := own_block O5.out
          have M6 := Lib.hid (M5.out.trans' hM6 (fun x hx => by have := hb6 x (by simpa using hx); omega))
          have O6 := Lib.hid ho6
          clear hM6 ho6 hat6 hb6
          go_wp2_with fail
          go_roundw
          case rel => exact ⟨k + 1, by omega, by go_num, by rw [HTK.out, bytesAll_snoc]; exact O6.out, by rw [HTK.out]; intro q hq; rcases List.mem_append.1 hq with h | h; exact HMY.out q h; rw [List.mem_singleton.1 h]; exact HM.out, M6.out⟩
          case measure => simp [intOf]; omega
        · rw [decide_eq_false hm] at RQ
          have HRQ := Lib.hid RQ
          clear RQ hm B1 htk hqk hcq
          obtain ⟨op, rule, cost, key, k0⟩ := q
          simp only [Req.val, Nat.add_zero] at *
          go_wp2_with fail
          refine (HRQ.out _).mono ?_
          rintro e4 w4 ⟨rfl, hM4⟩
          have M4 := Lib.hid ((MR.out.alloc (.cells (Req.cells ⟨op, rule, cost, key, k0⟩).toArray 32)).trans hM4)
          clear hM4
          go_wp2_with fail
          go_ret
          exact ⟨rfl, M4.out⟩
      · have d100 : decide ((100 : Int) < q.key.length) = true := by simp; omega
        clear RQ B1 htk hqk hcq
        obtain ⟨op, rule, cost, key, k0⟩ := q
        simp only [Req.val, Nat.add_zero] at *
        go_wp2_with fail
        go_ret
        exact ⟨rfl, MR.out.alloc _⟩
    · obtain rfl : k = l.length := by omega
      have hO := HO.out
      have hmy := HMY.out
      rw [List.take_length] at hO hmy hlb
      have hR := runA_bytes l 0 (fun q hq => ⟨hmy q hq, HQ.out q hq⟩)
      rw [Nat.zero_add] at hR
      have hbl : l.length ≤ (bytesAll l).length := by
        have : ∀ (l : List Req), (∀ q, q ∈ l → q.may 9) → l.length ≤ (bytesAll l).length := by
          intro l
          induction l with
          | nil => intro _; simp
          | cons q l ih =>
            intro h
            have h1 := bytes_len (h q (by simp))
            have h2 := ih (fun q hq => h q (by simp [hq]))
            rw [bytesAll_cons, List.length_append, List.length_cons]; omega
        exact this l hmy
      obtain ⟨gb, cb, rfl, hgb, hgl, hcb⟩ := own_one hO (by omega)
      have hkb : (bytesAll l).length ≤ cb ∧ cb ≤ maxLen := by
        rcases hO.2 with ⟨h, _⟩ | ⟨g, cap, cur, h, _, _, h1, h2, _⟩
        · cases h
        · injection h with _ _ h; subst h; exact ⟨h1, h2⟩
      generalize hbs : bytesAll l = bs at *
      obtain ⟨y, hy, hy1, hy2⟩ : ∃ y : Int, cut.tmod ((bs.length : Int) + 1) = y ∧ -((bs.length : Int) + 1) < y ∧ y < (bs.length : Int) + 1 :=
        ⟨_, rfl, Int.lt_tmod_of_pos cut (by omega), Int.tmod_lt_of_pos cut (by omega)⟩
      obtain ⟨m, hm, hml⟩ : ∃ m : Nat, (y + bs.length + 1) % ((bs.length : Int) + 1) = (m : Int) ∧ m ≤ bs.length := by
        have h1 := Int.emod_lt_of_pos (y + bs.length + 1) (show (0 : Int) < (bs.length : Int) + 1 by omega)
        have h2 := Int.emod_nonneg (y + bs.length + 1) (show ((bs.length : Int) + 1) ≠ 0 by omega)
        exact ⟨((y + bs.length + 1) % ((bs.length : Int) + 1)).toNat, by omega, by omega⟩
      have hm' : (y + bs.length + 1).tmod ((bs.length : Int) + 1) = (m : Int) := by rw [Int.tmod_eq_emod_of_nonneg (by omega)]; exact hm
      obtain ⟨lp, l', n, e, kk, f, hR1, hP, hf1, hf2⟩ := runA_cut (rules := 9) bs m hml
      rw [hR] at hR1
      injection hR1 with eL hR1
      injection hR1 with eN eE
      have hf0 : f = 0 := by
        by_cases h : f = 0
        · exact h
        · have := (hf1 h).1; omega
      subst hf0
      obtain rfl := hf2 rfl
      have hlp : lp.length ≤ l.length := by rw [eL, List.length_append]; omega
      have dlp : decide ((lp.length : Int) ≤ l.length) = true := by simp; omega
      have hv := Sl.own hO
      have hpt : ∀ w', Mod [] wr w' → Sl w' (.slice (some ⟨gb, 0, none⟩) kk cb) (vb (bs.take kk)) := fun w' hM => by
        have := Sl.part (w := w') (b := gb) (off := 0) (c := cb) (i := 0) (m := kk) (bs := bs) (hM.lt hgl) (fun i u h => (hM.cell hgl (by simp)).trans (by rw [Nat.zero_add]; exact hcb i u h)) (by omega) (by omega) hkb.2
        rwa [Nat.add_zero, List.drop_zero] at this
      have HV := Lib.hid hv
      have HPT := Lib.hid hpt
      have HR := Lib.hid hR
      have HP := Lib.hid hP
      have hcap : ¬ cb = 0 := by omega
      have hmc : kk ≤ cb := by omega
      have hbs9 : bs.length ≤ 1500 := by omega
      clear hv hpt hR hP hf1 hf2 hm hcb hO hmy hbs eL eN eE hkb hlb
      go_wp2_with fail
      refine (all_at HV.out (by omega) 9 HR.out).mono ?_
      rintro e4 w4 ⟨v4, rfl, ho4, hM4⟩
      obtain ⟨a4, c4, rfl⟩ := ho4.slice
      have O4 := Lib.hid ho4
      have N4 := Lib.hid hM4
      clear ho4 hM4
      go_wp2_with fail
      go_loopw [63] (fun i wx => ∃ (j : Nat), j ≤ l.length ∧ i = .int .i64 j ∧ Mod [] w4 wx) (fun i _ => l.length - (intOf i).toNat)
      case atStart => exact ⟨0, Nat.zero_le _, rfl, Mod.refl _ _⟩
      case round =>
        obtain ⟨j, hj, rfl, hM⟩ := hrel
        rename_i wx
        have MX := Lib.hid hM
        clear hM
        by_cases hlt2 : j < l.length
        · obtain ⟨q, hqj⟩ : ∃ q, l[j]? = some q := ⟨_, List.getElem?_eq_getElem hlt2⟩
          obtain ⟨g3, cq3, he3, hB3, hg3, hc31, hc32, hx3⟩ := O4.out.at (fun h => by rw [h] at hlt2; simp at hlt2)
          injection he3 with he3a he3b he3c
          subst he3a he3c
          obtain ⟨b, off, rfl, hb, hx2⟩ := HI.out j q hqj
          have hx3' := fun i u h => (MX.out.cell hg3 (by simp)).trans (hx3 j q hqj i u h)
          have hx2' := fun i u h => ((MR.out.trans (N4.out.trans MX.out)).cell hb (by simp)).trans (hx2 i u h)
          have p0 := hx3' 0 _ rfl
          have p1 := hx3' 1 _ rfl
          have p2 := hx3' 2 _ rfl
          have p3 := hx3' 3 _ rfl
          have p4 := hx3' 4 _ rfl
          have q0 := hx2' 0 _ rfl
          have q1 := hx2' 1 _ rfl
          have q2 := hx2' 2 _ rfl
          have q3 := hx2' 3 _ rfl
          have q4 := hx2' 4 _ rfl
          clear hx3 hx2 hx3' hx2' hqj he3b
          obtain ⟨op, rule, cost, key, k0⟩ := q
          simp only [Nat.add_zero] at p0 p1 p2 p3 p4 q0 q1 q2 q3 q4
          go_wp2_with fail
          refine wp_region_lex (by kernel_rfl) (by kernel_rfl) ?_
          go_wp2_with fail
          refine ⟨by kernel_rfl, ?_⟩
          go_wp2_with fail
          go_roundw
          case rel => exact ⟨j + 1, by omega, by go_num, MX.out.drew⟩
          case measure => simp [intOf]; omega
        · obtain rfl : j = l.length := by omega
          go_wp2_with fail
          refine (all_at (HPT.out _ (N4.out.trans MX.out)) (by rw [List.length_take]; omega) 9 HP.out).mono ?_
          rintro e5 w5 ⟨v5, rfl, ho5, hM5⟩
          obtain ⟨a5, c5, rfl⟩ := ho5.slice
          have M5 := Lib.hid (MR.out.trans ((N4.out.trans MX.out).trans hM5))
          clear hM5 ho5
          go_wp2_with fail
          go_ret
          exact ⟨rfl, M5.out⟩

set_option maxRecDepth 4000 in
theorem joins_walk (w : World) (a : Option Addr) (cp : Nat) (l : List Req) (hm : l.length ≤ maxLen) (hI : InQ w a l) (hq : ∀ q, q ∈ l → q.cost < 4294967296) (cut : Int) (hw : (Lit.int .i64 cut).wf = true) :
    Calls Try.prog 7 #[.slice a l.length cp, .int .i64 cut] w fun e w' => e = .returned (.bool true) ∧ Mod [] w w' := by
  by_cases hl : l.length ≤ 20
  · by_cases hne : l = []
    · subst hne
      have h1 : cut.tmod 1 = 0 := Int.tmod_one cut
      clear hI hq
      simp only [List.length_nil]
      go_enter Try.func7, Try.ntmps7
      go_wp2_with fail
      refine (fit_any _).mono ?_
      rintro e1 w1 ⟨rfl, hM1⟩
      have M1 := Lib.hid hM1
      clear hM1
      go_wp2_with fail
      refine wp_loop_once ?_
      go_wp2_with fail
      refine (all_at (bs := []) (Sl.nil _ _ _) (by simp) 9 rfl).mono ?_
      rintro e2 w2 ⟨v2, rfl, ho2, hM2⟩
      obtain ⟨a2, c2, hv2⟩ := ho2.slice
      rw [List.length_nil] at hv2
      subst hv2
      have M2 := Lib.hid (M1.out.trans hM2)
      clear ho2 hM2
      go_wp2_with fail
      refine wp_loop_once ?_
      go_wp2_with fail
      refine (all_at (bs := []) (Sl.nil _ _ _) (by simp) 9 rfl).mono ?_
      rintro e3 w3 ⟨v3, rfl, ho3, hM3⟩
      obtain ⟨a3, c3, hv3⟩ := ho3.slice
      rw [List.length_nil] at hv3
      subst hv3
      have M3 := Lib.hid (M2.out.trans hM3)
      clear ho3 hM3
      go_wp2_with fail
      go_ret
      exact ⟨rfl, M3.out⟩
    · exact joins_main w a cp l hI hq hl hne cut
  · have d20 : decide ((20 : Int) < l.length) = true := by simp; omega
    clear hI hq
    go_enter Try.func7, Try.ntmps7
    go_wp2_with fail
    refine (fit_any _).mono ?_
    rintro e1 w1 ⟨rfl, hM1⟩
    have M1 := Lib.hid hM1
    clear hM1
    go_wp2_with fail
    go_ret
    exact ⟨rfl, M1.out⟩
end Go.Proofs.Ytfmojpkggkjceaa.Frame
