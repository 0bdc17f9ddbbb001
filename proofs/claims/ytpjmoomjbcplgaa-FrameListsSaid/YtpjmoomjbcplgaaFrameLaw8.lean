/- frame's laws: FrameLists: lists of keys come back from their bytes. No condition. -/
import Derived.Test.YtpjmoomjbcplgaaReadList
import Derived.Test.YtpjmoomjbcplgaaRefAns
import Derived.Test.YtpjmoomjbcplgaaFrameFit
import Derived.Test.YtpjmoomjbcplgaaFrameLarge
import Derived.Test.YtpjmoomjbcplgaaFrameReq
namespace Go.Proofs.Ytpjmoomjbcplgaa.Frame
open Go Go.RowKit Go.YtpjmoomjbcplgaaMem Go.YtpjmoomjbcplgaaLex
set_option linter.unusedVariables false
set_option linter.unusedSimpArgs false

set_option maxRecDepth 4000 in
set_option maxHeartbeats 6400000 in
theorem lists_main (w : World) (rule k : Int) (a : Option Addr) (cp : Nat) (l : List Cnt) (hI : InC w a l) (hl : l.length ≤ 64) (hr64 : ∀ q, q ∈ l → fits64 q.n ∧ fits64 q.e) :
    Calls Try.prog 9 #[.int .i64 rule, .slice a l.length cp, .int .i64 k] w (TruePost w) := by
  obtain ⟨rr, hrre⟩ : ∃ rr, rr = rule % 256 := ⟨_, rfl⟩
  have hand : bits .and .i64 rule 255 = rr := by rw [hrre]; exact and_mask rule 8 (by decide)
  have hrr : 0 ≤ rr ∧ rr ≤ 255 := by omega
  obtain ⟨kk, hkke⟩ : ∃ kk, kk = k % 256 := ⟨_, rfl⟩
  have handk : bits .and .i64 k 255 = kk := by rw [hkke]; exact and_mask k 8 (by decide)
  have hkk : 0 ≤ kk ∧ kk ≤ 255 := by omega
  have d64 : decide ((64 : Int) < l.length) = false := by simp; omega
  have HI := Lib.hid hI
  have HR64 := Lib.hid hr64
  clear hrre hkke hI hr64
  go_enter Try.func9, Try.ntmps9
  go_wp2_with fail
  refine (fit_any _).mono ?_
  rintro e1 w1 ⟨rfl, hM1⟩
  have M1 := Lib.hid hM1
  clear hM1
  go_wp2_with fail
  go_loopw [21] (fun i wr => ∃ (j : Nat), j ≤ l.length ∧ i = .int .i64 j ∧ (∀ q, q ∈ l.take j → q.key.length ≤ 64) ∧ Mod [] w1 wr) (fun i _ => l.length - (intOf i).toNat)
  case atStart => exact ⟨0, Nat.zero_le _, rfl, fun q h => by simp at h, Mod.refl [] w1⟩
  case round =>
    obtain ⟨j, hj, rfl, hks, hM⟩ := hrel
    have MR := Lib.hid hM
    have HKS := Lib.hid hks
    clear hM hks
    by_cases hlt : j < l.length
    · obtain ⟨q, hqj⟩ : ∃ q, l[j]? = some q := ⟨_, List.getElem?_eq_getElem hlt⟩
      obtain ⟨b, off, rfl, hb, hx⟩ := HI.out j q hqj
      have hx' := fun i u h => ((M1.out.trans MR.out).cell hb (by simp)).trans (hx i u h)
      have q0 := hx' 0 _ rfl
      have q1 := hx' 1 _ rfl
      have q2 := hx' 2 _ rfl
      have htk : l.take (j + 1) = l.take j ++ [q] := by rw [List.take_add_one, hqj]; rfl
      have HTK := Lib.hid htk
      clear hx hx' hqj htk
      obtain ⟨kx, n, e⟩ := q
      simp only [Nat.add_zero] at q0 q1 q2
      by_cases hk64 : kx.length ≤ 64
      · have dk : decide ((64 : Int) < kx.length) = false := by simp; omega
        go_wp2_with fail
        go_roundw
        case rel => exact ⟨j + 1, by omega, by go_num, by rw [HTK.out]; intro q hq; rcases List.mem_append.1 hq with h | h; exact HKS.out q h; rw [List.mem_singleton.1 h]; exact hk64, MR.out.alloc _⟩
        case measure => simp [intOf]; omega
      · have dk : decide ((64 : Int) < kx.length) = true := by simp; omega
        go_wp2_with fail
        go_ret
        exact ⟨rfl, (M1.out.trans MR.out).alloc _⟩
    · obtain rfl : j = l.length := by omega
      rw [List.take_length] at HKS
      have hlle := listed_le l HKS.out
      have RL := Lib.hid (list_read (rule := rr) l hrr (by omega) (fun q hq => ⟨HKS.out q hq, HR64.out q hq⟩))
      have M2 := Lib.hid (M1.out.trans MR.out)
      generalize hbL : frame 0xA8 ([132, b8 rr, b8 l.length] ++ listed l) = bL at *
      have HBL := Lib.hid hbL
      have LL : Hid (bL.length = (listed l).length + 7) := Lib.hid (by rw [← hbL]; simp [frame])
      generalize hng : (listed l).length = ng at *
      clear hbL hng
      go_wp2_with fail
      refine (listed_any wr rr a cp l (HI.out.mod M2.out) (by omega) HKS.out).mono ?_
      rintro e2 w2 ⟨v2, rfl, ho2, hM2⟩
      rw [HBL.out] at ho2
      obtain ⟨g2, c2, rfl, hg2, hl2, hx2⟩ := own_one ho2 (by rw [LL.out]; omega)
      clear hg2 hl2 hx2
      have O2 := Lib.hid ho2
      have M3 := Lib.hid (M2.out.trans hM2)
      clear ho2 hM2
      go_wp2_with fail
      refine (readFrame (Sl.own O2.out) (by rw [LL.out]; omega)).mono ?_
      rintro e3 w3 ⟨hM3, hcase⟩
      rcases hcase with ⟨hn, -⟩ | ⟨s3, l3, x3, n3, hs3, rfl, ho3⟩
      · rw [RL.out] at hn; cases hn
      rw [RL.out] at hs3
      injection hs3 with q1
      injection q1 with q1 q2
      injection q2 with q2 q3
      subst q1; subst q2; subst q3
      obtain ⟨a3, c3, rfl⟩ := own_slice ho3
      have O3 := Lib.hid (OwnC.alloc ho3 (.cells ((⟨4, rr, 0, 0, 0, 0, 0, 0, 0, 0, 0⟩ : Said).cells (.slice a3 l.length c3)).toArray 55))
      have P3 : Hid (OwnB (w3.alloc (.cells ((⟨4, rr, 0, 0, 0, 0, 0, 0, 0, 0, 0⟩ : Said).cells (.slice a3 l.length c3)).toArray 55)) _ _ bL) := Lib.hid (OwnB.alloc (hM3.own O2.out (fun b hb => by simp)) _)
      have S3 := Lib.hid (Blk.new w3 ((⟨4, rr, 0, 0, 0, 0, 0, 0, 0, 0, 0⟩ : Said).cells (.slice a3 l.length c3)) 55)
      have M4 := Lib.hid ((M3.out.trans hM3).alloc (.cells ((⟨4, rr, 0, 0, 0, 0, 0, 0, 0, 0, 0⟩ : Said).cells (.slice a3 l.length c3)).toArray 55))
      have iscA : IsC (w3.alloc (.cells ((⟨4, rr, 0, 0, 0, 0, 0, 0, 0, 0, 0⟩ : Said).cells (.slice a3 l.length c3)).toArray 55)).drew g2 := by
        obtain ⟨g, c, e, -, -, hx⟩ := own_one P3.out (by rw [LL.out]; omega)
        injection e with e1; injection e1 with e1; injection e1 with e1
        subst e1
        exact isC_of_cell (hx 0 _ (nb_get (by rw [LL.out]; omega)))
      have IA := Lib.hid iscA
      have cv := own_str (P := Try.prog) (w := (w3.alloc (.cells ((⟨4, rr, 0, 0, 0, 0, 0, 0, 0, 0, 0⟩ : Said).cells (.slice a3 l.length c3)).toArray 55)).drew) P3.out Try.underlying28 Try.underlying5 Try.underlying9
      clear hM3 ho3 iscA
      simp only [Said.cells] at cv ⊢
      go_wp2_with fail
      refine wp_region_held [5] [1] [] (by kernel_rfl) (by kernel_rfl) ?_
      simp only [wpCut, List.take_succ_cons, List.take_zero, List.drop_succ_cons, List.drop_zero]
      go_wp2_with fail
      clear cv
      refine (refListed _ rr a cp l (HI.out.mod M4.out.drew) hl HKS.out).mono ?_
      rintro e4 w4 ⟨v4, rfl, ho4, hM4⟩
      rw [HBL.out] at ho4
      obtain ⟨a4, c4, rfl⟩ := own_slice ho4
      have S4 := Lib.hid (hM4.blk S3.out (by simp))
      have O4 : Hid (OwnC w4 _ (.slice a3 l.length c3) l) := Lib.hid (OwnC.mod O3.out.drew hM4 (by simp))
      have M5 := Lib.hid (M4.out.drew.trans hM4)
      have N4 := Lib.hid hM4
      have cv4 := own_str (P := Try.prog) ho4 Try.underlying28 Try.underlying5 Try.underlying9
      have s0 := S4.out.cell (i := 0) rfl
      have s1 := S4.out.cell (i := 1) rfl
      have s10 := S4.out.cell (i := 10) rfl
      have eL : (((ng : Int) + 7) != (bL.length : Int)) = false := by rw [LL.out]; simp
      clear ho4 hM4
      go_wp2_with fail
      refine ⟨N4.out, ?_⟩
      go_wp2_with fail
      refine ⟨by kernel_rfl, ⟨.inr ⟨by simp, IA.out⟩, trivial⟩, ?_⟩
      go_wp2_with fail
      clear cv4 s0 s1 s10 eL
      go_loopw [79] (fun i wr => ∃ (j : Nat), j ≤ l.length ∧ i = .int .i64 j ∧ Mod [] w4 wr) (fun i _ => l.length - (intOf i).toNat)
      case atStart => exact ⟨0, Nat.zero_le _, rfl, Mod.refl [] w4⟩
      case round =>
        obtain ⟨j, hj, rfl, hM⟩ := hrel
        have MR2 := Lib.hid hM
        have S6 := MR2.out.blk S4.out (by simp)
        have s10 := S6.cell (i := 10) rfl
        clear hM S6
        by_cases hlt : j < l.length
        · obtain ⟨q, hqj⟩ : ∃ q, l[j]? = some q := ⟨_, List.getElem?_eq_getElem hlt⟩
          obtain ⟨b, off, rfl, hb, hx⟩ := HI.out j q hqj
          obtain ⟨b', off', rfl, hb', hx2⟩ := own_in O4.out j q hqj
          have hx' := fun i u h => ((M5.out.trans MR2.out).cell hb (by simp)).trans (hx i u h)
          have hy' := fun i u h => (MR2.out.cell hb' (by simp)).trans (hx2 i u h)
          have q0 := hx' 0 _ rfl
          have q1 := hx' 1 _ rfl
          have q2 := hx' 2 _ rfl
          have p0 := hy' 0 _ rfl
          have p1 := hy' 1 _ rfl
          have p2 := hy' 2 _ rfl
          clear hx hx' hx2 hy' hqj
          obtain ⟨kx, n, e⟩ := q
          simp only [Nat.add_zero] at q0 q1 q2 p0 p1 p2
          go_wp2_with fail
          refine wp_region_lex (by kernel_rfl) (by kernel_rfl) ?_
          go_wp2_with fail
          refine ⟨by kernel_rfl, ?_⟩
          go_wp2_with fail
          refine ⟨⟨j + 1, by omega, by go_num, MR2.out.drew⟩, by simp [intOf]; omega⟩
        · obtain rfl : j = l.length := by omega
          obtain ⟨m1, hm1⟩ : ∃ m1, m1 = max kk 1 := ⟨_, rfl⟩
          obtain ⟨m, hm⟩ : ∃ m, m = min m1 64 := ⟨_, rfl⟩
          have hmx : ∀ w : World, (Builtin.max_ #[3, 3] 3 #[.int .i64 kk, .int .i64 1]).run Try.prog w = .ok (.int .i64 m1) w := fun w => by
            show Result.ok (Value.int .i64 (if 1 > kk then 1 else kk)) w = _
            congr 2; omega
          have hmn : ∀ w : World, (Builtin.min_ #[3, 3] 3 #[.int .i64 m1, .int .i64 64]).run Try.prog w = .ok (.int .i64 m) w := fun w => by
            show Result.ok (Value.int .i64 (if 64 < m1 then 64 else m1)) w = _
            congr 2; omega
          have hLG := largest_any wr ⟨4, 0, 0, [], kk⟩ 64 (by show kk ≤ 100000; omega) (by omega)
          have hlv : largest ⟨4, 0, 0, [], kk⟩ 64 = 7 + m * 81 := by unfold largest; simp only [← hm1, ← hm]; rw [if_neg (by omega), if_pos trivial]
          rw [hlv] at hLG
          have LG := Lib.hid hLG
          have hm64 : 1 ≤ m ∧ m ≤ 64 := by omega
          have HLE := Lib.hid hlle
          have HNG : Hid (ng ≤ 81 * l.length) := Lib.hid hlle
          clear hm1 hm hLG hlv hlle s10
          by_cases hgt : m < (l.length : Int)
          · have dm : decide (m < (l.length : Int)) = true := by simp; omega
            go_wp2_with fail
            go_ret
            exact ⟨rfl, M5.out.trans MR2.out⟩
          · have dm : decide (m < (l.length : Int)) = false := by simp; omega
            have hle := HNG.out
            have dl : decide ((bL.length : Int) ≤ 7 + m * 81) = true := by rw [LL.out]; simp; omega
            clear hle
            go_wp2_with fail
            refine LG.out.mono ?_
            rintro e7 w7 ⟨rfl, hM7⟩
            go_wp2_with fail
            go_ret
            exact ⟨rfl, (M5.out.trans MR2.out).trans hM7⟩

set_option maxRecDepth 4000 in
theorem lists_walk (w : World) (rule : Int) (hw : (Lit.int .i64 rule).wf = true) (a : Option Addr) (cp : Nat) (l : List Cnt) (hlm : l.length ≤ maxLen) (hI : InC w a l) (hwf : ∀ q, q ∈ l → (Lit.int .i64 q.n).wf = true ∧ (Lit.int .i64 q.e).wf = true) (k : Int) (hk : (Lit.int .i64 k).wf = true) :
    Calls Try.prog 9 #[.int .i64 rule, .slice a l.length cp, .int .i64 k] w (TruePost w) := by
  by_cases hl : l.length ≤ 64
  · exact lists_main w rule k a cp l hI hl fun q hq => ⟨wf64 (hwf q hq).1, wf64 (hwf q hq).2⟩
  · unfold maxLen at hlm
    have hln : l.length ≤ 9223372036854775807 := by omega
    have d64 : decide ((64 : Int) < l.length) = true := by simp; omega
    clear hI hwf hlm
    go_enter Try.func9, Try.ntmps9
    go_wp2_with fail
    refine (fit_any _).mono ?_
    rintro e1 w1 ⟨rfl, hM1⟩
    go_wp2_with fail
    go_ret
    exact ⟨rfl, hM1⟩
end Go.Proofs.Ytpjmoomjbcplgaa.Frame
