/- conn's laws: ConnFaults: one fault goes out, behind all answers, and no byte comes in any more. No condition. -/
import Derived.Test.YtnhnmpgjbopihaaConnPlain
namespace Go.Proofs.Ytnhnmpgjbopihaa.Conn
open Go Go.RowKit Go.YtnhnmpgjbopihaaMem Go.YtnhnmpgjbopihaaLex Go.Proofs.Ytnhnmpgjbopihaa.Frame Go.Proofs.Ytnhnmpgjbopihaa.Out
set_option linter.unusedVariables false
set_option linter.unusedSimpArgs false

def TruePost (w : World) (e : Ending) (w' : World) : Prop := e = .returned (.bool true) ∧ Mod [] w w'
/-- A host that is new. -/
theorem new_host (w : World) : Hst (w.alloc (.cells #[.slice none 0 0] 30)) w.heap.size (w.heap.size + 1) (.slice none 0 0) [] :=
  ⟨Blk.new w [.slice none 0 0] _, OwnQ.nil _ _, Nat.lt_succ_self _, by simp⟩

set_option maxRecDepth 8000 in
set_option maxHeartbeats 6400000 in
theorem faults_main (w : World) (v1 v2 : Value) (b more : List UInt8) (h1 : Sl w v1 (vb b)) (h2 : Sl w v2 (vb more)) (hl1 : b.length ≤ 300) (hl2 : more.length ≤ 300) :
    Calls Try.prog 4 #[v1, v2] w (TruePost w) := by
  have I1 := Lib.hid (InB.of h1)
  have I2 := Lib.hid (InB.of h2)
  obtain ⟨a1, c1, rfl⟩ := I1.out.slice
  obtain ⟨a2, c2, rfl⟩ := I2.out.slice
  have d1 : decide ((300 : Int) < b.length) = false := by simp; omega
  have d2 : decide ((300 : Int) < more.length) = false := by simp; omega
  have GR := Lib.hid (grows_run (rules := 4) (N := 4000) b)
  have HLR := Lib.hid (reqs_run (rules := 4) (N := 4000) b .start)
  have LE := Lib.hid (crun_le (rules := 4) (N := 4000) b .start)
  have ST := Lib.hid (crun_stop (rules := 4) (N := 4000) b .start)
  generalize hr : crun 4 4000 .start b = r at *
  have HRR := Lib.hid hr
  obtain ⟨n, s⟩ := r
  clear h1 h2 hr
  go_enter Try.func4, Try.ntmps4
  go_wp2_with fail
  refine (fit_any w).mono ?_
  rintro e w1 ⟨rfl, hM1⟩
  have M1 := Lib.hid hM1
  have hz1 := hM1.size
  clear hM1
  go_wp2_with fail
  refine (new_con w1 4 4000 (by decide) (by decide)).mono ?_
  rintro e w2 ⟨g, p, d, rfl, hC2, hg, hp, hd, hM2⟩
  replace hC2 : Con w2 g p d 4000 4 0 [] 0 [] false := hC2
  have hlt2 := hC2.lt
  have C2 := Lib.hid (hC2.mod ((Mod.refl [] w2).alloc (.cells #[.slice none 0 0] 30)) (by simp) (by simp) (by simp))
  have H2 := Lib.hid (new_host w2)
  have M2 := Lib.hid ((M1.out.trans hM2).alloc (.cells #[.slice none 0 0] 30))
  have hz2 := hM2.size
  have hgB : g < w2.heap.size + 1 ∧ p < w2.heap.size + 1 ∧ d < w2.heap.size + 1 := by omega
  have hnh : g ≠ w2.heap.size ∧ p ≠ w2.heap.size ∧ d ≠ w2.heap.size := by omega
  have hKK : w.heap.size ≤ g ∧ w.heap.size ≤ p ∧ w.heap.size ≤ d ∧ w.heap.size ≤ w2.heap.size := by omega
  clear hC2 hM2
  go_wp2_with fail
  refine (open_yes C2.out).mono ?_
  rintro e w3 ⟨rfl, hC3, hM3⟩
  have C3 := Lib.hid hC3
  have H3 := Lib.hid (hst_mod H2.out hM3 (by simp; omega) (by simp; omega))
  have M3 := Lib.hid (M2.out.trans' hM3 (by simp; omega))
  clear hC3 hM3
  go_wp2_with fail
  refine (accept_any (K := w.heap.size) .start C3.out H3.out (by omega) (by omega) (by omega) (by decide) (I1.out.mod M3.out (Nat.le_refl _) (by simp)) (by omega)).mono ?_
  rintro e w4 ⟨v4, rfl, hC4, hH4, hM4, hat4⟩
  rw [HRR.out] at hC4 hH4 ⊢
  have C4 := Lib.hid hC4
  have H4 := Lib.hid hH4
  have M4 := Lib.hid (M3.out.trans' hM4 (by simp [Value.ownBlock]; omega))
  clear hC4 hH4 hM4
  have hN := C4.out.buf.le.1
  simp only at hN
  go_wp2_with fail
  refine (drain_yes C4.out 4000 s.out.length (by omega)).mono ?_
  rintro e w5 ⟨v5, rfl, hO5, hC5, hM5⟩
  simp only [List.take_length, List.drop_length] at hO5 hC5
  obtain ⟨a5, k5, rfl⟩ := hO5.slice
  have C5 := Lib.hid hC5
  have H5 := Lib.hid (hst_mod H4.out hM5 (by simp; omega) (by simp; omega))
  have M5 := Lib.hid (M4.out.trans' hM5 (by simp; omega))
  have cv := own_str (P := Try.prog) hO5 Try.underlying22 Try.underlying5 Try.underlying9
  clear hO5 hC5 hM5
  go_wp2_with fail
  refine (err_any C5.out.dec).mono ?_
  rintro e w' ⟨rfl, rfl⟩
  by_cases he : s.err = 0
  · have he1 : ((s.err : Int) == 0) = true := by simp; omega
    have hnl : n = b.length := by
      have hle := LE.out
      have hst := ST.out
      have hgr := GR.out.1 he
      by_cases hlt : n < b.length
      · obtain ⟨c, _, hc⟩ := hst hlt
        have := cstep_none hc he
        omega
      · omega
    have hnb : ((n : Int) == (b.length : Int)) = true := by simp; omega
    clear he hnl cv
    go_wp2_with fail
    go_ret
    exact ⟨rfl, M5.out⟩
  · have he1 : ((s.err : Int) == 0) = false := by simp; omega
    obtain ⟨h1n, X, hX⟩ := GR.out.2 he
    have HX := Lib.hid hX
    have hEr : ∀ bs, crun 4 4000 ⟨s.pend, s.err, [], s.reqs⟩ bs = (0, ⟨s.pend, s.err, [], s.reqs⟩) := crun_err he
    have HER := Lib.hid hEr
    have hlen : s.out.length = X.length + 6 := by have := congrArg List.length hX; simpa [faultB_length] using this
    have hext : ((ByteArray.mk s.out.toArray).extract X.length (X.length + 6)).toList = frame 168 [255, b8 s.err] := by
      rw [Go.ByteArray.toList_eq, ByteArray.data_extract, hX]
      simp [faultB, frame]
    clear he hX hEr cv
    go_wp2_with fail
    refine (err_any C5.out.dec).mono ?_
    rintro e w' ⟨rfl, rfl⟩
    go_wp2_with fail
    refine (refFaulted w5 s.err).mono ?_
    rintro e w6 ⟨v6, rfl, hO6, hM6⟩
    obtain ⟨a6, k6, rfl⟩ := hO6.slice
    have C6 := Lib.hid (C5.out.mod hM6 (by simp) (by simp) (by simp))
    have H6 := Lib.hid (hst_mod H5.out hM6 (by simp) (by simp))
    have M6 := Lib.hid (M5.out.trans hM6)
    have cv6 := own_str (P := Try.prog) hO6 Try.underlying22 Try.underlying5 Try.underlying9
    clear hO6 hM6
    go_wp2_with fail
    refine (accept_any (K := w.heap.size) (hb := w2.heap.size) (B := w2.heap.size + 1) (v := v4) ⟨s.pend, s.err, [], s.reqs⟩ C6.out H6.out hgB hnh (by omega) (by have h1 := HLR.out; have h2 := LE.out; simp only [CS.start, List.length_nil] at h1; show s.reqs.length ≤ 100000; omega) (I2.out.mod M6.out (Nat.le_refl _) (by simp)) hKK).mono ?_
    rintro e w7 ⟨v7, rfl, hC7, hH7, hM7, hat7⟩
    rw [HER.out] at hC7 hH7 ⊢
    have C7 := Lib.hid hC7
    have H7 := Lib.hid hH7
    have M7 := Lib.hid (M6.out.trans' hM7 (fun x hx => by
      right
      simp only [List.mem_cons] at hx
      rcases hx with rfl | rfl | rfl | rfl | hx
      · omega
      · omega
      · omega
      · omega
      · have := own_block H6.out.2.1 x (by simpa using hx); omega))
    clear hC7 hH7 hM7 hat7
    go_wp2_with fail
    refine (waits_any C7.out).mono ?_
    rintro e w' ⟨rfl, rfl⟩
    go_wp2_with fail
    refine (accept_any (bs := []) (K := w.heap.size) (hb := w2.heap.size) (B := w2.heap.size + 1) (v := v7) ⟨s.pend, s.err, [], s.reqs⟩ C7.out H7.out hgB hnh (by decide) (by have h1 := HLR.out; have h2 := LE.out; simp only [CS.start, List.length_nil] at h1; show s.reqs.length ≤ 100000; omega) (.inl ⟨rfl, none, 0, rfl⟩) hKK).mono ?_
    rintro e w8 ⟨v8, rfl, hC8, hH8, hM8, hat8⟩
    have M8 := Lib.hid (M7.out.trans' hM8 (fun x hx => by
      right
      simp only [List.mem_cons] at hx
      rcases hx with rfl | rfl | rfl | rfl | hx
      · omega
      · omega
      · omega
      · omega
      · have := own_block H7.out.2.1 x (by simpa using hx); omega))
    clear hC8 hH8 hM8 hat8
    go_wp2_with fail
    go_ret
    exact ⟨rfl, M8.out⟩

set_option maxRecDepth 4000 in
theorem faults_walk (w : World) (v1 : Value) (b : List UInt8) (h1 : Sl w v1 (vb b)) (v2 : Value) (more : List UInt8) (h2 : Sl w v2 (vb more)) :
    Calls Try.prog 4 #[v1, v2] w (TruePost w) := by
  by_cases hl1 : b.length ≤ 300
  · by_cases hl2 : more.length ≤ 300
    · exact faults_main w v1 v2 b more h1 h2 hl1 hl2
    · obtain ⟨a1, c1, rfl, hm1, -⟩ := h1.open
      obtain ⟨a2, c2, rfl, hm2, -⟩ := h2.open
      unfold maxLen at hm1 hm2
      rw [vb_length] at *
      have hn2 : more.length ≤ 9223372036854775807 := by omega
      have d1 : decide ((300 : Int) < b.length) = false := by simp; omega
      have d2 : decide ((300 : Int) < more.length) = true := by simp; omega
      clear h1 h2 hm1 hm2
      go_enter Try.func4, Try.ntmps4
      go_wp2_with fail
      refine (fit_any w).mono ?_
      rintro e w1 ⟨rfl, hM1⟩
      go_wp2_with fail
      go_ret
      exact ⟨rfl, hM1⟩
  · obtain ⟨a1, c1, rfl, hm1, -⟩ := h1.open
    obtain ⟨a2, c2, rfl, hm2, -⟩ := h2.open
    unfold maxLen at hm1 hm2
    rw [vb_length] at *
    have hn1 : b.length ≤ 9223372036854775807 := by omega
    have d1 : decide ((300 : Int) < b.length) = true := by simp; omega
    clear h1 h2 hm1 hm2
    go_enter Try.func4, Try.ntmps4
    go_wp2_with fail
    refine (fit_any w).mono ?_
    rintro e w1 ⟨rfl, hM1⟩
    go_wp2_with fail
    go_ret
    exact ⟨rfl, hM1⟩
end Go.Proofs.Ytnhnmpgjbopihaa.Conn
