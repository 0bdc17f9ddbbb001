/- conn's laws: ConnCuts: the walk. No condition. -/
import Derived.Test.YtnhnmpgjbopihaaConnLaw4
namespace Go.Proofs.Ytnhnmpgjbopihaa.Conn
open Go Go.RowKit Go.YtnhnmpgjbopihaaMem Go.YtnhnmpgjbopihaaLex Go.Proofs.Ytnhnmpgjbopihaa.Frame Go.Proofs.Ytnhnmpgjbopihaa.Out
set_option linter.unusedVariables false
set_option linter.unusedSimpArgs false

theorem str_app (a b : List UInt8) : (ByteArray.mk a.toArray) ++ (ByteArray.mk b.toArray) = ByteArray.mk (a ++ b).toArray := by
  apply ByteArray.ext
  rw [ByteArray.data_append]
  simp
set_option maxRecDepth 8000 in
set_option maxHeartbeats 6400000 in
theorem cuts_run {w : World} {p3 p4 K : Nat} {rules : Int} {a1 : Option Addr} {c1 : Nat} {b : List UInt8} {v : Value} {zs : List Int} (h3 : w.cell? ⟨p3, 0, none⟩ = some (.int .i64 rules)) (h4 : w.cell? ⟨p4, 0, none⟩ = some (.slice a1 b.length c1)) (hp3 : p3 < w.heap.size) (hp4 : p4 < w.heap.size)
    (hI : InB w K (.slice a1 b.length c1) b) (hK : K ≤ w.heap.size) (hb : b.length ≤ 1000) (hz : Sl w v (zs.map (Value.int .i64))) (hzl : zs.length ≤ 100) :
    Calls Try.prog 11 #[v, .pointer (some ⟨p3, 0, none⟩), .pointer (some ⟨p4, 0, none⟩)] w fun e w' => e = .returned (.string ⟨(allOut rules b).toArray⟩) ∧ Mod [] w w' := by
  have I1 := Lib.hid hI
  obtain ⟨a2, c2, rfl, hm2, hA2⟩ := hz.open
  rw [List.length_map] at *
  have A2 := Lib.hid hA2
  have P4 := Lib.hid h4
  clear hI hz hm2 hA2 h4
  go_enter Try.func11, Try.ntmps11
  go_wp2_with fail
  refine (new_con w rules 64 (by decide) (by decide)).mono ?_
  rintro e w2 ⟨g, p, d, rfl, hC2, hg, hp, hd, hM2⟩
  replace hC2 : Con w2 g p d 64 rules 0 [] 0 [] false := hC2
  have hlt2 := hC2.lt
  have C2 := Lib.hid (hC2.mod ((Mod.refl [] w2).alloc (.cells #[.slice none 0 0] 30)) (by simp) (by simp) (by simp))
  have H2 := Lib.hid (new_host w2)
  have M2 := Lib.hid (hM2.alloc (.cells #[.slice none 0 0] 30))
  have hz2 := hM2.size
  have hgB : g < w2.heap.size + 1 ∧ p < w2.heap.size + 1 ∧ d < w2.heap.size + 1 := by omega
  have hnh : g ≠ w2.heap.size ∧ p ≠ w2.heap.size ∧ d ≠ w2.heap.size := by omega
  have hKK : K ≤ g ∧ K ≤ p ∧ K ≤ d ∧ K ≤ w2.heap.size := by omega
  clear hC2 hM2 h3
  go_wp2_with fail
  refine (open_yes C2.out).mono ?_
  rintro e w3 ⟨rfl, hC3, hM3⟩
  have C3 := Lib.hid hC3
  have H3 := Lib.hid (hst_mod H2.out hM3 (by simp; omega) (by simp; omega))
  have M3 := Lib.hid (M2.out.trans' hM3 (by simp; omega))
  clear hC3 hM3
  go_wp2_with fail
  go_loopw [7, 8, 9] (fun x y i wr => ∃ (j at_ : Nat) (o : List UInt8) (s : CS) (v : Value), i = .int .i64 j ∧ y = .int .i64 at_ ∧ x = .string ⟨o.toArray⟩ ∧ j ≤ zs.length + at_ ∧ At64 rules b at_ o s ∧ s.reqs.length ≤ at_ ∧
      Con wr g p d 64 rules rules s.pend s.err [] true ∧ Hst wr w2.heap.size (w2.heap.size + 1) v s.reqs ∧ Mod [] w wr) (fun _ y i _ => (b.length - (intOf y).toNat) + (zs.length - (intOf i).toNat))
  case atStart => exact ⟨0, 0, [], .start, _, rfl, rfl, rfl, Nat.zero_le _, at64_start rules b, Nat.le_refl _, C3.out, H3.out, M3.out⟩
  case round =>
    obtain ⟨j, at_, o, s, v, rfl, rfl, rfl, hj, hAt, hrq, hC, hH, hM⟩ := hrel
    have AT := Lib.hid hAt
    obtain ⟨_, hs0, hol, hatl⟩ := hAt
    have HS0 := Lib.hid hs0
    have CR := Lib.hid hC
    have HR := Lib.hid hH
    have MR := Lib.hid hM
    have k4 := (MR.out.cell (a := ⟨p4, 0, none⟩) hp4 (by simp)).trans P4.out
    obtain ⟨-, hcb, hcm⟩ := I1.out.cap
    clear hs0 hC hH hM
    by_cases hlt : at_ < b.length
    · have hcb' : b.length ≤ c1 := by omega
      have hcm' : c1 ≤ 9223372036854775807 := by omega
      have hne : c1 ≠ at_ := by omega
      clear hcb hcm
      have IW := Lib.hid (I1.out.mod MR.out hK (by simp))
      by_cases hjz : j < zs.length
      · obtain ⟨z, hz⟩ : ∃ z, zs[j]? = some z := ⟨_, List.getElem?_eq_getElem hjz⟩
        obtain ⟨b2, off2, rfl, hb2, hx2⟩ := A2.out j hjz
        have cz : wr.cell? ⟨b2, off2 + j, none⟩ = some (.int .i64 z) := (MR.out.cell hb2 (by simp)).trans (hx2 j _ (by simp [hz]))
        have and31 : bits .and .i64 z 31 = z % 32 := and_mask z 5 (by decide)
        obtain ⟨m, hm⟩ : ∃ m : Nat, z % 32 = m := ⟨(z % 32).toNat, by omega⟩
        rw [hm] at and31
        obtain ⟨n, hn⟩ : ∃ n, n = min m (b.length - at_) := ⟨_, rfl⟩
        have hmn : ∀ w : World, (Builtin.min_ #[3, 3] 3 #[.int .i64 (m : Int), .int .i64 ((b.length : Int) - at_)]).run Try.prog w = .ok (.int .i64 n) w := fun w => by
          show Result.ok (Value.int .i64 (if (b.length : Int) - at_ < (m : Int) then (b.length : Int) - at_ else (m : Int))) w = _
          congr 2; omega
        have hn1 : n ≤ b.length - at_ := by omega
        clear hx2 hm hz hn
        go_wp2_with fail
        have hin : InB wr K (.slice (Option.map (fun x => x.add at_) a1) (n) (c1 - at_)) ((b.drop at_).take (n)) := by
          have := IW.out.part (at_ := at_) (M := at_ + (n)) (by omega) (by omega)
          rwa [Nat.add_sub_cancel_left] at this
        have hstep := at64_step (M := at_ + (n)) AT.out hb (by omega) (by omega)
        rw [Nat.add_sub_cancel_left] at hstep
        have hC0 : Con wr g p d 64 rules rules s.pend s.err s.out true := by rw [HS0.out]; exact CR.out
        refine (accept_any (hb := w2.heap.size) (B := w2.heap.size + 1) (bs := (b.drop at_).take (n)) s hC0 HR.out hgB hnh (by simp; omega) (by omega) hin hKK).mono ?_
        rintro e w4 ⟨v4, rfl, hC4, hH4, hM4, hat4⟩
        have hle := crun_le (rules := rules) (N := 64) ((b.drop at_).take (n)) s
        have hrr := reqs_run (rules := rules) (N := 64) ((b.drop at_).take (n)) s
        have hlen : ((b.drop at_).take (n)).length = n := by rw [List.length_take, List.length_drop]; omega
        have hstp := crun_stop (rules := rules) (N := 64) ((b.drop at_).take (n)) s
        have hsh := (crun_sh (rules := rules) [] [] ((b.drop at_).take (n)) s (by rw [HS0.out, hlen]; simp only [List.length_nil]; omega)).2
        rw [HS0.out] at hsh
        rw [hlen] at hle hstp
        generalize crun rules 64 s ((b.drop at_).take (n)) = r at *
        obtain ⟨k, s'⟩ := r
        have C4 := Lib.hid hC4
        have H4 := Lib.hid hH4
        have ST := Lib.hid hstep
        have STP := Lib.hid hstp
        have SH := Lib.hid hsh
        have M4 := Lib.hid (MR.out.trans' hM4 (fun x hx => by
          right
          simp only [List.mem_cons] at hx
          rcases hx with rfl | rfl | rfl | rfl | hx
          · omega
          · omega
          · omega
          · omega
          · have := own_block HR.out.2.1 x (by simpa using hx); omega))
        clear hC4 hH4 hM4 hat4 hstep hlen hin hC0 hstp hsh k4
        simp only at hle hrr
        have hN := C4.out.buf.le.1
        go_wp2_with fail
        refine (drain_yes C4.out 64 s'.out.length (by omega)).mono ?_
        rintro e w5 ⟨v5, rfl, hO5, hC5, hM5⟩
        simp only [List.take_length, List.drop_length] at hO5 hC5
        obtain ⟨a5, k5, rfl⟩ := hO5.slice
        have cv := own_str (P := Try.prog) hO5 Try.underlying22 Try.underlying5 Try.underlying9
        have C5 := Lib.hid hC5
        have H5 := Lib.hid (hst_mod H4.out hM5 (by simp; omega) (by simp; omega))
        have M5 := Lib.hid (M4.out.trans' hM5 (by simp; omega))
        clear hO5 hC5 hM5
        have e2 : decide ((zs.length : Int) ≤ j) = false := by simp; omega
        by_cases hk : k = 0
        · have e1 : ((k : Int) == 0) = true := by simp; omega
          clear hk
          go_wp2_with fail
          exact ⟨⟨j + 1, at_ + k, o ++ s'.out, ⟨s'.pend, s'.err, [], s'.reqs⟩, v4, by simp, by simp, by rw [str_app], by omega, ST.out, by show s'.reqs.length ≤ _; omega, C5.out, H5.out, M5.out⟩, by simp [intOf]; omega⟩
        · have e1 : ((k : Int) == 0) = false := by simp; omega
          go_wp2_with fail
          exact ⟨⟨j + 1, at_ + k, o ++ s'.out, ⟨s'.pend, s'.err, [], s'.reqs⟩, v4, by simp, by simp, by rw [str_app], by omega, ST.out, by show s'.reqs.length ≤ _; omega, C5.out, H5.out, M5.out⟩, by simp [intOf]; omega⟩
      · go_wp2_with fail
        have hin : InB wr K (.slice (Option.map (fun x => x.add at_) a1) (b.length - at_) (c1 - at_)) ((b.drop at_).take (b.length - at_)) := by
          have := IW.out.part (at_ := at_) (M := at_ + (b.length - at_)) (by omega) (by omega)
          rwa [Nat.add_sub_cancel_left] at this
        have hstep := at64_step (M := at_ + (b.length - at_)) AT.out hb (by omega) (by omega)
        rw [Nat.add_sub_cancel_left] at hstep
        have hC0 : Con wr g p d 64 rules rules s.pend s.err s.out true := by rw [HS0.out]; exact CR.out
        refine (accept_any (hb := w2.heap.size) (B := w2.heap.size + 1) (bs := (b.drop at_).take (b.length - at_)) s hC0 HR.out hgB hnh (by simp; omega) (by omega) hin hKK).mono ?_
        rintro e w4 ⟨v4, rfl, hC4, hH4, hM4, hat4⟩
        have hle := crun_le (rules := rules) (N := 64) ((b.drop at_).take (b.length - at_)) s
        have hrr := reqs_run (rules := rules) (N := 64) ((b.drop at_).take (b.length - at_)) s
        have hlen : ((b.drop at_).take (b.length - at_)).length = b.length - at_ := by rw [List.length_take, List.length_drop]; omega
        have hstp := crun_stop (rules := rules) (N := 64) ((b.drop at_).take (b.length - at_)) s
        have hsh := (crun_sh (rules := rules) [] [] ((b.drop at_).take (b.length - at_)) s (by rw [HS0.out, hlen]; simp only [List.length_nil]; omega)).2
        rw [HS0.out] at hsh
        rw [hlen] at hle hstp
        generalize crun rules 64 s ((b.drop at_).take (b.length - at_)) = r at *
        obtain ⟨k, s'⟩ := r
        have C4 := Lib.hid hC4
        have H4 := Lib.hid hH4
        have ST := Lib.hid hstep
        have STP := Lib.hid hstp
        have SH := Lib.hid hsh
        have M4 := Lib.hid (MR.out.trans' hM4 (fun x hx => by
          right
          simp only [List.mem_cons] at hx
          rcases hx with rfl | rfl | rfl | rfl | hx
          · omega
          · omega
          · omega
          · omega
          · have := own_block HR.out.2.1 x (by simpa using hx); omega))
        clear hC4 hH4 hM4 hat4 hstep hlen hin hC0 hstp hsh k4
        simp only at hle hrr
        have hN := C4.out.buf.le.1
        go_wp2_with fail
        refine (drain_yes C4.out 64 s'.out.length (by omega)).mono ?_
        rintro e w5 ⟨v5, rfl, hO5, hC5, hM5⟩
        simp only [List.take_length, List.drop_length] at hO5 hC5
        obtain ⟨a5, k5, rfl⟩ := hO5.slice
        have cv := own_str (P := Try.prog) hO5 Try.underlying22 Try.underlying5 Try.underlying9
        have C5 := Lib.hid hC5
        have H5 := Lib.hid (hst_mod H4.out hM5 (by simp; omega) (by simp; omega))
        have M5 := Lib.hid (M4.out.trans' hM5 (by simp; omega))
        clear hO5 hC5 hM5
        have e2 : decide ((zs.length : Int) ≤ j) = true := by simp; omega
        by_cases hk : k = 0
        · have e1 : ((k : Int) == 0) = true := by simp; omega
          have hEr : s'.err ≠ 0 := fun he => by
            have h1 := STP.out
            have h2 := SH.out
            simp only [hk, List.length_nil] at h1 h2
            obtain ⟨c, -, hc⟩ := h1 (by omega)
            have := cstep_none hc he
            omega
          have E := Lib.hid (at64_end ST.out (.inr hEr))
          clear hk hEr
          go_wp2_with fail
          go_ret
          exact ⟨by rw [← E.out, ← str_app]; rfl, M5.out⟩
        · have e1 : ((k : Int) == 0) = false := by simp; omega
          go_wp2_with fail
          exact ⟨⟨j + 1, at_ + k, o ++ s'.out, ⟨s'.pend, s'.err, [], s'.reqs⟩, v4, by simp, by simp, by rw [str_app], by omega, ST.out, by show s'.reqs.length ≤ _; omega, C5.out, H5.out, M5.out⟩, by simp [intOf]; omega⟩
    · have E := Lib.hid (at64_end AT.out (.inl (by omega)))
      clear hcb hcm
      go_wp2_with fail
      go_ret
      exact ⟨by rw [← E.out]; rfl, MR.out⟩

set_option maxRecDepth 8000 in
set_option maxHeartbeats 6400000 in
theorem cuts_main (w : World) (rules : Int) (v1 v2 : Value) (b : List UInt8) (zs : List Int) (h1 : Sl w v1 (vb b)) (h2 : Sl w v2 (zs.map (Value.int .i64))) (hl1 : b.length ≤ 1000) (hl2 : zs.length ≤ 100) :
    Calls Try.prog 3 #[.int .i64 rules, v1, v2] w (TruePost w) := by
  have I1 := Lib.hid (InB.of h1)
  obtain ⟨a1, c1, rfl⟩ := I1.out.slice
  obtain ⟨a2, c2, rfl, hm2, -⟩ := h2.open
  rw [List.length_map] at *
  have HZ := Lib.hid h2
  obtain ⟨z, hz⟩ : ∃ z, z = rules % 8 := ⟨_, rfl⟩
  have hand : bits .and .i64 rules 7 = z := by rw [hz]; exact and_mask rules 3 (by decide)
  have hzb : 0 ≤ z ∧ z ≤ 7 := by omega
  have d1 : decide ((1000 : Int) < b.length) = false := by simp; omega
  have d2 : decide ((100 : Int) < zs.length) = false := by simp; omega
  have B0 := Lib.hid ((Blk.new w [.int .i64 rules] 3).alloc (.cells #[.slice a1 b.length c1] 22))
  have hb1 := Blk.new (w.alloc (.cells #[.int .i64 rules] 3)) [.slice a1 b.length c1] 22
  rw [show (w.alloc (.cells #[.int .i64 rules] 3)).heap.size = w.heap.size + 1 by simp] at hb1
  have B1 := Lib.hid hb1
  have M0 := Lib.hid (((Mod.refl [] w).alloc (.cells #[.int .i64 rules] 3)).alloc (.cells #[.slice a1 b.length c1] 22))
  have k4 := hb1.cell (i := 0) rfl
  have hmf : ∀ (fn : Fn) (first cap : Array Value) (w : World), (Instr.makeFunc fn first cap).run Try.prog w = .ok (.func fn first cap) w := fun _ _ _ _ => rfl
  clear h1 h2 hm2 hz hb1
  go_enter Try.func3, Try.ntmps3
  go_wp2_with fail
  refine (fit_any _).mono ?_
  rintro e w1 ⟨rfl, hM1⟩
  have b0 := hM1.blk B0.out (by simp)
  have b1 := hM1.blk B1.out (by simp)
  have s0 := b0.cell (i := 0) rfl
  have s1 := b1.cell (i := 0) rfl
  have f0 := b0.free 0
  have hz1 := hM1.size
  have hl1' : w.heap.size + 1 < w1.heap.size := b1.lt
  have BB0 := Lib.hid (b0.set 0 (.int .i64 (z + 1)))
  have BB1 := Lib.hid (b1.other (a := ⟨w.heap.size, 0, none⟩) (by simp) (.int .i64 (z + 1)))
  have M1 := Lib.hid ((M0.out.trans hM1).setCell (p := ⟨w.heap.size, 0, none⟩) (by simp) (.int .i64 (z + 1)))
  clear hM1 b0 b1 k4
  go_wp2_with fail
  clear s0 s1 f0
  refine (cuts_run (K := w.heap.size) (zs := []) (BB0.out.cell rfl) (BB1.out.cell rfl) (by simp; omega) (by simp; omega) (I1.out.mod M1.out (Nat.le_refl _) (by simp)) (by simp; omega) hl1 (Sl.nil _ none 0) (by decide)).mono ?_
  rintro e w2 ⟨rfl, hM2⟩
  have BB0' := Lib.hid (hM2.blk BB0.out (by simp))
  have BB1' := Lib.hid (hM2.blk BB1.out (by simp))
  have M2 := Lib.hid (M1.out.trans hM2)
  have hz2 := hM2.size
  clear hM2
  go_wp2_with fail
  simp at hz2
  refine (cuts_run (K := w.heap.size) (zs := zs) (BB0'.out.cell rfl) (BB1'.out.cell rfl) (by omega) (by omega) (I1.out.mod M2.out (Nat.le_refl _) (by simp)) (by omega) hl1 (HZ.out.mod M2.out (by simp)) hl2).mono ?_
  rintro e w3 ⟨rfl, hM3⟩
  have M3 := Lib.hid (M2.out.trans hM3)
  clear hM3
  go_wp2_with fail
  go_ret
  exact ⟨rfl, M3.out⟩

set_option maxRecDepth 4000 in
theorem cuts_walk (w : World) (rules : Int) (hr : (Lit.int .i64 rules).wf = true) (v1 : Value) (b : List UInt8) (h1 : Sl w v1 (vb b)) (v2 : Value) (zs : List Int) (h2 : Sl w v2 (zs.map (Value.int .i64))) (hw : ∀ z, z ∈ zs → (Lit.int .i64 z).wf = true) :
    Calls Try.prog 3 #[.int .i64 rules, v1, v2] w (TruePost w) := by
  by_cases hl : b.length ≤ 1000 ∧ zs.length ≤ 100
  · exact cuts_main w rules v1 v2 b zs h1 h2 hl.1 hl.2
  · obtain ⟨a1, c1, rfl, hm1, -⟩ := h1.open
    obtain ⟨a2, c2, rfl, hm2, -⟩ := h2.open
    unfold maxLen at hm1 hm2
    rw [vb_length] at *
    rw [List.length_map] at *
    have hn1 : b.length ≤ 9223372036854775807 := by omega
    have hn2 : zs.length ≤ 9223372036854775807 := by omega
    have hb1 := Blk.new (w.alloc (.cells #[.int .i64 rules] 3)) [.slice a1 b.length c1] 22
    rw [show (w.alloc (.cells #[.int .i64 rules] 3)).heap.size = w.heap.size + 1 by simp] at hb1
    have B1 := Lib.hid hb1
    have M0 := Lib.hid (((Mod.refl [] w).alloc (.cells #[.int .i64 rules] 3)).alloc (.cells #[.slice a1 b.length c1] 22))
    by_cases h8 : b.length ≤ 1000
    · have d1 : decide ((1000 : Int) < b.length) = false := by simp; omega
      have d2 : decide ((100 : Int) < zs.length) = true := by simp; omega
      clear h1 h2 hm1 hm2 hl hw hb1
      go_enter Try.func3, Try.ntmps3
      go_wp2_with fail
      refine (fit_any _).mono ?_
      rintro e w1 ⟨rfl, hM1⟩
      have s1 := (hM1.blk B1.out (by simp)).cell (i := 0) rfl
      go_wp2_with fail
      go_ret
      exact ⟨rfl, M0.out.trans hM1⟩
    · have d1 : decide ((1000 : Int) < b.length) = true := by simp; omega
      clear h1 h2 hm1 hm2 hl hw hb1
      go_enter Try.func3, Try.ntmps3
      go_wp2_with fail
      refine (fit_any _).mono ?_
      rintro e w1 ⟨rfl, hM1⟩
      have s1 := (hM1.blk B1.out (by simp)).cell (i := 0) rfl
      go_wp2_with fail
      go_ret
      exact ⟨rfl, M0.out.trans hM1⟩
end Go.Proofs.Ytnhnmpgjbopihaa.Conn
