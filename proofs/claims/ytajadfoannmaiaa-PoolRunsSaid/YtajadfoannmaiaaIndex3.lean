/- index.Index: Remove. -/
import Derived.Test.YtajadfoannmaiaaIndex2
import Derived.WalkMore
namespace Go.Proofs.Ytajadfoannmaiaa.Index
open Go Go.RowKit Go.YtajadfoannmaiaaMem Go.YtajadfoannmaiaaLex Go.Proofs.Ytajadfoannmaiaa.Hash Go.Proofs.Ytajadfoannmaiaa.Keys Go.Proofs.Ytajadfoannmaiaa.Probe
set_option linter.unusedVariables false
set_option linter.unusedSimpArgs false

section
variable {w : World} {x g : Nat} {L : List Nat} {r : Row} {S : List (Option (List UInt8))} {fl : List Nat}
set_option maxRecDepth 4000 in
set_option maxHeartbeats 3200000 in
theorem remove_any (h : IdxAt w x g L r S fl) (key : List UInt8) (hl : key.length ≤ 1000000) :
    Calls Try.prog 28 #[.pointer (some ⟨x, 0, none⟩), .string ⟨key.toArray⟩] w (PutsPost x g L r (remS S fl key) w) := by
  have hu := h.uniq
  have HA := Lib.hid h
  obtain ⟨b1, b2, b3, t, bs, nx, T, rfl, h⟩ := h
  have K := Lib.hid (look_any h key hl)
  have HU := Lib.hid hu
  have HI := Lib.hid h
  have c0 := h.blk.cell (i := 0) rfl
  have c4 := h.blk.cell (i := 4) rfl
  obtain ⟨hf1, hf2⟩ := h.few
  have HB := Lib.hid h.blk
  have HT := Lib.hid h.tab
  have hfew := h.sto.few
  have hTS := h.ix.len
  cases hp : placeOf S key with
  | none =>
    have hr : remS S fl key = (-1, S, fl) := by unfold remS; rw [hp]
    rw [hr]
    have HP := Lib.hid hp
    clear h hu HI hfew hr hp hTS
    go_enter Try.func28, Try.ntmps28
    go_wp2_with fail
    go_step3
    go_wp2_with fail
    refine K.out.mono ?_
    rintro e1 w1 ⟨d, o, hd, hE, hw, rfl, hM⟩
    obtain rfl := ends_place HU.out hE
    have MR := Lib.hid hM
    have hz : optInt (placeOf S key) = -1 := by rw [HP.out]; rfl
    rw [hz]
    clear hd hE hw hM hz
    generalize (homeOf r T.length key + d) % T.length = i at *
    go_wp2_with fail
    go_ret
    exact ⟨rfl, HA.out.mod MR.out (by simp), MR.out.mono (by simp)⟩
  | some p =>
    have hr : remS S fl key = ((p : Int), S.set p none, p :: fl) := by unfold remS; rw [hp]
    rw [hr]
    have HP := Lib.hid hp
    have hps := placeOf_get hp
    have hpl : p < S.length := (List.getElem?_eq_some_iff.1 hps).1
    have HPS := Lib.hid hps
    have FR := Lib.hid (fun (W : World) (hM : Mod [] w W) => free_any (h.sto.mod hM (by simp)) p key hps)
    have hne := h.ne
    simp only [List.mem_cons, List.not_mem_nil, or_false, not_or] at hne
    obtain ⟨n1, ⟨n2, n3, n4, n5⟩, n6, n7, n8, n9⟩ := hne
    obtain ⟨N, hN⟩ : ∃ N, T.length = N := ⟨_, rfl⟩
    have HNN := Lib.hid hN
    have hok := h.ok
    rw [hN] at hf1 hf2 c4
    have HB' := HB.out
    rw [hN] at HB'
    have HB2 := Lib.hid HB'
    have hSN : S.length < N := by omega
    have HTS := Lib.hid hTS
    clear h hu hp hr hps hN hTS HB' HB
    go_enter Try.func28, Try.ntmps28
    go_wp2_with fail
    go_step3
    go_wp2_with fail
    refine K.out.mono ?_
    rintro e1 w1 ⟨d, o, hd, hE, hw, rfl, hM⟩
    have ho := ends_place HU.out hE
    rw [HP.out] at ho
    subst ho
    have MR := Lib.hid hM
    have h0 : T[(homeOf r T.length key + d) % T.length]? = some (p + 1) := by cases hE; assumption
    rw [HNN.out] at h0 ⊢
    obtain ⟨i0, hi⟩ : ∃ i, (homeOf r N key + d) % N = i := ⟨_, rfl⟩
    rw [hi] at h0 ⊢
    have hiT : i0 < N := by rw [← HNN.out]; exact (List.getElem?_eq_some_iff.1 h0).1
    have e0 := (hM.cell (a := ⟨x, 0, none⟩) HB2.out.lt (by simp)).trans c0
    have e4 := (hM.cell (a := ⟨x, 4, none⟩) HB2.out.lt (by simp)).trans c4
    have ho1 : optInt (some p) = (p : Int) := rfl
    rw [ho1]
    obtain ⟨u0, hH⟩ := HI.out.ix.out h0 HPS.out
    rw [HNN.out] at hH
    have HH := Lib.hid hH
    have H0 := Lib.hid h0
    clear hd hE hw hM h0 hi ho1 hH c0 c4
    go_wp2_with fail
    refine (FR.out _ MR.out).mono ?_
    rintro e2 w2 ⟨rfl, hS2, hM2⟩
    have M2 := Lib.hid ((MR.out.mono (S' := [g, b2, b3]) (by simp)).trans hM2)
    have B2 := Lib.hid (M2.out.blk HB2.out (by simp [n2, n4, n5]))
    have T2 := Lib.hid (M2.out.blk HT.out (by simp [n6, n8, n9]))
    have k4 := B2.out.cell (i := 4) rfl
    have ci := T2.out.cell (tbl_get H0.out)
    have fi := T2.out.free i0
    have HS := Lib.hid hS2
    clear hS2 hM2 e0 e4
    go_wp2_with fail
    obtain ⟨z, hz⟩ : ∃ z, (i0 + u0) % N = z := ⟨_, rfl⟩
    obtain ⟨a1, ha1⟩ : ∃ a1, (i0 + 1) % N = a1 := ⟨_, rfl⟩
    have hst : ((i0 : Int) + 1).tmod N = (a1 : Int) := by
      rw [Int.tmod_eq_emod_of_nonneg (by omega), ← ha1]; simp
    have HZ := Lib.hid hz
    have HA1 := Lib.hid ha1
    obtain ⟨w3, hw3⟩ : ∃ w3, w2.setCell ⟨t, i0, none⟩ (.int .i32 0) = w3 := ⟨_, rfl⟩
    rw [hw3]
    have T3 : Hid (Blk w3 t 21 (tbl (T.set i0 0))) := Lib.hid (by rw [← hw3, tbl_set]; exact T2.out.set i0 _)
    have M3 : Hid (Mod [t] w2 w3) := Lib.hid (by rw [← hw3]; exact (Mod.refl [t] _).setCell (p := ⟨t, i0, none⟩) (.inl (by simp)) _)
    have B3 := Lib.hid (M3.out.blk B2.out (by simp [n1]))
    have S3 := Lib.hid (HS.out.mod M3.out (by simp; omega))
    clear hz ha1 hw3 k4 ci fi
    go_step3
    go_wp2_with fail
    go_loopw [5, 8] (fun iv av wr => ∃ (i s u a : Nat) (T' : List Nat), T'.length = N ∧ Hole (homeOf r N) (S.set p none) T' i s u ∧ (i + u) % N = z ∧ (i + s) % N = a ∧ iv = .int .i64 (i : Int) ∧ av = .int .i64 (a : Int) ∧ Blk wr t 21 (tbl T') ∧ Mod [t] w3 wr) (fun _ av _ => (z + N - (intOf av).toNat) % N)
    case atStart => exact ⟨i0, 1, u0, a1, T.set i0 0, by rw [List.length_set]; exact HNN.out, HH.out, HZ.out, HA1.out, rfl, rfl, T3.out, Mod.refl _ _⟩
    case round =>
      obtain ⟨i, s, u, a, T', hT', hH, hz, ha, rfl, rfl, hB, hM⟩ := hrel
      have hN0 : 0 < N := by omega
      have hil : i < N := by rw [← hT']; exact hH.ilt
      have hal : a < N := by rw [← ha]; exact Nat.mod_lt _ hN0
      have hs0 := hH.pos
      have hsu := hH.le
      have hun : u < N := by rw [← hT']; exact hH.lt
      have hdd : (z + N - a) % N = u - s := by rw [← hz, ← ha]; exact dist_down hsu hun
      obtain ⟨a2, ha2⟩ : ∃ a2, (a + 1) % N = a2 := ⟨_, rfl⟩
      have hnx : ((a : Int) + 1).tmod N = (a2 : Int) := by
        rw [Int.tmod_eq_emod_of_nonneg (by omega), ← ha2]; simp
      have ha3 : (i + (s + 1)) % N = a2 := by rw [← ha2, ← ha, step_mod]
      have HDD := Lib.hid hdd
      have HA2 := Lib.hid ha2
      have HA3 := Lib.hid ha3
      have HHr := Lib.hid hH
      have HBr := Lib.hid hB
      have MR := Lib.hid hM
      have HZr := Lib.hid hz
      have HAr := Lib.hid ha
      have HTr := Lib.hid hT'
      have k0 := (hM.blk B3.out (by simp [n1])).cell (i := 0) rfl
      have k4 := (hM.blk B3.out (by simp [n1])).cell (i := 4) rfl
      obtain ⟨c, hc⟩ : ∃ c, T'[a]? = some c := ⟨_, List.getElem?_eq_getElem (by omega)⟩
      have ca := hB.cell (tbl_get hc)
      have ca' := hB.free a
      have ci' := hB.free i
      have HC := Lib.hid hc
      clear hH hB hM hz ha hT' hdd ha2 ha3 hc HNN HTS HI HT HPS HP K HU HA HH H0 T2 B2 T3 HA1 HZ
      cases c with
      | zero =>
        have ca2 : wr.cell? ⟨t, a, none⟩ = some (.int .i32 0) := ca
        clear ca
        go_wp2_with fail
        try rw [Exit.noGoto_ret]
        go_ret
        refine ⟨rfl, ⟨b1, b2, b3, t, bs, _, T', rfl, S3.out.mod MR.out (by simp; omega), ?_, HBr.out, hok, ?_, by simp; omega⟩, ?_⟩
        · rw [HTr.out]; exact MR.out.blk B3.out (by simp [n1])
        · have h1 := HHr.out
          rw [HTr.out]
          refine h1.done ?_
          rw [HTr.out, HAr.out]; exact HC.out
        · exact (M2.out.mono (by simp)).trans ((M3.out.trans MR.out).mono (by simp))
      | succ q =>
        have ca2 : wr.cell? ⟨t, a, none⟩ = some (.int .i32 ((q : Int) + 1)) := by rw [ca]; simp
        obtain ⟨k, hk⟩ := HHr.out.ofT a q HC.out
        have hq : q < S.length := by have := (List.getElem?_eq_some_iff.1 hk).1; rwa [List.length_set] at this
        have hCa : T'[(i + s) % T'.length]? = some (q + 1) := by rw [HTr.out, HAr.out]; exact HC.out
        obtain ⟨d, hd, hda, hdw⟩ := HHr.out.way hCa hk
        rw [HTr.out, HAr.out] at hda
        rw [HTr.out] at hd
        obtain ⟨hm, hhm⟩ : ∃ hm, homeOf r N k = hm := ⟨_, rfl⟩
        have hm0 : hm < N := by rw [← hhm]; exact place_lt (r.of_lt k) hN0
        have hkl := (S3.out.key q k hk).1
        have KK : Hid (∀ (W : World), Mod [] wr W → Calls Try.prog 23 #[.pointer (some ⟨g, 0, none⟩), .int .i64 q] W fun e w' => e = .returned (.tuple #[.string ⟨k.toArray⟩, .bool true]) ∧ Mod [] W w') := Lib.hid fun W hM => by
          have := key_any (S3.out.mod (MR.out.trans (hM.mono (by simp))) (by simp; omega)) (q : Int)
          rw [keyOf_some hk] at this
          exact this
        have KH : Hid (∀ (W : World), Mod [] wr W → Calls Try.prog 40 #[.pointer (some ⟨x, 0, none⟩), .string ⟨k.toArray⟩] W fun e w' => e = .returned (.int .i64 (hm : Nat)) ∧ Mod [] W w') := Lib.hid fun W hM => by
          have := home_blk ((MR.out.trans (hM.mono (by simp))).blk B3.out (by simp [n1])) hok hf1 hN0 k (by omega)
          rw [hhm] at this
          exact this
        rw [hhm] at hda
        have e1 : ((a : Int) - hm + N).tmod N = (d : Int) := by
          rw [Int.tmod_eq_emod_of_nonneg (by omega)]
          have := dist_mod (N := N) hm0 hd
          rw [hda] at this
          rw [show (a : Int) - hm + N = ((a + N - hm : Nat) : Int) by omega, ← this]; simp
        have e2 : ((a : Int) - i + N).tmod N = (s : Int) := by
          rw [Int.tmod_eq_emod_of_nonneg (by omega)]
          have := dist_mod (N := N) hil (show s < N by omega)
          rw [HAr.out] at this
          rw [show (a : Int) - i + N = ((a + N - i : Nat) : Int) by omega, ← this]; simp
        have hmo := HHr.out.more hCa
        have HK := Lib.hid hk
        have HCA := Lib.hid hCa
        have HDA := Lib.hid (hhm ▸ hda : (homeOf r N k + d) % N = a)
        clear ca hdw hhm hda hk hCa S3
        by_cases hds : d < s
        · have hdi : decide ((d : Int) < s) = true := by simp; omega
          go_wp2_with fail
          refine wp_region_lex (by kernel_rfl) (by kernel_rfl) ?_
          go_wp2_with fail
          refine (KK.out _ (Mod.drew (Mod.refl _ _))).mono ?_
          rintro e4 w4 ⟨rfl, hM4⟩
          have M4 := Lib.hid ((Mod.drew (Mod.refl [] wr)).trans hM4)
          clear hM4
          go_wp2_with fail
          refine ⟨by kernel_rfl, ?_⟩
          go_wp2_with fail
          refine (KH.out _ M4.out).mono ?_
          rintro e5 w5 ⟨rfl, hM5⟩
          have M5 := Lib.hid (M4.out.trans hM5)
          clear hM5
          go_wp2_with fail
          refine wp_region_lex (by kernel_rfl) (by kernel_rfl) ?_
          go_wp2_with fail
          refine ⟨by kernel_rfl, ?_⟩
          go_wp2_with fail
          have HH2 := Lib.hid (HHr.out.skip HCA.out HK.out (by rw [HTr.out, HAr.out]; exact HDA.out) hds)
          go_roundw
          case rel => exact ⟨i, s + 1, u, a2, T', HTr.out, HH2.out, HZr.out, HA3.out, rfl, rfl, M5.out.drew.blk HBr.out (by simp), (MR.out.trans (M5.out.mono (by simp))).drew⟩
          case measure =>
            have b1 := HDD.out
            have b2 : (z + N - a2) % N = u - (s + 1) := by rw [← HZr.out, ← HA3.out]; exact dist_down (by omega) hun
            simp only [intOf, Int.toNat_natCast]
            rw [b1, b2]; omega
        · have hdi : decide ((d : Int) < s) = false := by simp; omega
          have hCI : T'[i]? = some 0 := HHr.out.hole
          have HH2 := Lib.hid (HHr.out.move HCA.out HK.out (by rw [HTr.out]; exact hd) (by rw [HTr.out, HAr.out]; exact HDA.out) (by omega))
          have hau : (a + (u - s)) % N = z := by rw [← HZr.out, ← HAr.out, Nat.mod_add_mod]; congr 1; omega
          have HAU := Lib.hid hau
          have hne : i ≠ a := fun e => by have := HC.out; rw [← e, hCI] at this; simp at this
          have hia : ((⟨t, i, none⟩ : Addr) == ⟨t, a, none⟩) = false := by simp [hne]
          have hne2 : ¬ a = i := fun e => hne e.symm
          have HCI := Lib.hid hCI
          clear hau hCI
          go_wp2_with fail
          refine wp_region_lex (by kernel_rfl) (by kernel_rfl) ?_
          go_wp2_with fail
          refine (KK.out _ (Mod.drew (Mod.refl _ _))).mono ?_
          rintro e4 w4 ⟨rfl, hM4⟩
          have M4 := Lib.hid ((Mod.drew (Mod.refl [] wr)).trans hM4)
          clear hM4
          go_wp2_with fail
          refine ⟨by kernel_rfl, ?_⟩
          go_wp2_with fail
          refine (KH.out _ M4.out).mono ?_
          rintro e5 w5 ⟨rfl, hM5⟩
          have M5 := Lib.hid (M4.out.trans hM5)
          have m4 := (((MR.out.trans (M5.out.mono (by simp))).blk B3.out (by simp [n1]))).cell (i := 4) rfl
          have BT := Lib.hid (M5.out.blk HBr.out (by simp))
          have ma := BT.out.cell (i := a) (v := .int .i32 ((q : Int) + 1)) (by rw [tbl_get HC.out]; simp)
          have mi := BT.out.cell (i := i) (v := .int .i32 0) (by rw [tbl_get HCI.out]; simp)
          have fa := BT.out.free a
          have fi := BT.out.free i
          clear hM5
          go_wp2_with fail
          refine wp_region_lex (by kernel_rfl) (by kernel_rfl) ?_
          go_wp2_with fail
          refine ⟨by kernel_rfl, ?_⟩
          go_wp2_with fail
          refine wp_region_lex (by kernel_rfl) (by kernel_rfl) ?_
          go_wp2_with fail
          refine ⟨by kernel_rfl, ?_⟩
          go_wp2_with fail
          have hMM : ∀ W, Mod [] wr W → Mod [t] w3 W := fun W hW => MR.out.trans (hW.mono (by simp))
          obtain ⟨a3, ha3⟩ : ∃ a3, (a + 1) % N = a3 := ⟨_, rfl⟩
          obtain rfl : a3 = a2 := by rw [← ha3, HA2.out]
          go_roundw
          case rel =>
            refine ⟨a, 1, u - s, a3, (T'.set i (q + 1)).set a 0, by rw [List.length_set, List.length_set]; exact HTr.out, ?_, HAU.out, HA2.out, rfl, rfl, ?_, ?_⟩
            · have := HH2.out; rw [HTr.out, HAr.out] at this; exact this
            · rw [tbl_set, tbl_set]
              exact ((BT.out.drew.set i _).set a _).drew
            · exact (((hMM _ M5.out.drew).setCell (p := ⟨t, i, none⟩) (.inl (by simp)) _).setCell (p := ⟨t, a, none⟩) (.inl (by simp)) _).drew
          case measure =>
            have b1 := HDD.out
            have b2 : (z + N - a3) % N = u - s - 1 := by rw [← HAU.out, ← HA2.out]; exact dist_down (by omega) (by omega)
            simp only [intOf, Int.toNat_natCast]
            rw [b1, b2]; omega
end
end Go.Proofs.Ytajadfoannmaiaa.Index
