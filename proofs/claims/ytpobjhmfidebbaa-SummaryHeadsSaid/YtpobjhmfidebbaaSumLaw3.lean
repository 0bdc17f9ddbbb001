/- summary's laws: SummaryHeads. -/
import Derived.Test.YtpobjhmfidebbaaSumLaw2
import Derived.Test.YtpobjhmfidebbaaRound
namespace Go.Proofs.Ytpobjhmfidebbaa.Sum
open Go Go.RowKit Go.YtpobjhmfidebbaaMem Go.YtpobjhmfidebbaaLex Go.YtpobjhmfidebbaaRange Go.Proofs.Ytpobjhmfidebbaa.Hash Go.Proofs.Ytpobjhmfidebbaa.Keys Go.Proofs.Ytpobjhmfidebbaa.Index
set_option linter.unusedVariables false
set_option linter.unusedSimpArgs false
attribute [local go_sem] Oper.semAt_some

theorem take_min {E : List Ent} {n : Nat} (h : E.length ≤ n) : E.take n = E := List.take_of_length_le h
set_option maxRecDepth 8000 in
set_option maxHeartbeats 12800000 in
theorem heads_main (w : World) (nz : Int) (stop : Int) (a : Option Addr) (cp : Nat) (l : List KW) (hm : l.length ≤ maxLen) (hP : InRow w a 2 KW.cells l) (hok : ∀ q ∈ l, q.ok) (hl : lightB l = true) :
    Calls Try.prog 8 #[.int .i64 nz, .slice a l.length cp, .int .i64 stop] w fun e w' => e = .returned (.bool true) ∧ Mod [] w w' := by
  obtain ⟨n0, hn0, hn15⟩ : ∃ n0 : Nat, bits .and .i64 nz 15 = (n0 : Int) ∧ n0 ≤ 15 := ⟨(nz % 16).toNat, by rw [show (15 : Int) = 2 ^ 4 - 1 from rfl, and_mask _ _ (by omega)]; omega, by omega⟩
  have RW := Lib.hid (fun W : World => row_any 3 4 5 (by omega) (by omega) (by omega) W)
  have hr := rowOf_ok [3, 4, 5]
  unfold RowPost v3 at RW
  generalize rowOf [3, 4, 5] = r at *
  have NW := Lib.hid (fun W : World => new_any (n0 + 1) (by omega) (by omega) r hr W)
  rw [show ((n0 + 1 : Nat) : Int) = (n0 : Int) + 1 by omega] at NW
  have LG := Lib.hid (fun (W : World) (h : Mod [] w W) => light_any (w := W) (a := a) (l := l) (fun i q hq => by
    obtain ⟨b, off, h1, h2, h3⟩ := hP i q hq
    exact ⟨b, off, h1, h.lt h2, fun j u hu => (h.cell (a := ⟨b, off + i * 2 + j, none⟩) h2 (by simp)).trans (h3 j u hu)⟩) hm cp)
  rw [hl] at LG
  have hl150 : l.length ≤ 150 := by unfold lightB at hl; simp at hl; exact hl.1
  have HK : Hid (∀ q ∈ l, q.key.length ≤ 100) := Lib.hid (by unfold lightB at hl; simp at hl; exact hl.2)
  have HP := Lib.hid hP
  have HO := Lib.hid hok
  have HL := Lib.hid hl150
  have X5 := Lib.hid ((Blk.new w [.int .i64 stop] 3).alloc (.cells #[.bool false] 4))
  have X6 := Lib.hid (Blk.new (w.alloc (.cells #[.int .i64 stop] 3)) [.bool false] 4)
  rw [show (w.alloc (.cells #[.int .i64 stop] 3)).heap.size = w.heap.size + 1 by simp] at X6
  have HSZ := Lib.hid (show ((w.alloc (.cells #[.int .i64 stop] 3)).alloc (.cells #[.bool false] 4)).heap.size = w.heap.size + 2 by simp)
  have M0 := Lib.hid (((Mod.refl [] w).alloc (.cells #[.int .i64 stop] 3)).alloc (.cells #[.bool false] 4))
  clear hr hP hok hl hm hl150
  refine calls_of_wp_marks Try.func8 rfl ?_
  simp only [Try.ntmps8, List.size_toArray, List.length_cons, List.length_nil, Nat.reduceAdd, Nat.reduceSub, Array.replicate_succ, Array.replicate_zero, List.push_toArray, List.append_toArray, List.nil_append, List.cons_append]
  go_wp2_with fail
  refine (fit_any _).mono ?_
  rintro e1 w1 ⟨rfl, hM1⟩
  have M1 := Lib.hid (M0.out.trans hM1)
  have Y5 := Lib.hid (hM1.blk X5.out (by simp))
  have Y6 := Lib.hid (hM1.blk X6.out (by simp))
  clear hM1
  go_wp2_with fail
  refine (LG.out _ M1.out).mono ?_
  rintro e2 w2 ⟨rfl, hM2⟩
  have M2 := Lib.hid (M1.out.trans hM2)
  have Z5 := Lib.hid (hM2.blk Y5.out (by simp))
  have Z6 := Lib.hid (hM2.blk Y6.out (by simp))
  clear hM2
  go_wp2_with fail
  refine (RW.out _).mono ?_
  rintro e3 w3 ⟨rfl, hM3⟩
  have M3 := Lib.hid (M2.out.trans hM3)
  have V5 := Lib.hid (hM3.blk Z5.out (by simp))
  have V6 := Lib.hid (hM3.blk Z6.out (by simp))
  clear hM3
  go_wp2_with fail
  refine (NW.out _).mono ?_
  rintro e4 w4 ⟨B, rfl, hA, hB, hM4⟩
  have A4 := Lib.hid hA
  have M4 := Lib.hid (M3.out.trans hM4)
  have U5 := Lib.hid (hM4.blk V5.out (by simp))
  have U6 := Lib.hid (hM4.blk V6.out (by simp))
  have BL : Hid (∀ b, b ∈ B.all → w.heap.size + 1 < b) := Lib.hid fun b hb => by have := hB b hb; have := V6.out.lt; omega
  obtain ⟨n, hn⟩ : ∃ n, n0 + 1 = n := ⟨_, rfl⟩
  have hnn : (n0 : Int) + 1 = (n : Int) := by omega
  have hn1 : 1 ≤ n ∧ n ≤ 16 := by omega
  rw [hn] at A4
  clear hA hB hM4 hn M1 M2 M3 Y5 Y6 Z5 Z6 V5 V6 X5 X6 M0 HSZ NW RW LG hn0 hn15
  go_wp2_with fail
  go_loopw [30] (fun i wr => ∃ (j : Nat) (s : List Ent × Int), j ≤ l.length ∧ i = .int .i64 (j : Int) ∧ SumAt wr B n s.1 s.2 ∧ OkE n s.1 s.2 ∧ Mod B.all w4 wr) (fun i _ => l.length - (intOf i).toNat)
  case atStart => exact ⟨0, ([], 0), Nat.zero_le _, rfl, A4.out, ok_nil n, Mod.refl _ _⟩
  case round =>
    clear A4
    obtain ⟨j, s, hj, rfl, hA, hO, hM⟩ := hrel
    have AR := Lib.hid hA
    have OR := Lib.hid hO
    have MR := Lib.hid hM
    have MW := Lib.hid (M4.out.trans' hM (fun b hb => .inr (by have := BL.out b hb; omega)))
    have hl150 := HL.out
    by_cases hlt : j < l.length
    · obtain ⟨q, hq⟩ : ∃ q, l[j]? = some q := ⟨_, List.getElem?_eq_getElem hlt⟩
      obtain ⟨b, off, rfl, hb, hcell⟩ := HP.out j q hq
      have hk100 := HK.out q (List.mem_of_getElem? hq)
      have hzw := wf_i64_of (HO.out q (List.mem_of_getElem? hq))
      obtain ⟨key, z⟩ := q
      simp only at hk100 hzw
      have c0 := (MW.out.cell (a := ⟨b, off + j * 2, none⟩) hb (by simp)).trans (hcell 0 _ rfl)
      have c1 := (MW.out.cell (a := ⟨b, off + j * 2 + 1, none⟩) hb (by simp)).trans (hcell 1 _ rfl)
      simp only at c0 c1
      have A1 := Lib.hid ((Mod.refl [] wr).alloc (.cells #[.string ⟨key.toArray⟩, .int .i64 z] 34))
      have F1 := Lib.hid (offer_ok (AR.out.mod A1.out (by simp)) OR.out hn1.1 key (by omega) z (by omega))
      clear hA hO hM hcell hq hb
      go_wp2_with fail
      refine F1.out.mono ?_
      rintro e1 w1 ⟨⟨v1, rfl⟩, hA1, hO1, hM1⟩
      have A1' := Lib.hid hA1
      have O1 := Lib.hid hO1
      have M1 := Lib.hid ((MR.out.trans (A1.out.mono (by simp))).trans hM1)
      clear hA1 hO1 hM1
      go_wp2_with fail
      go_roundw
      case rel => exact ⟨j + 1, _, by omega, by go_num, A1'.out, O1.out, M1.out⟩
      case measure => simp [intOf]; omega
    · obtain rfl : j = l.length := by omega
      have T5 := Lib.hid (top_any AR.out hn1.1 OR.out.len (n : Int) (by omega))
      have htn : topN n (n : Int) = n := by unfold topN; omega
      rw [htn, take_min OR.out.len] at T5
      have C5 := Lib.hid (MR.out.blk U5.out (fun h => by have := BL.out _ h; omega))
      have C6 := Lib.hid (MR.out.blk U6.out (fun h => by have := BL.out _ h; omega))
      have hel : s.1.length ≤ 16 := by have := OR.out.len; omega
      clear hA hO hM htn
      go_wp2_with fail
      refine T5.out.mono ?_
      rintro e5 w5 ⟨va, rfl, hown5, hM5⟩
      obtain ⟨xa, xc, hxa⟩ := own_slice hown5
      subst hxa
      have OW := Lib.hid (World.ownsRow.alloc hown5 (.cells #[.slice xa s.1.length xc] 49))
      have A6 := Lib.hid ((AR.out.mod hM5 (by simp)).mod ((Mod.refl [] w5).alloc (.cells #[.slice xa s.1.length xc] 49)) (by simp))
      have M6 := Lib.hid ((MW.out.trans hM5).alloc (.cells #[.slice xa s.1.length xc] 49))
      have D5 := Lib.hid ((hM5.blk C5.out (by simp)).alloc (.cells #[.slice xa s.1.length xc] 49))
      have D6 := Lib.hid ((hM5.blk C6.out (by simp)).alloc (.cells #[.slice xa s.1.length xc] 49))
      have D10 := Lib.hid (Blk.new w5 [.slice xa s.1.length xc] 49)
      have hwb := (hM5.blk C6.out (by simp)).lt
      clear hown5 hM5
      go_wp2_with fail
      obtain ⟨b10, hb10⟩ : ∃ b, w5.heap.size = b := ⟨_, rfl⟩
      obtain ⟨w6, hw6⟩ : ∃ w6, w5.alloc (.cells #[.slice xa s.1.length xc] 49) = w6 := ⟨_, rfl⟩
      rw [hw6] at OW A6 M6 D5 D6 D10
      rw [hb10] at D10 hwb
      rw [hw6, hb10]
      clear hw6 hb10
      go_loopw [11] (fun i wr => ∃ k : Nat, 1 ≤ k ∧ k ≤ n + 1 ∧ i = .int .i64 (k : Int) ∧ Mod [] w6 wr) (fun i _ => n + 1 - (intOf i).toNat)
      case atStart => exact ⟨1, by omega, by omega, rfl, Mod.refl _ _⟩
      case round =>
        obtain ⟨k, hk1, hkn, rfl, hM⟩ := hrel
        have MK := Lib.hid hM
        by_cases hlt3 : k ≤ n
        · have T7 := Lib.hid (top_any (A6.out.mod hM (by simp)) hn1.1 OR.out.len (k : Int) (by omega))
          have htk : topN n (k : Int) = k := by unfold topN; omega
          obtain ⟨T, hT⟩ : ∃ T, s.1.take k = T := ⟨_, rfl⟩
          rw [htk, hT] at T7
          have hTl : T.length = min k s.1.length := by rw [← hT, List.length_take]
          have HT := Lib.hid hT
          clear hM htk hT
          go_wp2_with fail
          refine T7.out.mono ?_
          rintro e7 w7 ⟨vb', rfl, hown7, hM7⟩
          obtain ⟨ya, yc, hya⟩ := own_slice hown7
          subst hya
          have MK2 := Lib.hid (MK.out.trans hM7)
          have OB := Lib.hid hown7
          have OC := Lib.hid (MK2.out.own OW.out (by simp))
          have z10 := (MK2.out.blk D10.out (by simp)).cell (i := 0) rfl
          clear hown7 hM7
          by_cases c1 : (s.1.length : Int) < (k : Int)
          · have c2 : s.1.length < k := by omega
            have c3 : ((T.length : Int) == (s.1.length : Int)) = true := by simp; omega
            have c4 : (T.length == s.1.length) = true := by simp; omega
            have c5 : ((T.length : Int) != (s.1.length : Int)) = false := by simp; omega
            go_wp2_with fail
            go_loopw [61] (fun i wr => ∃ t : Nat, t ≤ T.length ∧ i = .int .i64 (t : Int) ∧ Mod [] w7 wr) (fun i _ => T.length - (intOf i).toNat)
            case atStart => exact ⟨0, Nat.zero_le _, rfl, Mod.refl _ _⟩
            case round =>
              obtain ⟨t, ht, rfl, hM⟩ := hrel
              have MI := Lib.hid hM
              by_cases hlt4 : t < T.length
              · obtain ⟨ga, ca, hva, _, hga, hca⟩ := own_ents OB.out (by omega)
                obtain ⟨gb, cb, hvb, _, hgb, hcb⟩ := own_ents OC.out (by omega)
                obtain ⟨e, he⟩ : ∃ e, T[t]? = some e := ⟨_, List.getElem?_eq_getElem hlt4⟩
                have he2 : s.1[t]? = some e := by
                  rw [← HT.out] at he
                  have := (List.getElem?_eq_some_iff.1 he).1
                  rw [List.length_take] at this
                  rwa [List.getElem?_take_of_lt (by omega)] at he
                obtain ⟨p0, p1, p2⟩ := hca t e he
                obtain ⟨q0, q1, q2⟩ := hcb t e he2
                simp only [Value.slice.injEq, true_and] at hva hvb
                obtain ⟨rfl, rfl⟩ := hva
                obtain ⟨rfl, rfl⟩ := hvb
                have p0' := (hM.cell (a := ⟨ga, t * 3, none⟩) hga (by simp)).trans p0
                have p1' := (hM.cell (a := ⟨ga, t * 3 + 1, none⟩) hga (by simp)).trans p1
                have p2' := (hM.cell (a := ⟨ga, t * 3 + 2, none⟩) hga (by simp)).trans p2
                have q0' := (hM.cell (a := ⟨gb, t * 3, none⟩) hgb (by simp)).trans q0
                have q1' := (hM.cell (a := ⟨gb, t * 3 + 1, none⟩) hgb (by simp)).trans q1
                have q2' := (hM.cell (a := ⟨gb, t * 3 + 2, none⟩) hgb (by simp)).trans q2
                have z10 := ((MK2.out.trans hM).blk D10.out (by simp)).cell (i := 0) rfl
                have hts : t < s.1.length := (List.getElem?_eq_some_iff.1 he2).1
                obtain ⟨ek, en, ee⟩ := e
                simp only at p0' p1' p2' q0' q1' q2'
                clear hM hca hcb p0 p1 p2 q0 q1 q2 he he2
                go_wp2_with fail
                refine wp_region_lex (by kernel_rfl) (by kernel_rfl) ?_
                go_wp2_with fail
                refine ⟨by kernel_rfl, ?_⟩
                go_wp2_with fail
                go_roundw
                case rel => exact ⟨t + 1, by omega, by go_num, MI.out.drew⟩
                case measure => simp [intOf]; omega
              · obtain rfl : t = T.length := by omega
                clear hM
                go_wp2_with fail
                go_roundw
                case rel => exact ⟨k + 1, by omega, by omega, by go_num, MK2.out.trans MI.out⟩
                case measure => simp [intOf]; omega
          · have c2 : ¬ s.1.length < k := by omega
            have c3 : ((T.length : Int) == (k : Int)) = true := by simp; omega
            have c4 : (T.length == k) = true := by simp; omega
            have c5 : ((T.length : Int) != (k : Int)) = false := by simp; omega
            go_wp2_with fail
            go_loopw [61] (fun i wr => ∃ t : Nat, t ≤ T.length ∧ i = .int .i64 (t : Int) ∧ Mod [] w7 wr) (fun i _ => T.length - (intOf i).toNat)
            case atStart => exact ⟨0, Nat.zero_le _, rfl, Mod.refl _ _⟩
            case round =>
              obtain ⟨t, ht, rfl, hM⟩ := hrel
              have MI := Lib.hid hM
              by_cases hlt4 : t < T.length
              · obtain ⟨ga, ca, hva, _, hga, hca⟩ := own_ents OB.out (by omega)
                obtain ⟨gb, cb, hvb, _, hgb, hcb⟩ := own_ents OC.out (by omega)
                obtain ⟨e, he⟩ : ∃ e, T[t]? = some e := ⟨_, List.getElem?_eq_getElem hlt4⟩
                have he2 : s.1[t]? = some e := by
                  rw [← HT.out] at he
                  have := (List.getElem?_eq_some_iff.1 he).1
                  rw [List.length_take] at this
                  rwa [List.getElem?_take_of_lt (by omega)] at he
                obtain ⟨p0, p1, p2⟩ := hca t e he
                obtain ⟨q0, q1, q2⟩ := hcb t e he2
                simp only [Value.slice.injEq, true_and] at hva hvb
                obtain ⟨rfl, rfl⟩ := hva
                obtain ⟨rfl, rfl⟩ := hvb
                have p0' := (hM.cell (a := ⟨ga, t * 3, none⟩) hga (by simp)).trans p0
                have p1' := (hM.cell (a := ⟨ga, t * 3 + 1, none⟩) hga (by simp)).trans p1
                have p2' := (hM.cell (a := ⟨ga, t * 3 + 2, none⟩) hga (by simp)).trans p2
                have q0' := (hM.cell (a := ⟨gb, t * 3, none⟩) hgb (by simp)).trans q0
                have q1' := (hM.cell (a := ⟨gb, t * 3 + 1, none⟩) hgb (by simp)).trans q1
                have q2' := (hM.cell (a := ⟨gb, t * 3 + 2, none⟩) hgb (by simp)).trans q2
                have z10 := ((MK2.out.trans hM).blk D10.out (by simp)).cell (i := 0) rfl
                have hts : t < s.1.length := (List.getElem?_eq_some_iff.1 he2).1
                obtain ⟨ek, en, ee⟩ := e
                simp only at p0' p1' p2' q0' q1' q2'
                clear hM hca hcb p0 p1 p2 q0 q1 q2 he he2
                go_wp2_with fail
                refine wp_region_lex (by kernel_rfl) (by kernel_rfl) ?_
                go_wp2_with fail
                refine ⟨by kernel_rfl, ?_⟩
                go_wp2_with fail
                go_roundw
                case rel => exact ⟨t + 1, by omega, by go_num, MI.out.drew⟩
                case measure => simp [intOf]; omega
              · obtain rfl : t = T.length := by omega
                clear hM
                go_wp2_with fail
                go_roundw
                case rel => exact ⟨k + 1, by omega, by omega, by go_num, MK2.out.trans MI.out⟩
                case measure => simp [intOf]; omega
        · obtain rfl : k = n + 1 := by omega
          clear hM
          have AL8 := Lib.hid ((A6.out.mod MK.out (by simp)).mod ((Mod.refl [] wr).alloc (.cells #[.int .i64 0] 3)) (by simp))
          have L8 := Lib.hid ((MK.out.blk D10.out (by simp)).alloc (.cells #[.int .i64 0] 3))
          have A5 := Lib.hid ((MK.out.blk D5.out (by simp)).alloc (.cells #[.int .i64 0] 3))
          have A4 := Lib.hid ((MK.out.blk D6.out (by simp)).alloc (.cells #[.int .i64 0] 3))
          have O8 := Lib.hid (World.ownsRow.alloc (MK.out.own OW.out (by simp)) (.cells #[.int .i64 0] 3))
          have OLt : Hid (∀ b, (Value.slice xa s.1.length xc).ownBlock = some b → b < wr.heap.size) := Lib.hid fun b hb => ((MK.out.own OW.out (by simp)).lt b hb).2
          have I8 := Lib.hid (Blk.new wr [.int .i64 0] 3)
          have MA := Lib.hid ((M6.out.trans MK.out).alloc (.cells #[.int .i64 0] 3))
          have BLt : Hid (∀ b, b ∈ B.all → b < wr.heap.size) := Lib.hid fun b hb => (A6.out.mod MK.out (by simp)).lt b hb
          have h10 := (MK.out.blk D10.out (by simp)).lt
          have h6 := (MK.out.blk D6.out (by simp)).lt
          go_wp2_with fail
          obtain ⟨b14, hb14⟩ : ∃ b, wr.heap.size = b := ⟨_, rfl⟩
          obtain ⟨w8, hw8⟩ : ∃ w8, wr.alloc (.cells #[.int .i64 0] 3) = w8 := ⟨_, rfl⟩
          have hs8 : b14 < w8.heap.size := by rw [← hw8, ← hb14]; simp
          rw [hw8] at AL8 L8 A5 A4 O8 I8 MA
          rw [hb14] at OLt I8 BLt h10 h6
          rw [hw8]
          clear hw8
          refine wp_range (Kp := Under w8.heap.size [b14]) (encs := encS) (xs := s.1) rfl (enters_of Try.func19 (by kernel_rfl) rfl)
            (all_iter AL8.out (fun A A' hA hK b hb => hK.block b (AL8.out.lt b hb) (by simp; have := BLt.out b hb; omega)))
            (fun h k => h.trans k) (fun h => h.mono (by simp)) (fun _ => rfl)
            (fun pre W => Mod [b14] w8 W ∧ Blk W b14 3 [.int .i64 (pre.length : Int)])
            (fun c pre W => c = .exit 6 ∧ Mod [b14] w8 W ∧ Blk W b14 3 [.int .i64 stop])
            ?hI ?hIx ⟨Mod.refl _ _, I8.out⟩ ?round ?done ?stop
          case hI => exact fun pre A B' h hu => ⟨mod_under h.1 hu, blk_under h.2 hu (by omega)⟩
          case hIx => exact fun c pre A B' h hu => ⟨h.1, mod_under h.2.1 hu, blk_under h.2.2 hu (by omega)⟩
          case round =>
            rintro l0 pre x W hl1 hl2 ⟨hM, hB⟩ ⟨post, hx⟩
            have MW2 := Lib.hid hM
            have hWs := hM.size
            have hpl : pre.length < s.1.length := by have := congrArg List.length hx; simp at this; omega
            have hxe : s.1[pre.length]? = some x := by rw [hx, List.getElem?_append_right (Nat.le_refl _)]; simp
            obtain ⟨g, cap, hva, _, hgl, hcl⟩ := own_ents O8.out (by omega)
            obtain ⟨p0, p1, p2⟩ := hcl pre.length x hxe
            simp only [Value.slice.injEq, true_and] at hva
            obtain ⟨rfl, rfl⟩ := hva
            have hgo := OLt.out g rfl
            have N9 := Lib.hid (Blk.new W x.cells 46)
            have D9 := Lib.hid ((Mod.refl [] W).alloc (.cells x.cells.toArray 46))
            have B7 := Lib.hid hB
            obtain ⟨key, en, ee⟩ := x
            simp only [Ent.cells, encS, Ent.val] at *
            clear hx hB hM hcl hxe
            gi_wp2
            refine ⟨Over.of_mod D9.out (by simp), Under.of_mod (D9.out.mono (by simp)) hWs, fun o => ?_⟩
            obtain ⟨W2, hW2⟩ : ∃ W2, (W.alloc (.cells #[.string ⟨key.toArray⟩, .int .i64 en, .int .i64 ee] 46)).putObj l0 o = W2 := ⟨_, rfl⟩
            have M2 : Hid (Mod [l0] (W.alloc (.cells #[.string ⟨key.toArray⟩, .int .i64 en, .int .i64 ee] 46)) W2) := Lib.hid (by rw [← hW2]; exact mod_putObj _ _ _)
            have C7 := Lib.hid (M2.out.blk (B7.out.alloc _) (by simp; omega))
            have C9 := Lib.hid (M2.out.blk N9.out (by simp; omega))
            have MW3 := Lib.hid ((MW2.out.trans (D9.out.mono (by simp))).trans' M2.out (fun b hb => .inr (by simp at hb; omega)))
            rw [hW2]
            have hs2 := MW3.out.size
            clear hW2
            obtain ⟨bS, hbS⟩ : ∃ bS, ((pre.length : Int) == stop) = bS := ⟨_, rfl⟩
            have c7 := C7.out.cell (i := 0) rfl
            have c3 := (MW3.out.blk A5.out (by simp; omega)).cell (i := 0) rfl
            cases bS with
            | true =>
              gi_wp2
              refine ⟨Over.refl _ _, rfl, MW3.out, ?_⟩
              have := C7.out
              rw [show (pre.length : Int) = stop by simpa using hbS] at this
              exact this
            | false =>
              have k0 := C9.out.cell (i := 0) rfl
              have k1 := C9.out.cell (i := 1) rfl
              have k2 := C9.out.cell (i := 2) rfl
              have l8 := (MW3.out.blk L8.out (by simp; omega)).cell (i := 0) rfl
              have g0 := (MW3.out.cell (a := ⟨g, pre.length * 3, none⟩) (by show g < w8.heap.size; omega) (by simp; omega)).trans p0
              have g1 := (MW3.out.cell (a := ⟨g, pre.length * 3 + 1, none⟩) (by show g < w8.heap.size; omega) (by simp; omega)).trans p1
              have g2 := (MW3.out.cell (a := ⟨g, pre.length * 3 + 2, none⟩) (by show g < w8.heap.size; omega) (by simp; omega)).trans p2
              have f7 := C7.out.free 0
              have hb7l : b14 < W2.heap.size := C7.out.lt
              have hps : pre.length ≤ 16 := by omega
              clear p0 p1 p2
              gi_wp2
              refine wpIn_region_lex (by kernel_rfl) (by kernel_rfl) ?hno (by kernel_rfl) ?_
              case hno => rintro ⟨a0, w0, h⟩; exact h
              go_wp2_with fail
              refine ⟨by kernel_rfl, ?_⟩
              gi_wp2
              have MS : Hid (Mod [b14] W2 ((W2.setCell ⟨b14, 0, none⟩ (.int .i64 ((pre.length : Int) + 1))).drew)) := Lib.hid ((Mod.refl [b14] W2).setCell (p := ⟨b14, 0, none⟩) (.inl (by simp)) _).drew
              refine ⟨Over.of_mod MS.out (by simp; omega), Under.of_mod MS.out hs2, MW3.out.trans MS.out, ?_⟩
              have := (C7.out.set 0 (.int .i64 ((pre.length : Int) + 1))).drew
              rw [List.length_append]
              simpa using this
          case done =>
            rintro D W hD ⟨hM, hB⟩ hK
            have MW9 := Lib.hid hM
            have HK2 := Lib.hid hK
            have r7 := hB.cell (i := 0) rfl
            have R4 := Lib.hid (hM.blk A4.out (by simp; omega))
            have r10 := (hM.blk L8.out (by simp; omega)).cell (i := 0) rfl
            have f4 := R4.out.free 0
            have g4 := R4.out.cell (i := 0) rfl
            clear hM hK
            go_wp2_with fail
            have S4 : Blk (W.setCell ⟨w.heap.size + 1, 0, none⟩ (.bool true)) (w.heap.size + 1) 4 [.bool true] := R4.out.set 0 _
            have MS := ((Mod.refl [w.heap.size + 1] W).setCell (p := ⟨w.heap.size + 1, 0, none⟩) (.inl (by simp)) (.bool true))
            have KS := MS.heap HK2.out (by simp; omega)
            generalize W.setCell ⟨w.heap.size + 1, 0, none⟩ (.bool true) = W3 at *
            have E4 := putObj_blk (o' := .deferred none) S4 KS rfl
            have ME : Mod [] w (W3.putObj D (.deferred none)) := putObj_mod (((MA.out.trans' MW9.out (fun b hb => .inr (by simp at hb; omega)))).trans' MS (fun b hb => .inr (by simp at hb; omega))) (D := D) (by omega) (.deferred none)
            have r4 := E4.cell (i := 0) rfl
            refine leave1 KS (v := .bool true) (by simp [results, Try.results8, go_sem, r4]) ⟨rfl, ME⟩
          case stop =>
            rintro D c pre x post W hD hx ⟨rfl, hM, hB⟩ hK
            have MW9 := Lib.hid hM
            have HK2 := Lib.hid hK
            have r7 := hB.cell (i := 0) rfl
            have R4 := Lib.hid (hM.blk A4.out (by simp; omega))
            have R3 := Lib.hid (hM.blk A5.out (by simp; omega))
            have r3 := R3.out.cell (i := 0) rfl
            have r10 := (hM.blk L8.out (by simp; omega)).cell (i := 0) rfl
            have f4 := R4.out.free 0
            have g4 := R4.out.cell (i := 0) rfl
            obtain ⟨bk, hbk⟩ : ∃ bk, (stop == (s.1.length : Int)) = bk := ⟨_, rfl⟩
            clear hM hK hx
            cases bk with
            | true =>
              go_wp2_with fail
              have S4 : Blk (W.setCell ⟨w.heap.size + 1, 0, none⟩ (.bool true)) (w.heap.size + 1) 4 [.bool true] := R4.out.set 0 _
              have MS := ((Mod.refl [w.heap.size + 1] W).setCell (p := ⟨w.heap.size + 1, 0, none⟩) (.inl (by simp)) (.bool true))
              have KS := MS.heap HK2.out (by simp; omega)
              generalize W.setCell ⟨w.heap.size + 1, 0, none⟩ (.bool true) = W3 at *
              have E4 := putObj_blk (o' := .deferred none) S4 KS rfl
              have ME : Mod [] w (W3.putObj D (.deferred none)) := putObj_mod (((MA.out.trans' MW9.out (fun b hb => .inr (by simp at hb; omega)))).trans' MS (fun b hb => .inr (by simp at hb; omega))) (D := D) (by omega) (.deferred none)
              have r4 := E4.cell (i := 0) rfl
              refine leave1 KS (v := .bool true) (by simp [results, Try.results8, go_sem, r4]) ⟨rfl, ME⟩
            | false =>
              go_wp2_with fail
              have S4 : Blk (W.setCell ⟨w.heap.size + 1, 0, none⟩ (.bool true)) (w.heap.size + 1) 4 [.bool true] := R4.out.set 0 _
              have MS := ((Mod.refl [w.heap.size + 1] W).setCell (p := ⟨w.heap.size + 1, 0, none⟩) (.inl (by simp)) (.bool true))
              have KS := MS.heap HK2.out (by simp; omega)
              generalize W.setCell ⟨w.heap.size + 1, 0, none⟩ (.bool true) = W3 at *
              have E4 := putObj_blk (o' := .deferred none) S4 KS rfl
              have ME : Mod [] w (W3.putObj D (.deferred none)) := putObj_mod (((MA.out.trans' MW9.out (fun b hb => .inr (by simp at hb; omega)))).trans' MS (fun b hb => .inr (by simp at hb; omega))) (D := D) (by omega) (.deferred none)
              have r4 := E4.cell (i := 0) rfl
              refine leave1 KS (v := .bool true) (by simp [results, Try.results8, go_sem, r4]) ⟨rfl, ME⟩
set_option maxRecDepth 8000 in
theorem heads_walk (w : World) (nz : Int) (hw1 : (Lit.int .i64 nz).wf = true) (a : Option Addr) (cp : Nat) (l : List KW) (hm : l.length ≤ maxLen) (hP : InRow w a 2 KW.cells l) (hok : ∀ q ∈ l, q.ok) (stop : Int) (hw2 : (Lit.int .i64 stop).wf = true) :
    Calls Try.prog 8 #[.int .i64 nz, .slice a l.length cp, .int .i64 stop] w fun e w' => e = .returned (.bool true) ∧ Mod [] w w' := by
  cases hl : lightB l with
  | true => exact heads_main w nz stop a cp l hm hP hok hl
  | false =>
    obtain ⟨n0, hn0, hn15⟩ : ∃ n0 : Nat, bits .and .i64 nz 15 = (n0 : Int) ∧ n0 ≤ 15 := ⟨(nz % 16).toNat, by rw [show (15 : Int) = 2 ^ 4 - 1 from rfl, and_mask _ _ (by omega)]; omega, by omega⟩
    have LG := Lib.hid (fun (W : World) (h : Mod [] w W) => light_any (w := W) (a := a) (l := l) (fun i q hq => by
      obtain ⟨b, off, h1, h2, h3⟩ := hP i q hq
      exact ⟨b, off, h1, h.lt h2, fun j u hu => (h.cell (a := ⟨b, off + i * 2 + j, none⟩) h2 (by simp)).trans (h3 j u hu)⟩) hm cp)
    rw [hl] at LG
    have X6 := Lib.hid (Blk.new (w.alloc (.cells #[.int .i64 stop] 3)) [.bool false] 4)
    rw [show (w.alloc (.cells #[.int .i64 stop] 3)).heap.size = w.heap.size + 1 by simp] at X6
    have M0 := Lib.hid (((Mod.refl [] w).alloc (.cells #[.int .i64 stop] 3)).alloc (.cells #[.bool false] 4))
    clear hP hl hw1 hw2 hok
    refine calls_of_wp_marks Try.func8 rfl ?_
    simp only [Try.ntmps8, List.size_toArray, List.length_cons, List.length_nil, Nat.reduceAdd, Nat.reduceSub, Array.replicate_succ, Array.replicate_zero, List.push_toArray, List.append_toArray, List.nil_append, List.cons_append]
    go_wp2_with fail
    refine (fit_any _).mono ?_
    rintro e1 w1 ⟨rfl, hM1⟩
    have M1 := Lib.hid (M0.out.trans hM1)
    have Y1 := Lib.hid (hM1.blk X6.out (by simp))
    clear hM1
    go_wp2_with fail
    refine (LG.out _ M1.out).mono ?_
    rintro e2 w2 ⟨rfl, hM2⟩
    have M2 := Lib.hid (M1.out.trans hM2)
    have Y2 := Lib.hid (hM2.blk Y1.out (by simp))
    have f4 := Y2.out.free 0
    have g4 := Y2.out.cell (i := 0) rfl
    clear hM2
    go_wp2_with fail
    have r4 := (Y2.out.set 0 (.bool true)).cell (i := 0) rfl
    exact ⟨.bool true, by simp [results, Try.results8, go_sem, r4], rfl, M2.out.setCell (p := ⟨w.heap.size + 1, 0, none⟩) (.inr (by show w.heap.size ≤ w.heap.size + 1; omega)) _⟩
end Go.Proofs.Ytpobjhmfidebbaa.Sum
