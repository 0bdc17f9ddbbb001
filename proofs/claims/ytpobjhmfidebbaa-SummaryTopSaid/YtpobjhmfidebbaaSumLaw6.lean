/- summary's laws: SummaryTop. -/
import Derived.Test.YtpobjhmfidebbaaSumLaw5
import Derived.Test.YtpobjhmfidebbaaSumLaw2
import Derived.Test.YtpobjhmfidebbaaMapV
namespace Go.Proofs.Ytpobjhmfidebbaa.Sum
open Go Go.RowKit Go.YtpobjhmfidebbaaMem Go.YtpobjhmfidebbaaLex Go.YtpobjhmfidebbaaRange Go.Proofs.Ytpobjhmfidebbaa.Hash Go.Proofs.Ytpobjhmfidebbaa.Keys Go.Proofs.Ytpobjhmfidebbaa.Index
set_option linter.unusedVariables false
set_option linter.unusedSimpArgs false

noncomputable section
open Classical in
/-- Which keys were met. -/
def thereOf (T : List Ent) : Lit → Option Value := fun k => if k ∈ T.map (fun e => Lit.string e.key) then some (.bool true) else none
end
theorem there_nil (k : Lit) : thereOf [] k = none := by simp [thereOf]
theorem there_mem {T : List Ent} {e : Ent} (h : e ∈ T) : thereOf T (.string e.key) = some (.bool true) := by
  unfold thereOf; rw [if_pos (List.mem_map.2 ⟨e, h, rfl⟩)]
theorem there_no {T : List Ent} {key : List UInt8} (h : ∀ e ∈ T, e.key ≠ key) : thereOf T (.string key) = none := by
  unfold thereOf; rw [if_neg]
  intro hm
  obtain ⟨e, he, hk⟩ := List.mem_map.1 hm
  injection hk with hk
  exact h e he hk
theorem there_step {T : List Ent} {i : Nat} {e : Ent} (he : T[i]? = some e) (k : Lit) : updG (thereOf (T.take i)) (.string e.key) (some (.bool true)) k = thereOf (T.take (i + 1)) k := by
  rw [take_snoc he]
  by_cases hk : k = .string e.key
  · subst hk
    rw [updG_same, there_mem (by simp)]
  · rw [updG_other hk]
    unfold thereOf
    have : (k ∈ (T.take i ++ [e]).map (fun e => Lit.string e.key)) ↔ k ∈ (T.take i).map (fun e => Lit.string e.key) := by simp [hk]
    by_cases hm : k ∈ (T.take i).map (fun e => Lit.string e.key)
    · rw [if_pos hm, if_pos (this.2 hm)]
    · rw [if_neg hm, if_neg (fun h => hm (this.1 h))]
theorem zero_bool (w : World) : (zeroValue 4).run Try.prog w = .ok (.bool false) w := by kernel_rfl
theorem text_key (k : List UInt8) (hl : k.length ≤ maxLen) : keyOf Try.prog 9 (.string ⟨k.toArray⟩) = some (.string k) := key_str Try.underlying9 hl
abbrev SK := Maps.string_keyed Try.underlying9
abbrev MT := MapG Try.prog 9

def TopRight (w : World) (e : Ending) (w' : World) : Prop := e = .returned (.bool true) ∧ Mod [] w w'
set_option maxRecDepth 8000 in
set_option maxHeartbeats 12800000 in
theorem top_main (w : World) (nz kz : Int) (hkz : (Lit.int .i64 kz).wf = true) (a : Option Addr) (cp : Nat) (l : List KW) (hm : l.length ≤ maxLen) (hP : InRow w a 2 KW.cells l) (hok : ∀ q ∈ l, q.ok) (hl : lightB l = true) :
    Calls Try.prog 6 #[.int .i64 nz, .int .i64 kz, .slice a l.length cp] w (TopRight w) := by
  obtain ⟨n0, hn0, hn15⟩ : ∃ n0 : Nat, bits .and .i64 nz 15 = (n0 : Int) ∧ n0 ≤ 15 := ⟨(nz % 16).toNat, by rw [show (15 : Int) = 2 ^ 4 - 1 from rfl, and_mask _ _ (by omega)]; omega, by omega⟩
  have hkw := wf_i64_of hkz
  have RW := Lib.hid (fun W : World => row_any 5 6 7 (by omega) (by omega) (by omega) W)
  have hr := rowOf_ok [5, 6, 7]
  unfold RowPost v3 at RW
  generalize rowOf [5, 6, 7] = r at *
  have NW := Lib.hid (fun W : World => new_any (n0 + 1) (by omega) (by omega) r hr W)
  rw [show ((n0 + 1 : Nat) : Int) = (n0 : Int) + 1 by omega] at NW
  have LG := Lib.hid (fun (W : World) (h : Mod [] w W) => light_any (w := W) (a := a) (l := l) (fun i q hq => by
    obtain ⟨b, off, h1, h2, h3⟩ := hP i q hq
    exact ⟨b, off, h1, h.lt h2, fun j u hu => (h.cell (a := ⟨b, off + i * 2 + j, none⟩) h2 (by simp)).trans (h3 j u hu)⟩) hm cp)
  rw [hl] at LG
  have hl150 : l.length ≤ 150 := by unfold lightB at hl; simp at hl; exact hl.1
  have HK : Hid (∀ q ∈ l, q.key.length ≤ 100) := Lib.hid (by unfold lightB at hl; simp at hl; exact hl.2)
  have HP := Lib.hid hP
  have HO := Lib.hid hok
  have HL := Lib.hid hl150
  have hmm := @run_makeMap Try.prog
  clear hr hP hok hl hm hl150 hkz
  go_enter Try.func6, Try.ntmps6
  go_wp2_with fail
  refine (fit_any _).mono ?_
  rintro e1 w1 ⟨rfl, hM1⟩
  have M1 := Lib.hid hM1
  clear hM1
  go_wp2_with fail
  refine (LG.out _ M1.out).mono ?_
  rintro e2 w2 ⟨rfl, hM2⟩
  have M2 := Lib.hid (M1.out.trans hM2)
  clear hM2
  go_wp2_with fail
  refine (RW.out _).mono ?_
  rintro e3 w3 ⟨rfl, hM3⟩
  have M3 := Lib.hid (M2.out.trans hM3)
  clear hM3
  go_wp2_with fail
  refine (NW.out _).mono ?_
  rintro e4 w4 ⟨Ba, rfl, hA, hB, hM4⟩
  have M4 := Lib.hid (M3.out.trans hM4)
  obtain ⟨n, hn⟩ : ∃ n, n0 + 1 = n := ⟨_, rfl⟩
  have hnn : (n0 : Int) + 1 = (n : Int) := by omega
  have hn1 : 1 ≤ n ∧ n ≤ 16 := by omega
  rw [hn] at hA
  have A4 := Lib.hid hA
  have BL : Hid (∀ b, b ∈ Ba.all → w.heap.size ≤ b) := Lib.hid fun b hb => by have := hB b hb; have := M3.out.size; omega
  have MP : Hid (MS (w4.alloc (.map #[] 0)) w4.heap.size 0 (fun _ => none) 0) := Lib.hid (MapW.made w4)
  have A5 := Lib.hid (A4.out.mod ((Mod.refl [] w4).alloc (.map #[] 0)) (by simp))
  have M5 := Lib.hid (M4.out.alloc (.map #[] 0))
  have NM : Hid (w4.heap.size ∉ Ba.all) := Lib.hid fun h => by have := A4.out.lt _ h; omega
  have hmb : w.heap.size ≤ w4.heap.size := M4.out.size
  clear hA hB hM4 M1 M2 M3 RW NW LG hn hn0 hn15
  go_wp2_with fail
  obtain ⟨mb, hmbe⟩ : ∃ mb, w4.heap.size = mb := ⟨_, rfl⟩
  rw [hmbe] at NM hmb MP ⊢
  clear hmbe
  go_loopw [34, 9] (fun i tv wr => ∃ (j : Nat) (f : List UInt8 → Option Int) (E : List Ent) (t : Int) (nm c : Nat), j ≤ l.length ∧ i = .int .i64 (j : Int) ∧ tv = .int .i64 t ∧ nm ≤ j ∧ SumAt wr Ba n E t ∧ OkE n E t ∧ BndI n f E t ∧ t ≤ 256 * j ∧ MS wr mb nm f c ∧ Mod [] w wr) (fun i _ _ => l.length - (intOf i).toNat)
  case atStart => exact ⟨0, fun _ => none, [], 0, 0, 0, Nat.zero_le _, rfl, rfl, Nat.le_refl _, A5.out, ok_nil n, bnd_nil n hn1.1, by omega, MP.out, M5.out⟩
  case round =>
    clear A5 MP M5 A4 M4
    obtain ⟨j, f, E, t, nm, c, hj, rfl, rfl, hnm, hA, hO, hF, ht, hMP, hM⟩ := hrel
    have AR := Lib.hid hA
    have OR := Lib.hid hO
    have FR := Lib.hid hF
    have TR := Lib.hid ht
    have PR := Lib.hid hMP
    have MR := Lib.hid hM
    have hl150 := HL.out
    have ht0 := hO.lt
    by_cases hlt : j < l.length
    · obtain ⟨q, hq⟩ : ∃ q, l[j]? = some q := ⟨_, List.getElem?_eq_getElem hlt⟩
      obtain ⟨b, off, rfl, hb, hcell⟩ := HP.out j q hq
      have hk100 := HK.out q (List.mem_of_getElem? hq)
      have hzw := wf_i64_of (HO.out q (List.mem_of_getElem? hq))
      obtain ⟨key, z⟩ := q
      simp only at hk100 hzw
      have c0 := (hM.cell (a := ⟨b, off + j * 2, none⟩) hb (by simp)).trans (hcell 0 _ rfl)
      have c1 := (hM.cell (a := ⟨b, off + j * 2 + 1, none⟩) hb (by simp)).trans (hcell 1 _ rfl)
      simp only at c0 c1
      have hsz : (ByteArray.mk key.toArray).size = key.length := by simp [ByteArray.size]
      have NB := Lib.hid (Blk.new wr [.string ⟨key.toArray⟩, .int .i64 z] 34)
      have A1 := Lib.hid ((Mod.refl [] wr).alloc (.cells #[.string ⟨key.toArray⟩, .int .i64 z] 34))
      have PA := Lib.hid (PR.out.mod A1.out (by simp))
      have AA := Lib.hid (AR.out.mod A1.out (by simp))
      have MA := Lib.hid (MR.out.trans A1.out)
      have HN : Hid (wr.heap.size ∉ Ba.all) := Lib.hid fun h => by have := hA.lt _ h; omega
      obtain ⟨v, hv, hv1⟩ : ∃ v, bits .and .i64 z 255 = v ∧ 0 ≤ v ∧ v ≤ 255 := ⟨_, rfl, by rw [show (255 : Int) = 2 ^ 8 - 1 from rfl, and_mask _ _ (by omega)]; omega⟩
      by_cases h64 : key.length ≤ 64
      · have d1 : decide ((64 : Int) < key.length) = false := by simp; omega
        have hkm : key.length ≤ maxLen := by unfold maxLen; omega
        have hmz : nm < maxLen := by unfold maxLen; omega
        have hKM := Lib.hid hkm
        have hMZ := Lib.hid hmz
        have OF := offer_plain (n := n) (s := (E, t)) (key := key) (z := v + 1) (by omega) (by omega) (by simp only; omega) ht0.1
        have F1 := Lib.hid (offer_ok (s := (E, t)) AA.out OR.out hn1.1 key (by omega) (v + 1) (by omega))
        rw [OF] at F1
        have T2 : Hid (t + (v + 1) ≤ 256 * ((j + 1 : Nat) : Int)) := Lib.hid (by omega)
        have hp := FR.out.pos key
        have hple : (f key).getD 0 ≤ t := by
          cases hf : f key with
          | none => simp; omega
          | some x => have := (FR.out.le OR.out hn1.1 hf).2; simpa using this
        clear hA hO hF ht hMP hM hcell hq hb hkm hmz OF
        go_wp2_with fail
        refine F1.out.mono ?_
        rintro e1 w1 ⟨⟨v1, rfl⟩, hA1, hO1, hM1⟩
        have A2 := Lib.hid hA1
        have O2 := Lib.hid hO1
        have F2 := Lib.hid (FR.out.step OR.out hn1.1 (key := key) (z := v + 1) (by omega) hO1)
        have P1 := Lib.hid (PA.out.mod hM1 NM.out)
        have M1 := Lib.hid (MA.out.trans' hM1 (fun b hb => .inr (BL.out b hb)))
        have k0 := (hM1.blk NB.out HN.out).cell (i := 0) rfl
        have gt := map_get P1.out hKM.out
        obtain ⟨x, hx⟩ : ∃ x, (f key).getD 0 = x := ⟨_, rfl⟩
        rw [hx] at gt hp hple F2
        obtain ⟨w2, pt, P2, N2⟩ := P1.out.put (mt := 32) Try.underlying32 Try.underlying9 Try.underlying2 hMZ.out hKM.out (z := x + (v + 1)) (WalkArith.wf_i64 (by omega))
        have P3 := Lib.hid P2
        have A3 := Lib.hid (A2.out.mod N2 (by simp; exact fun b hb hm => NM.out (hm ▸ hb)))
        have M3 := Lib.hid (M1.out.trans' N2 (by simp; omega))
        clear hA1 hO1 hM1 P2 N2 c0 c1 hx
        go_wp2_with fail
        go_roundw
        case rel => exact ⟨j + 1, _, _, _, nm + 1, _, by omega, by go_num, rfl, by omega, A3.out, O2.out, F2.out, T2.out, P3.out, M3.out⟩
        case measure => simp [intOf]; omega
      · have d1 : decide ((64 : Int) < key.length) = true := by simp; omega
        have d2 : decide (64 < key.length) = true := by simp; omega
        clear hA hO hF ht hMP hM hcell hq hb
        go_wp2_with fail
        go_roundw
        case rel => exact ⟨j + 1, f, E, t, nm, c, by omega, by go_num, rfl, by omega, AA.out, OR.out, FR.out, by have := TR.out; omega, PA.out, MA.out⟩
        case measure => simp [intOf]; omega
    · obtain rfl : j = l.length := by omega
      clear hA hO hF hMP hM
      have hel := OR.out.len
      have T5 := Lib.hid (top_any AR.out hn1.1 OR.out.len kz hkw)
      obtain ⟨k, hk⟩ : ∃ k, topN n kz = k := ⟨_, rfl⟩
      have hk1 : 1 ≤ k ∧ k ≤ n := by rw [← hk]; unfold topN; omega
      have hkk : (k : Int) = min (max kz 1) n := by rw [← hk]; unfold topN; omega
      rw [hk] at T5
      clear hk
      obtain ⟨T, hT⟩ : ∃ T, E.take k = T := ⟨_, rfl⟩
      rw [hT] at T5
      have hTl : T.length = min k E.length := by rw [← hT, List.length_take]
      have HT := Lib.hid hT
      have HTL := Lib.hid hTl
      obtain ⟨m1, hm1⟩ : ∃ m1, m1 = max kz 1 := ⟨_, rfl⟩
      have hmx : ∀ w : World, (Builtin.max_ #[3, 3] 3 #[.int .i64 kz, .int .i64 1]).run Try.prog w = .ok (.int .i64 m1) w := fun w => by
        show Result.ok (Value.int .i64 (if 1 > kz then 1 else kz)) w = _
        congr 2; omega
      have hmn : ∀ w : World, (Builtin.min_ #[3, 3] 3 #[.int .i64 m1, .int .i64 (n : Int)]).run Try.prog w = .ok (.int .i64 (k : Int)) w := fun w => by
        show Result.ok (Value.int .i64 (if (n : Int) < m1 then (n : Int) else m1)) w = _
        congr 2; omega
      have hmt : ∀ w : World, (Builtin.min_ #[3, 3] 3 #[.int .i64 (k : Int), .int .i64 (E.length : Int)]).run Try.prog w = .ok (.int .i64 (T.length : Int)) w := fun w => by
        show Result.ok (Value.int .i64 (if (E.length : Int) < (k : Int) then (E.length : Int) else (k : Int))) w = _
        congr 2; omega
      clear hT hTl hkk hm1
      go_wp2_with fail
      refine T5.out.mono ?_
      rintro e5 w5 ⟨va, rfl, hown5, hM5⟩
      obtain ⟨xa, xc, hxa⟩ := own_slice hown5
      subst hxa
      have OW := Lib.hid hown5
      have A6 := Lib.hid (AR.out.mod hM5 (by simp))
      have M6 := Lib.hid (MR.out.trans hM5)
      have P6 := Lib.hid (PR.out.mod hM5 (by simp))
      have LN := Lib.hid (len_any A6.out)
      clear hown5 hM5
      go_wp2_with fail
      refine LN.out.mono ?_
      rintro e6 w6 ⟨rfl, rfl⟩
      have TM : Hid (MT (w5.alloc (.map #[] 0)) w5.heap.size 0 (fun _ => none) 0) := Lib.hid (MapG.made w5)
      have OW7 := Lib.hid (World.ownsRow.alloc OW.out (.map #[] 0))
      have M7 := Lib.hid (M6.out.alloc (.map #[] 0))
      have P7 := Lib.hid (P6.out.mod ((Mod.refl [] w5).alloc (.map #[] 0)) (by simp))
      have hw5 := M6.out.size
      have hmt5 : mb ≠ w5.heap.size := by have := P6.out.lt; omega
      have hgo : Hid (∀ g, (Value.slice xa T.length xc).ownBlock = some g → g < w5.heap.size ∧ w.heap.size ≤ g) := Lib.hid fun g hg => by
        have := OW.out.lt g hg
        have h2 := MR.out.size
        exact ⟨this.2, by omega⟩
      go_wp2_with fail
      obtain ⟨tb, htb⟩ : ∃ tb, w5.heap.size = tb := ⟨_, rfl⟩
      obtain ⟨w7, hw7⟩ : ∃ w7, w5.alloc (.map #[] 0) = w7 := ⟨_, rfl⟩
      rw [hw7] at TM OW7 M7 P7
      rw [htb] at TM hgo hw5 hmt5
      rw [hw7, htb]
      clear hw7 htb A6 P6 M6 OW T5 LN
      go_loopw [78] (fun i wr => ∃ (i' tn c2 : Nat), i' ≤ T.length ∧ i = .int .i64 (i' : Int) ∧ tn ≤ i' ∧ MT wr tb tn (thereOf (T.take i')) c2 ∧ Mod [tb] w7 wr) (fun i _ => T.length - (intOf i).toNat)
      case atStart => exact ⟨0, 0, 0, Nat.zero_le _, rfl, Nat.le_refl _, TM.out.congr (fun k => (there_nil k).symm), Mod.refl _ _⟩
      case round =>
        clear TM
        obtain ⟨i, tn, c2, hi, rfl, htn, hT, hM⟩ := hrel
        have TR2 := Lib.hid hT
        have MI := Lib.hid hM
        have hTL : T.length ≤ 16 := by have := HTL.out; omega
        have hwr := hM.size
        by_cases hlt2 : i < T.length
        · obtain ⟨g, cap, hva, _, hg, hcl⟩ := own_ents OW7.out (by omega)
          obtain ⟨e, he⟩ : ∃ e, T[i]? = some e := ⟨_, List.getElem?_eq_getElem hlt2⟩
          obtain ⟨p0, p1, p2⟩ := hcl i e he
          simp only [Value.slice.injEq, true_and] at hva
          obtain ⟨rfl, rfl⟩ := hva
          have hgb := hgo.out g rfl
          have q0 := (hM.cell (a := ⟨g, i * 3, none⟩) hg (by simp; omega)).trans p0
          have q1 := (hM.cell (a := ⟨g, i * 3 + 1, none⟩) hg (by simp; omega)).trans p1
          have q2 := (hM.cell (a := ⟨g, i * 3 + 2, none⟩) hg (by simp; omega)).trans p2
          have heE : e ∈ E := by
            have := List.mem_of_getElem? he
            rw [← HT.out] at this
            exact List.mem_of_mem_take this
          have h64 := OR.out.k64 e heE
          have hkm : e.key.length ≤ maxLen := by unfold maxLen; omega
          have hnom : ∀ x ∈ T.take i, x.key ≠ e.key := fun x hx hxk => by
            have hndT : (T.map (·.key)).Nodup := by rw [← HT.out, List.map_take]; exact OR.out.nd.take
            obtain ⟨j, hj⟩ := List.getElem?_of_mem hx
            have hjl := (List.getElem?_eq_some_iff.1 hj).1
            rw [List.length_take] at hjl
            rw [List.getElem?_take_of_lt (by omega)] at hj
            have e1 : (T.map (·.key))[j]? = some x.key := by rw [List.getElem?_map, hj]; rfl
            have e2 : (T.map (·.key))[i]? = some e.key := by rw [List.getElem?_map, he]; rfl
            have : j = i := (List.getElem?_inj (List.getElem?_eq_some_iff.1 e1).1 hndT).1 (by rw [e1, e2, hxk])
            omega
          have hstep := there_step he
          have NB := Lib.hid (Blk.new wr e.cells 46)
          have A1 := Lib.hid ((Mod.refl [] wr).alloc (.cells e.cells.toArray 46))
          have hlk := (TR2.out.mod (A1.out.drew) (by simp)).get (mt := 51) SK Try.underlying51 (zero_bool _) (text_key e.key hkm)
          rw [there_no hnom] at hlk
          obtain ⟨w2, pt, P2, N2⟩ := (TR2.out.mod (A1.out.drew) (by simp)).put (mt := 51) SK Try.underlying51 (by unfold maxLen; omega) (text_key e.key hkm) (.bool true)
          have P3 := Lib.hid (P2.congr hstep)
          have M3 := Lib.hid ((MI.out.trans (A1.out.drew.mono (by simp))).trans N2)
          have HC := Lib.hid hcl
          have HE := Lib.hid he
          have hfall : ∀ j, j + 1 = i → ∀ x, T[j]? = some x → e.n ≤ x.n := fun j hj x hx => by
            have e1 : E[i]? = some e := by
              have h := he
              rw [← HT.out] at h
              have hl := (List.getElem?_eq_some_iff.1 h).1
              rw [List.length_take] at hl
              rwa [List.getElem?_take_of_lt (by omega)] at h
            have e2 : E[j]? = some x := by
              have h := hx
              rw [← HT.out] at h
              have hl := (List.getElem?_eq_some_iff.1 h).1
              rw [List.length_take] at hl
              rwa [List.getElem?_take_of_lt (by omega)] at h
            have := OR.out.fall j i (by omega) (List.getElem?_eq_some_iff.1 e1).1
            have q1 : nAt E i = e.n := by show (E.getD i default).n = _; rw [getD_some e1]
            have q2 : nAt E j = x.n := by show (E.getD j default).n = _; rw [getD_some e2]
            omega
          have HF := Lib.hid hfall
          obtain ⟨key, en, ee⟩ := e
          simp only [Ent.cells] at *
          clear hT hM hcl p0 p1 p2 he hfall heE h64 hkm hnom hstep P2 N2
          cases i with
          | zero =>
            clear HF
            go_wp2_with fail
            refine wp_region_lex (by kernel_rfl) (by kernel_rfl) ?_
            go_wp2_with fail
            refine ⟨by kernel_rfl, ?_⟩
            go_wp2_with fail
            go_roundw
            case rel => exact ⟨1, tn + 1, _, by omega, rfl, by omega, P3.out, M3.out⟩
            case measure => simp [intOf]; omega
          | succ i =>
            obtain ⟨x, hx⟩ : ∃ x, T[i]? = some x := ⟨_, List.getElem?_eq_getElem (by omega)⟩
            have hxn := HF.out i rfl x hx
            obtain ⟨_, r1, _⟩ := HC.out i x hx
            have r1' := (A1.out.drew.cell (a := ⟨g, i * 3 + 1, none⟩) (by show g < wr.heap.size; omega) (by simp)).trans ((MI.out.cell (a := ⟨g, i * 3 + 1, none⟩) hg (by simp; omega)).trans r1)
            have dd : decide (x.n < en) = false := by simp; omega
            obtain ⟨xk, xn, xe⟩ := x
            simp only at r1' dd hxn
            clear HF HC hx r1
            go_wp2_with fail
            refine wp_region_lex (by kernel_rfl) (by kernel_rfl) ?_
            go_wp2_with fail
            refine ⟨by kernel_rfl, ?_⟩
            go_wp2_with fail
            go_roundw
            case rel => exact ⟨i + 2, tn + 1, _, by omega, by go_num, by omega, P3.out, M3.out⟩
            case measure => simp [intOf]; omega
        · obtain rfl : i = T.length := by omega
          have M8 := Lib.hid (M7.out.trans' hM (by simp; omega))
          have P8 := Lib.hid (P7.out.mod hM (by simp; omega))
          have TT := Lib.hid (show MT wr tb tn (thereOf T) c2 by have := hT; rwa [List.take_length] at this)
          clear hT hM
          obtain ⟨w9, rg, P9, M9r, hsz9⟩ := P8.out.range (mt := 32) Try.underlying32 Try.underlying9
          have T9 := Lib.hid (TT.out.mod M9r (by simp))
          have M9 := Lib.hid (M8.out.trans M9r)
          have RG := Lib.hid P9
          have hrr1 : Hid (tb < wr.heap.size ∧ w.heap.size ≤ wr.heap.size) := Lib.hid ⟨TT.out.lt, M8.out.size⟩
          clear hsz9 M9r P9
          go_wp2_with fail
          obtain ⟨rr, hrr⟩ : ∃ rr, wr.heap.size = rr := ⟨_, rfl⟩
          rw [hrr] at RG hrr1 ⊢
          clear rg hrr
          go_loopw [17, 18] (fun _ _ wr => RS wr mb rr nm f c ∧ MT wr tb tn (thereOf T) c2 ∧ Mod [] w wr) (fun _ _ wr => wr.rangeLeft mb rr)
          case atStart => exact ⟨RG.out, T9.out, M9.out⟩
          case round =>
            obtain ⟨hR, hT, hM⟩ := hrel
            have RR := Lib.hid hR
            have T10 := Lib.hid hT
            have M10 := Lib.hid hM
            clear hR hT hM
            rcases RR.out.next Try.underlying9 Try.underlying2 0 with nx | ⟨k9, zk, w11, hkl9, hfk, nx, R11, hlt11, M11r, hsz11, en⟩
            · go_wp2_with fail
              go_ret
              exact ⟨rfl, M10.out⟩
            · have hne : tb ≠ rr := by have := hrr1.out; omega
              have T11 := Lib.hid (T10.out.mod M11r (by simp; omega))
              have M11 := Lib.hid (M10.out.trans' M11r (fun b hb => .inr (by simp at hb; have := hrr1.out; omega)))
              have R11' := Lib.hid R11
              have H11 := Lib.hid hlt11
              have hzk := FR.out.le OR.out hn1.1 hfk
              have hlk := T11.out.get (mt := 51) SK Try.underlying51 (zero_bool _) (text_key k9 hkl9)
              have htr := TR.out
              have hmul : 0 ≤ zk * (k : Int) ∧ zk * (k : Int) ≤ 38400 * 16 := ⟨Int.mul_nonneg hzk.1 (by omega), Int.mul_le_mul (by omega) (by omega) (by omega) (by omega)⟩
              obtain ⟨b1, hb1⟩ : ∃ b1, decide (t / (k : Int) < zk) = b1 := ⟨_, rfl⟩
              have hTop : decide (t < zk * (k : Int)) = true → ∃ e ∈ T, e.key = k9 := fun h => by
                have := FR.out.top OR.out hn1.1 hk1.1 hk1.2 hfk (by simpa using h)
                rwa [HT.out] at this
              cases hb2 : decide (t < zk * (k : Int)) with
              | true =>
                obtain ⟨e, he, hek⟩ := hTop hb2
                have := there_mem he
                rw [hek] at this
                rw [this] at hlk
                clear this hek he hTop R11 hlt11 M11r hsz11 hfk htr hkl9
                cases b1 with
                | true =>
                  go_wp2_with fail
                  go_roundw
                  case rel => exact ⟨R11'.out, T11.out, M11.out⟩
                  case measure => exact H11.out
                | false =>
                  go_wp2_with fail
                  go_roundw
                  case rel => exact ⟨R11'.out, T11.out, M11.out⟩
                  case measure => exact H11.out
              | false =>
                clear hTop R11 hlt11 M11r hsz11 hfk htr hkl9
                cases b1 with
                | true =>
                  go_wp2_with fail
                  go_roundw
                  case rel => exact ⟨R11'.out, T11.out, M11.out⟩
                  case measure => exact H11.out
                | false =>
                  go_wp2_with fail
                  go_roundw
                  case rel => exact ⟨R11'.out, T11.out, M11.out⟩
                  case measure => exact H11.out
set_option maxRecDepth 8000 in
theorem top_walk (w : World) (nz : Int) (hw1 : (Lit.int .i64 nz).wf = true) (kz : Int) (hw2 : (Lit.int .i64 kz).wf = true) (a : Option Addr) (cp : Nat) (l : List KW) (hm : l.length ≤ maxLen) (hP : InRow w a 2 KW.cells l) (hok : ∀ q ∈ l, q.ok) :
    Calls Try.prog 6 #[.int .i64 nz, .int .i64 kz, .slice a l.length cp] w fun e w' => e = .returned (.bool true) ∧ Mod [] w w' := by
  cases hl : lightB l with
  | true => exact top_main w nz kz hw2 a cp l hm hP hok hl
  | false =>
    obtain ⟨n0, hn0, hn15⟩ : ∃ n0 : Nat, bits .and .i64 nz 15 = (n0 : Int) ∧ n0 ≤ 15 := ⟨(nz % 16).toNat, by rw [show (15 : Int) = 2 ^ 4 - 1 from rfl, and_mask _ _ (by omega)]; omega, by omega⟩
    have LG := Lib.hid (fun (W : World) (h : Mod [] w W) => light_any (w := W) (a := a) (l := l) (fun i q hq => by
      obtain ⟨b, off, h1, h2, h3⟩ := hP i q hq
      exact ⟨b, off, h1, h.lt h2, fun j u hu => (h.cell (a := ⟨b, off + i * 2 + j, none⟩) h2 (by simp)).trans (h3 j u hu)⟩) hm cp)
    rw [hl] at LG
    clear hP hl hw1 hw2 hok
    go_enter Try.func6, Try.ntmps6
    go_wp2_with fail
    refine (fit_any _).mono ?_
    rintro e1 w1 ⟨rfl, hM1⟩
    have M1 := Lib.hid hM1
    clear hM1
    go_wp2_with fail
    refine (LG.out _ M1.out).mono ?_
    rintro e2 w2 ⟨rfl, hM2⟩
    have M2 := Lib.hid (M1.out.trans hM2)
    clear hM2
    go_wp2_with fail
    go_ret
    exact ⟨rfl, M2.out⟩
end Go.Proofs.Ytpobjhmfidebbaa.Sum
