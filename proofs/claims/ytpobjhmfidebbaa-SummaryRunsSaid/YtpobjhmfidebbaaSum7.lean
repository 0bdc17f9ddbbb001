/- summary.Summary: All, an iterator. -/
import Derived.Test.YtpobjhmfidebbaaSum6
import Derived.Test.YtpobjhmfidebbaaTail
namespace Go.Proofs.Ytpobjhmfidebbaa.Sum
open Go Go.RowKit Go.YtpobjhmfidebbaaMem Go.YtpobjhmfidebbaaLex Go.YtpobjhmfidebbaaRange Go.Proofs.Ytpobjhmfidebbaa.Hash Go.Proofs.Ytpobjhmfidebbaa.Keys Go.Proofs.Ytpobjhmfidebbaa.Index
set_option linter.unusedVariables false
set_option linter.unusedSimpArgs false
attribute [local go_sem] Oper.semAt_some

theorem blk_same {w w' : World} {b : Nat} {T : TypeId} {cs : List Value} (h : Blk w b T cs) (e : w'.heap[b]? = w.heap[b]?) : Blk w' b T cs := e.trans h
theorem idx_same {w w' : World} {x g : Nat} {L : List Nat} {r : Row} {S : List (Option (List UInt8))} {fl : List Nat} (h : IdxAt w x g L r S fl) (e : ∀ b, b ∈ L → w'.heap[b]? = w.heap[b]?) : IdxAt w' x g L r S fl := by
  obtain ⟨b1, b2, b3, t, bs, nx, T, rfl, h⟩ := h
  have s := h.sto
  exact ⟨b1, b2, b3, t, bs, nx, T, rfl, ⟨⟨blk_same s.blk (e _ (by simp)), blk_same s.bytes (e _ (by simp)), blk_same s.sizes (e _ (by simp)), blk_same s.nexts (e _ (by simp)), s.len, s.nlen, s.few, s.key, s.free, s.nodup, s.all, s.ne⟩, blk_same h.blk (e _ (by simp)), blk_same h.tab (e _ (by simp)), h.ok, h.ix, h.ne⟩⟩
theorem SumAt.same {w w' : World} {B : SB} {n : Nat} {E : List Ent} {total : Int} (h : SumAt w B n E total) (e : ∀ b, b ∈ B.all → w'.heap[b]? = w.heap[b]?) : SumAt w' B n E total := by
  obtain ⟨S, fl, N, Er, O, W, ps, h1, h2, h3⟩ := h
  exact ⟨S, fl, N, Er, O, W, ps, h1, ⟨blk_same h2.blk (e _ (by simp [SB.all])), idx_same h2.idx (fun b hb => e b (by simp [SB.all, hb])), blk_same h2.cn (e _ (by simp [SB.all])), blk_same h2.ce (e _ (by simp [SB.all])), blk_same h2.co (e _ (by simp [SB.all])), blk_same h2.cw (e _ (by simp [SB.all])), h2.ln, h2.le, h2.lo, h2.lw, h2.whole, h2.nd, h2.ni⟩, h3⟩
abbrev encS (x : Ent) : Array Value := #[x.val]
theorem take_snoc {E : List Ent} {k : Nat} {e : Ent} (he : E[k]? = some e) : E.take (k + 1) = E.take k ++ [e] := by rw [List.take_add_one, he]; rfl
theorem take_post {E : List Ent} {k : Nat} {e : Ent} (he : E[k]? = some e) : ∃ post, E = E.take k ++ e :: post := by
  refine ⟨E.drop (k + 1), ?_⟩
  have hk : k < E.length := (List.getElem?_eq_some_iff.1 he).1
  have hg : E[k] = e := (List.getElem?_eq_some_iff.1 he).2
  conv => lhs; rw [← List.take_append_drop k E, List.drop_eq_getElem_cons hk, hg]

set_option maxRecDepth 8000 in
set_option maxHeartbeats 6400000 in
theorem all_iter {w : World} {B : SB} {n : Nat} {E : List Ent} {total : Int} (h : SumAt w B n E total) {Kp : World → World → Prop} (hK : ∀ A A', SumAt A B n E total → Kp A A' → ∀ b, b ∈ B.all → A'.heap[b]? = A.heap[b]?) :
    Iter Try.prog 19 #[.pointer (some ⟨B.p, 0, none⟩)] #[] encS E Kp w := by
  intro l J Jx W hKW hJ hJx hY h0
  have hW : SumAt W B n E total := h.same (hK _ _ h hKW)
  clear hKW h
  have LW := Lib.hid (len_any hW)
  have HW := Lib.hid hW
  have hfew : E.length ≤ 2000 := by
    obtain ⟨S, fl, N, Er, O, W, ps, h1, h2, h3⟩ := hW
    have := h2.whole.2
    rw [h3.used] at this
    have := h2.few
    omega
  refine callsIn_of_wp Try.func19 rfl trivial ?_ rfl
  simp only [Try.ntmps19, List.size_toArray, List.length_cons, List.length_nil, Nat.reduceAdd, Nat.reduceSub, Array.replicate_succ, Array.replicate_zero, List.push_toArray, List.append_toArray, List.nil_append, List.cons_append]
  obtain ⟨u, hu⟩ : ∃ u, E.length = u := ⟨_, rfl⟩
  rw [hu] at LW hfew
  have HU := Lib.hid hu
  have HY := Lib.hid hY
  have H0 := Lib.hid h0
  have HJ := Lib.hid hJ
  clear hu hY h0 hJ hJx hW
  gi_wp2
  refine ⟨trivial, (callsIn_wide.2 LW.out).mono ?_⟩
  rintro e1 w1 ⟨rfl, rfl⟩
  gi_wp2
  gi_loopw [10] (fun i wr => ∃ k : Nat, k ≤ u ∧ i = .int .i64 (k : Int) ∧ SumAt wr B n E total ∧ J (E.take k) wr) (fun i _ => u - (intOf i).toNat)
  case atStart => exact ⟨0, Nat.zero_le _, rfl, HW.out, by simpa using H0.out⟩
  case round =>
    clear HW H0 LW
    obtain ⟨k, hk, rfl, hR, hJr⟩ := hrel
    have RR := Lib.hid hR
    have JR := Lib.hid hJr
    by_cases hlt : k < u
    · obtain ⟨S, fl, N, Er, O, W, ps, h1, h2, h3⟩ := hR
      obtain ⟨p, e, hp, he, hS, hN, hE, hO, _⟩ := h3.get (k := k) (by rw [HU.out]; exact hlt)
      have hpS : p < S.length := (List.getElem?_eq_some_iff.1 hS).1
      have hkS : k < S.length := by have := (List.getElem?_eq_some_iff.1 hO).1; rw [h2.lo] at this; exact this
      have hfewS := h2.few
      have c0 := h2.blk.cell (i := 0) rfl
      have c4 := h2.blk.cell (i := 4) rfl
      have cO := h2.co.cell (i32s_get hO)
      have KY := Lib.hid (key_at h2.idx (p : Int))
      rw [keyOf_some hS] at KY
      have CF := Lib.hid (show ∀ W', Mod [] wr W' → W'.cell? ⟨B.p, 2, none⟩ = some (.slice (some ⟨B.nb, 0, none⟩) S.length S.length) ∧ W'.cell? ⟨B.p, 3, none⟩ = some (.slice (some ⟨B.eb, 0, none⟩) S.length S.length) ∧ W'.cell? ⟨B.nb, p, none⟩ = some (.int .i64 e.n) ∧ W'.cell? ⟨B.eb, p, none⟩ = some (.int .i64 e.err) from fun W' hM =>
        ⟨(hM.blk h2.blk (by simp)).cell (i := 2) rfl, (hM.blk h2.blk (by simp)).cell (i := 3) rfl, (hM.blk h2.cn (by simp)).cell (i64s_get hN), (hM.blk h2.ce (by simp)).cell (i64s_get hE)⟩)
      have HX := Lib.hid (take_snoc he)
      have HQ := Lib.hid (take_post he)
      obtain ⟨key, en, ee⟩ := e
      simp only at *
      clear h1 h2 h3 hp he hS hN hE hO hJr
      generalize S.length = m at *
      gi_wp2
      refine ⟨trivial, (callsIn_wide.2 KY.out).mono ?_⟩
      rintro e1 w1 ⟨rfl, hM1⟩
      have M1 := Lib.hid hM1
      obtain ⟨q0, q1, q2, q3⟩ := CF.out w1 hM1
      clear hM1 c0 c4 cO
      gi_wp2
      refine wpIn_region_lexTail 17 50 (by kernel_rfl) (by kernel_rfl) (by kernel_rfl) ?_
      simp only [List.take_succ_cons, List.take_zero]
      go_wp2_with fail
      refine ⟨by kernel_rfl, ?_⟩
      show wpListIn _ _ _ _ _ (List.drop 17 _) _ _
      simp only [List.drop_succ_cons, List.drop_zero]
      obtain ⟨fn, tmps, assign, body, hy, hRR⟩ := HY.out _ ⟨key, en, ee⟩ w1.drew (HJ.out _ _ _ JR.out M1.out.drew) HQ.out
      have HRR := Lib.hid hRR
      simp only [encS, Ent.val] at hy
      clear hRR
      gi_wp2
      refine HRR.out.mono ?_
      rintro e2 w2 (⟨rfl, hJ2, hK2⟩ | ⟨rfl, hJx2⟩)
      · have J2 := Lib.hid hJ2
        have R2 := Lib.hid ((RR.out.mod M1.out.drew (by simp)).same (hK _ _ (RR.out.mod M1.out.drew (by simp)) hK2))
        clear hJ2 hK2
        gi_wp2
        go_roundw
        case rel => exact ⟨k + 1, by omega, by go_num, R2.out, by rw [HX.out]; exact J2.out⟩
        case measure => simp [intOf]; omega
      · have J2 := Lib.hid hJx2
        clear hJx2
        gi_wp2
        refine bodyPost_ret (results_none rfl _ _ _) rfl ?_
        obtain ⟨post, hp⟩ := HQ.out
        exact ⟨⟨_, rfl⟩, .inr ⟨_, _, post, hp, J2.out⟩⟩
    · obtain rfl : k = u := by omega
      clear hR hJr
      gi_wp2
      go_end0
      exact ⟨⟨_, rfl⟩, .inl (by have := JR.out; rwa [List.take_of_length_le (by rw [HU.out]; exact Nat.le_refl _)] at this)⟩
end Go.Proofs.Ytpobjhmfidebbaa.Sum
