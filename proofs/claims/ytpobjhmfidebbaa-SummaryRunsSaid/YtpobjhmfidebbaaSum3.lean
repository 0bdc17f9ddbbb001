/- summary.Summary: drop, Clear. -/
import Derived.Test.YtpobjhmfidebbaaSum2
namespace Go.Proofs.Ytpobjhmfidebbaa.Sum
open Go Go.RowKit Go.YtpobjhmfidebbaaMem Go.YtpobjhmfidebbaaLex Go.Proofs.Ytpobjhmfidebbaa.Hash Go.Proofs.Ytpobjhmfidebbaa.Keys Go.Proofs.Ytpobjhmfidebbaa.Index
set_option linter.unusedVariables false
set_option linter.unusedSimpArgs false

theorem key_at {w : World} {x g : Nat} {L : List Nat} {r : Row} {S : List (Option (List UInt8))} {fl : List Nat} (h : IdxAt w x g L r S fl) (i : Int) : Calls Try.prog 35 #[.pointer (some ⟨g, 0, none⟩), .int .i64 i] w (KeyPost (Keys.keyOf S i) w) := by
  obtain ⟨b1, b2, b3, t, bs, nx, T, rfl, h⟩ := h
  exact key_any h.sto i
section
variable {w : World} {B : SB} {S : List (Option (List UInt8))} {fl : List Nat} {N Er O W : List Int} {total : Int} {ps : List Nat} {E : List Ent}
theorem Rep.dropped {p : Nat} {e : Ent} (h : Rep S N Er O W (ps ++ [p]) (E ++ [e])) : Rep (S.set p none) N Er O W ps E := by
  have hnd := h.nd
  rw [List.nodup_append] at hnd
  have hlen : ps.length = E.length := by have := h.len; simpa using this
  refine ⟨hlen, hnd.1, fun q key hq => ?_, fun k q e' hk he => ?_⟩
  · by_cases hqp : p = q
    · subst hqp
      rw [List.getElem?_set] at hq
      split at hq
      · split at hq <;> cases hq
      · exact absurd rfl ‹_›
    · rw [List.getElem?_set_ne hqp] at hq
      have := h.all q key hq
      rcases List.mem_append.1 this with h1 | h1
      · exact h1
      · simp at h1; exact absurd h1.symm hqp
  · have hkl : k < ps.length := (List.getElem?_eq_some_iff.1 hk).1
    have hqp : p ≠ q := fun hpq => hnd.2.2 q (List.mem_of_getElem? hk) p (by simp) hpq.symm
    rw [List.getElem?_set_ne hqp]
    exact h.at_ k q e' (by rw [List.getElem?_append_left hkl]; exact hk) (by rw [List.getElem?_append_left (by omega)]; exact he)
end
def DropPost (B : SB) (n : Nat) (E : List Ent) (total z : Int) (w : World) (e : Ending) (w' : World) : Prop := e = .returned (.int .i64 z) ∧ SumAt w' B n E total ∧ Mod B.all w w'
set_option maxRecDepth 4000 in
set_option maxHeartbeats 1600000 in
theorem drop_any {w : World} {B : SB} {n : Nat} {E : List Ent} {e : Ent} {total : Int} (h : SumAt w B n (E ++ [e]) total) :
    Calls Try.prog 29 #[.pointer (some ⟨B.p, 0, none⟩)] w (DropPost B n E total e.n w) := by
  obtain ⟨S, fl, N, Er, O, W, ps0, rfl, h2, h3⟩ := h
  have hpl := h3.len
  obtain ⟨ps, p, rfl⟩ : ∃ ps p, ps0 = ps ++ [p] := by
    rcases List.eq_nil_or_concat ps0 with rfl | ⟨ps, p, rfl⟩
    · simp at hpl
    · exact ⟨ps, p, by simp⟩
  have hl2 : ps.length = E.length := by simpa using hpl
  obtain ⟨hS, hN, hE, hO, hW⟩ := h3.at_ E.length p e (by rw [← hl2]; simp) (by simp)
  have hpl2 : placeOf S e.key = some p := placeOf_there h2.idx.uniq hS
  have L := Lib.hid (len_c (h2.mod ((Mod.refl [] w).drew) (by simp)))
  rw [h3.used, List.length_append, List.length_singleton] at L
  have hfew := h2.few
  have hpS : p < S.length := (List.getElem?_eq_some_iff.1 hS).1
  have hES : E.length < S.length := by have := (List.getElem?_eq_some_iff.1 hO).1; rw [h2.lo] at this; exact this
  have k64 := h2.idx.short hS
  have KY := Lib.hid (fun W' (hM : Mod [] w W') => key_at (h2.idx.mod hM (by simp)) (p : Int))
  rw [keyOf_some hS] at KY
  have RM := Lib.hid (fun W' (hM : Mod [] w W') => remove_any (h2.idx.mod hM (by simp)) e.key (by omega))
  have hr : remS S fl e.key = ((p : Int), S.set p none, p :: fl) := by unfold remS; rw [hpl2]
  rw [hr] at RM
  have c0 := h2.blk.cell (i := 0) rfl
  have c1 := h2.blk.cell (i := 1) rfl
  have c4 := h2.blk.cell (i := 4) rfl
  have cO := h2.co.cell (i32s_get hO)
  have isc : IsC w.drew B.p := isC_of_cell (w := w) c4
  have IS := Lib.hid isc
  have H2 := Lib.hid h2
  have H3 := Lib.hid h3
  have WD := Lib.hid (whole_del h2.whole hS)
  have CN := Lib.hid (i64s_get hN)
  clear h2 h3 isc hS hN hE hO hW hpl hl2 hpl2 hr
  obtain ⟨key, en, ee⟩ := e
  simp only at *
  go_enter Try.func29, Try.ntmps29
  go_wp2_with fail
  refine wp_region_held [6] [3] [] (by kernel_rfl) (by kernel_rfl) ?_
  simp only [wpCut, List.take_succ_cons, List.take_zero, List.drop_succ_cons, List.drop_zero, List.cons_append, List.nil_append]
  go_wp2_with fail
  refine L.out.mono ?_
  rintro e1 w1 ⟨rfl, rfl⟩
  have hs1 : (((E.length + 1 : Nat) : Int) - 1) = (E.length : Int) := by omega
  go_wp2_with fail
  refine ⟨Mod.refl _ _, ?_⟩
  go_wp2_with fail
  refine ⟨by kernel_rfl, ⟨⟨by simp, IS.out⟩, trivial⟩, ?_⟩
  clear c4 cO
  go_wp2_with fail
  refine (KY.out _ ((Mod.refl [] w).drew)).mono ?_
  rintro e2 w2 ⟨rfl, hM2⟩
  have M2 := Lib.hid ((Mod.refl [] w).drew.trans hM2)
  have c1 := (M2.out.blk H2.out.blk (by simp)).cell (i := 1) rfl
  clear hM2 c0
  go_wp2_with fail
  refine (RM.out _ M2.out).mono ?_
  rintro e3 w3 ⟨rfl, hI3, hM3⟩
  have M3 := Lib.hid ((M2.out.mono (S' := B.L) (by simp)).trans hM3)
  have I3 := Lib.hid hI3
  have NI := Lib.hid H2.out.ni
  have BP := Lib.hid (M3.out.blk H2.out.blk (NI.out _ (by simp [SB.own])))
  have BN := Lib.hid (M3.out.blk H2.out.cn (NI.out _ (by simp [SB.own])))
  have c2 := BP.out.cell (i := 2) rfl
  have cp := BN.out.cell CN.out
  clear hI3 hM3 c1
  go_wp2_with fail
  go_ret
  have h := H2.out
  have hl : (S.set p none).length = S.length := by rw [List.length_set]
  refine ⟨rfl, ⟨S.set p none, p :: fl, N, Er, O, W, ps, hl, ⟨by rw [hl]; exact BP.out, I3.out, BN.out, M3.out.blk h.ce (NI.out _ (by simp [SB.own])), M3.out.blk h.co (NI.out _ (by simp [SB.own])), M3.out.blk h.cw (NI.out _ (by simp [SB.own])), by rw [hl]; exact h.ln, by rw [hl]; exact h.le, by rw [hl]; exact h.lo, by rw [hl]; exact h.lw, by rw [hl]; exact WD.out.1, h.nd, h.ni⟩, H3.out.dropped⟩, M3.out.mono (fun b hb => .inl (own_all B b hb))⟩
/-- How many keys its store has, by the memory. -/
def usedAt (g : Nat) (w : World) : Nat := match w.cell? ⟨g, 4, none⟩ with | some (.int _ z) => z.toNat | _ => 0
theorem SumAt.usedAt {w : World} {B : SB} {n : Nat} {E : List Ent} {total : Int} (h : SumAt w B n E total) : Sum.usedAt B.g w = E.length := by
  obtain ⟨S, fl, N, Er, O, W, ps, h1, h2, h3⟩ := h
  have hi := h2.idx
  obtain ⟨b1, b2, b3, t, bs, nx, T, _, hx⟩ := hi
  unfold Sum.usedAt
  rw [hx.sto.blk.cell (i := 4) rfl, ← h3.used]
  simp
def ClearPost (B : SB) (n : Nat) (w : World) (e : Ending) (w' : World) : Prop := (∃ v, e = .returned v) ∧ SumAt w' B n [] 0 ∧ Mod B.all w w'
theorem SumAt.zero {w : World} {B : SB} {n : Nat} {E : List Ent} {total t : Int} (h : SumAt w B n E total) : SumAt (w.setCell ⟨B.p, 6, none⟩ (.int .i64 t)) B n E t := by
  obtain ⟨S, fl, N, Er, O, W, ps, h1, h2, h3⟩ := h
  have MS := (Mod.refl [B.p] w).setCell (p := ⟨B.p, 6, none⟩) (.inl (by simp)) (.int .i64 t)
  obtain ⟨⟨n1, n2, n3, n4⟩, _⟩ := h2.ne
  exact ⟨S, fl, N, Er, O, W, ps, h1, ⟨h2.blk.set 6 _, h2.idx.mod MS (fun b hb hb' => by simp at hb'; subst hb'; exact h2.ni _ (by simp [SB.own]) hb), MS.blk h2.cn (by simp; exact fun e => n1 e.symm), MS.blk h2.ce (by simp; exact fun e => n2 e.symm), MS.blk h2.co (by simp; exact fun e => n3 e.symm), MS.blk h2.cw (by simp; exact fun e => n4 e.symm), h2.ln, h2.le, h2.lo, h2.lw, h2.whole, h2.nd, h2.ni⟩, h3⟩
set_option maxRecDepth 4000 in
set_option maxHeartbeats 1600000 in
theorem clear_any {w : World} {B : SB} {n : Nat} {E : List Ent} {total : Int} (h : SumAt w B n E total) :
    Calls Try.prog 24 #[.pointer (some ⟨B.p, 0, none⟩)] w (ClearPost B n w) := by
  have H := Lib.hid h
  clear h
  go_enter Try.func24, Try.ntmps24
  go_wp2_with fail
  go_loopw [] (fun wr => ∃ E', SumAt wr B n E' total ∧ Mod B.all w wr) (fun wr => Sum.usedAt B.g wr)
  case atStart => exact ⟨E, H.out, Mod.refl _ _⟩
  case round =>
    clear H
    obtain ⟨E', hA, hM⟩ := hrel
    have hu := hA.usedAt
    have MR := Lib.hid hM
    rcases List.eq_nil_or_concat E' with rfl | ⟨E1, e, rfl⟩
    · have AR := Lib.hid hA
      have L := Lib.hid (len_any hA)
      simp only [List.length_nil] at L
      have Z := Lib.hid (hA.zero (t := 0))
      obtain ⟨S, fl, N, Er, O, W, ps, h1, h2, h3⟩ := hA
      have c6 := h2.blk.cell (i := 6) rfl
      have f6 := h2.blk.free 6
      clear hM hu h1 h2 h3
      go_wp2_with fail
      refine L.out.mono ?_
      rintro e1 w1 ⟨rfl, rfl⟩
      go_wp2_with fail
      exact bodyPost_ret (results_none rfl _ _ _) rfl ⟨⟨_, rfl⟩, Z.out, MR.out.setCell (p := ⟨B.p, 6, none⟩) (.inl (by simp [SB.all])) _⟩
    · rw [List.concat_eq_append] at hA hu
      have L := Lib.hid (len_any hA)
      have D := Lib.hid (drop_any hA)
      have d1 : decide ((0 : Int) < ((E1 ++ [e]).length : Nat)) = true := by simp
      have d2 : decide (0 < (E1 ++ [e]).length) = true := by simp
      have HU := Lib.hid hu
      generalize hlen : (E1 ++ [e]).length = u at *
      clear hA hM hu
      go_wp2_with fail
      refine L.out.mono ?_
      rintro e1 w1 ⟨rfl, rfl⟩
      go_wp2_with fail
      refine D.out.mono ?_
      rintro e2 w2 ⟨rfl, hA2, hM2⟩
      have A2 := Lib.hid hA2
      have M2 := Lib.hid (MR.out.trans hM2)
      clear hA2 hM2
      go_wp2_with fail
      go_roundw
      case rel => exact ⟨E1, A2.out, M2.out⟩
      case measure => rw [A2.out.usedAt, HU.out, ← hlen]; simp
theorem clear_nil (w : World) : Calls Try.prog 24 #[.pointer none] w fun e w' => (∃ v, e = .returned v) ∧ w = w' := by
  have L := Lib.hid (len_nil w)
  go_enter Try.func24, Try.ntmps24
  go_wp2_with fail
  go_loopw [] (fun wr => w = wr) (fun wr => 0)
  case atStart => rfl
  case round =>
    subst hrel
    go_wp2_with fail
    refine L.out.mono ?_
    rintro e1 w1 ⟨rfl, rfl⟩
    go_wp2_with fail
    go_end0
    exact ⟨⟨_, rfl⟩, rfl⟩
end Go.Proofs.Ytpobjhmfidebbaa.Sum
