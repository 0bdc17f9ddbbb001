/- index.Index: Find, Put. -/
import Derived.Test.YtajadfoannmaiaaIndex
namespace Go.Proofs.Ytajadfoannmaiaa.Index
open Go Go.RowKit Go.YtajadfoannmaiaaMem Go.YtajadfoannmaiaaLex Go.Proofs.Ytajadfoannmaiaa.Hash Go.Proofs.Ytajadfoannmaiaa.Keys Go.Proofs.Ytajadfoannmaiaa.Probe
set_option linter.unusedVariables false
set_option linter.unusedSimpArgs false

/-- A key's place. -/
def placeOf (S : List (Option (List UInt8))) (key : List UInt8) : Option Nat := S.findIdx? fun k => decide (k = some key)
theorem placeOf_none {S : List (Option (List UInt8))} {key : List UInt8} (h : ∀ (q : Nat), S[q]? ≠ some (some key)) : placeOf S key = none := by
  unfold placeOf
  rw [List.findIdx?_eq_none_iff]
  intro k hk
  obtain ⟨q, hq⟩ := List.getElem?_of_mem hk
  have := h q
  rw [hq] at this
  simpa using this
theorem placeOf_get {S : List (Option (List UInt8))} {key : List UInt8} {p : Nat} (h : placeOf S key = some p) : S[p]? = some (some key) := by
  unfold placeOf at h
  rw [List.findIdx?_eq_some_iff_getElem] at h
  obtain ⟨hp, h1, _⟩ := h
  rw [List.getElem?_eq_getElem hp]
  simpa using h1
def Uniq (S : List (Option (List UInt8))) : Prop := ∀ (p q : Nat) (k : List UInt8), S[p]? = some (some k) → S[q]? = some (some k) → p = q
theorem placeOf_there {S : List (Option (List UInt8))} {key : List UInt8} {p : Nat} (hu : Uniq S) (h : S[p]? = some (some key)) : placeOf S key = some p := by
  cases hp : placeOf S key with
  | none =>
    unfold placeOf at hp
    rw [List.findIdx?_eq_none_iff] at hp
    have := hp _ (List.mem_of_getElem? h)
    simp at this
  | some q => rw [hu q p key (placeOf_get hp) h]
theorem placeOf_no {S : List (Option (List UInt8))} {key : List UInt8} (h : placeOf S key = none) (q : Nat) : S[q]? ≠ some (some key) := fun hq => by
  unfold placeOf at h
  rw [List.findIdx?_eq_none_iff] at h
  have := h _ (List.mem_of_getElem? hq)
  simp at this
/-- A key is put: its place, or -1; the keys, the free places behind it. -/
def putS (S : List (Option (List UInt8))) (fl : List Nat) (key : List UInt8) : Int × List (Option (List UInt8)) × List Nat :=
  match placeOf S key, fl with
  | none, j :: fl' => if key.length ≤ 64 then ((j : Int), S.set j (some key), fl') else (-1, S, fl)
  | _, _ => (-1, S, fl)
/-- A key is taken out. -/
def remS (S : List (Option (List UInt8))) (fl : List Nat) (key : List UInt8) : Int × List (Option (List UInt8)) × List Nat :=
  match placeOf S key with
  | some p => ((p : Int), S.set p none, p :: fl)
  | none => (-1, S, fl)
/-- An index at block x over a store at block g, in the blocks L. -/
def IdxAt (w : World) (x g : Nat) (L : List Nat) (r : Row) (S : List (Option (List UInt8))) (fl : List Nat) : Prop :=
  ∃ b1 b2 b3 t bs nx T, L = [x, g, b1, b2, b3, t] ∧ Idx w x g b1 b2 b3 t r S fl bs nx T
theorem IdxAt.mod {S0 : List Nat} {w w' : World} {x g : Nat} {L : List Nat} {r : Row} {S : List (Option (List UInt8))} {fl : List Nat} (h : IdxAt w x g L r S fl) (hm : Mod S0 w w') (h0 : ∀ b, b ∈ L → b ∉ S0) : IdxAt w' x g L r S fl := by
  obtain ⟨b1, b2, b3, t, bs, nx, T, rfl, h⟩ := h
  exact ⟨b1, b2, b3, t, bs, nx, T, rfl, h.mod hm h0⟩
theorem IdxAt.uniq {w : World} {x g : Nat} {L : List Nat} {r : Row} {S : List (Option (List UInt8))} {fl : List Nat} (h : IdxAt w x g L r S fl) : Uniq S := by
  obtain ⟨b1, b2, b3, t, bs, nx, T, rfl, h⟩ := h
  exact h.ix.uniq

section
variable {w : World} {x g : Nat} {L : List Nat} {r : Row} {S : List (Option (List UInt8))} {fl : List Nat}
theorem ends_place {S : List (Option (List UInt8))} {T : List Nat} {key : List UInt8} {i : Nat} {o : Option Nat} (hu : Uniq S) (h : Probe.Ends S T key i o) : o = placeOf S key := by
  cases h with
  | there p h1 h2 => rw [placeOf_there hu h2]
  | free h1 h2 => rw [placeOf_none h2]
theorem find_any (h : IdxAt w x g L r S fl) (key : List UInt8) (hl : key.length ≤ 1000000) :
    Calls Try.prog 24 #[.pointer (some ⟨x, 0, none⟩), .string ⟨key.toArray⟩] w fun e w' => e = .returned (.int .i64 (optInt (placeOf S key))) ∧ Mod [] w w' := by
  have hu := h.uniq
  obtain ⟨b1, b2, b3, t, bs, nx, T, rfl, h⟩ := h
  have K := Lib.hid (look_any h key hl)
  have HU := Lib.hid hu
  obtain ⟨z, hz⟩ : ∃ z, optInt (placeOf S key) = z := ⟨_, rfl⟩
  rw [hz]
  have HZ := Lib.hid hz
  clear h hu hz
  go_enter Try.func24, Try.ntmps24
  go_wp2_with fail
  refine K.out.mono ?_
  rintro e1 w1 ⟨d, o, hd, hE, hw, rfl, hM⟩
  obtain rfl := ends_place HU.out hE
  have MR := Lib.hid hM
  rw [HZ.out]
  clear hd hE hw hM
  generalize (homeOf r T.length key + d) % T.length = i at *
  go_wp2_with fail
  go_ret
  exact ⟨rfl, MR.out⟩
def PutsPost (x g : Nat) (L : List Nat) (r : Row) (res : Int × List (Option (List UInt8)) × List Nat) (w : World) (e : Ending) (w' : World) : Prop :=
  e = .returned (.int .i64 res.1) ∧ IdxAt w' x g L r res.2.1 res.2.2 ∧ Mod L w w'
set_option maxRecDepth 4000 in
set_option maxHeartbeats 1600000 in
theorem put_any (h : IdxAt w x g L r S fl) (key : List UInt8) (hl : key.length ≤ 1000000) :
    Calls Try.prog 22 #[.pointer (some ⟨x, 0, none⟩), .string ⟨key.toArray⟩] w (PutsPost x g L r (putS S fl key) w) := by
  have hu := h.uniq
  have HA := Lib.hid h
  obtain ⟨b1, b2, b3, t, bs, nx, T, rfl, h⟩ := h
  have K := Lib.hid (look_any h key hl)
  have HU := Lib.hid hu
  have HI := Lib.hid h
  have c0 := h.blk.cell (i := 0) rfl
  have c4 := h.blk.cell (i := 4) rfl
  obtain ⟨hf1, hf2⟩ := h.few
  have HB := Lib.hid h.blk
  have HT := Lib.hid h.tab
  have hfew := h.sto.few
  cases hp : placeOf S key with
  | some p =>
    have hr : putS S fl key = (-1, S, fl) := by unfold putS; rw [hp]
    rw [hr]
    clear h hu HI hfew
    go_enter Try.func22, Try.ntmps22
    go_wp2_with fail
    refine K.out.mono ?_
    rintro e1 w1 ⟨d, o, hd, hE, hw, rfl, hM⟩
    obtain rfl := ends_place HU.out hE
    have MR := Lib.hid hM
    have hz : optInt (placeOf S key) = (p : Int) := by rw [hp]; rfl
    rw [hz]
    clear hd hE hw hM hp hr hz
    generalize (homeOf r T.length key + d) % T.length = i at *
    go_wp2_with fail
    go_ret
    exact ⟨rfl, HA.out.mod MR.out (by simp), MR.out.mono (by simp)⟩
  | none =>
    have HP := Lib.hid hp
    by_cases hyes : ∃ j fl', fl = j :: fl' ∧ key.length ≤ 64
    · obtain ⟨j, fl', rfl, hk⟩ := hyes
      have hr : putS S (j :: fl') key = ((j : Int), S.set j (some key), fl') := by unfold putS; rw [hp]; simp [hk]
      rw [hr]
      have SP := Lib.hid (fun (W : World) (hM : Mod [] w W) => put_yes (h.sto.mod hM (by simp)) key hk)
      have hjn : S[j]? = some none := (h.sto.free 0 j rfl).1
      have hj : j < S.length := (List.getElem?_eq_some_iff.1 hjn).1
      have HJ := Lib.hid hjn
      have hTl : T.length < 2147483648 := by omega
      clear h hu hp hr hjn
      go_enter Try.func22, Try.ntmps22
      go_wp2_with fail
      refine K.out.mono ?_
      rintro e1 w1 ⟨d, o, hd, hE, hw, rfl, hM⟩
      have ho := ends_place HU.out hE
      rw [HP.out] at ho
      subst ho
      have MR := Lib.hid hM
      have h0 : T[(homeOf r T.length key + d) % T.length]? = some 0 := by cases hE; assumption
      have hno : ∀ (q : Nat), S[q]? ≠ some (some key) := by cases hE; assumption
      have HIX := Lib.hid (HI.out.ix.put (key := key) HJ.out hno hd h0 hw)
      obtain ⟨i, hi⟩ : ∃ i, (homeOf r T.length key + d) % T.length = i := ⟨_, rfl⟩
      rw [hi] at h0 HIX ⊢
      have hiT : i < T.length := (List.getElem?_eq_some_iff.1 h0).1
      have e0 := (hM.cell (a := ⟨x, 0, none⟩) HB.out.lt (by simp)).trans c0
      have ho1 : optInt none = -1 := rfl
      rw [ho1]
      have H0 := Lib.hid h0
      clear hd hE hw hM h0 hno hi ho1
      go_wp2_with fail
      refine (SP.out _ MR.out).mono ?_
      rintro e2 w2 ⟨rfl, hS2, hM2⟩
      obtain ⟨n1, n2, n3⟩ := HI.out.ne
      have HN := Lib.hid (And.intro n1 (And.intro n2 n3))
      have hne := HI.out.ne
      simp only [List.mem_cons, List.not_mem_nil, or_false, not_or] at hne
      obtain ⟨n1, ⟨n2, n3, n4, n5⟩, n6, n7, n8, n9⟩ := hne
      have M2 := Lib.hid ((MR.out.mono (S' := [g, b1, b2]) (by simp)).trans hM2)
      have B2 := Lib.hid (M2.out.blk HB.out (by simp [n2, n3, n4]))
      have T2 := Lib.hid (M2.out.blk HT.out (by simp [n6, n7, n8]))
      have k4 := B2.out.cell (i := 4) rfl
      have ci := T2.out.cell (tbl_get H0.out)
      have fi := T2.out.free i
      have HS := Lib.hid hS2
      clear hS2 hM2
      go_wp2_with fail
      go_ret
      refine ⟨rfl, ⟨b1, b2, b3, t, lay bs j key, nx, T.set i (j + 1), rfl, HS.out.mod ((Mod.refl [t] _).setCell (p := ⟨t, i, none⟩) (.inl (by simp)) _) (by simp; omega), ?_, ?_, HI.out.ok, ?_, HI.out.ne⟩, ?_⟩
      · rw [List.length_set]; exact B2.out.other (a := ⟨t, i, none⟩) n1 _
      · rw [tbl_set]; exact T2.out.set i _
      · rw [List.length_set]; exact HIX.out
      · exact (M2.out.mono (by simp)).setCell (p := ⟨t, i, none⟩) (.inl (by simp)) _
    · have hr : putS S fl key = (-1, S, fl) := by
        unfold putS; rw [hp]
        cases fl with
        | nil => rfl
        | cons j fl' => simp only; rw [if_neg]; intro hk; exact hyes ⟨j, fl', rfl, hk⟩
      rw [hr]
      have SP : Hid (∀ (W : World), Mod [] w W → Calls Try.prog 37 #[.pointer (some ⟨g, 0, none⟩), .string ⟨key.toArray⟩] W fun e w' => e = .returned (.int .i64 (-1)) ∧ W = w') := by
        refine Lib.hid fun W hM => ?_
        cases fl with
        | nil => exact put_full (h.sto.mod hM (by simp)) key
        | cons j fl' => exact put_long (h.sto.mod hM (by simp)) key (by apply Classical.byContradiction; intro hk; exact hyes ⟨j, fl', rfl, by omega⟩)
      clear h hu hp hr hyes
      go_enter Try.func22, Try.ntmps22
      go_wp2_with fail
      refine K.out.mono ?_
      rintro e1 w1 ⟨d, o, hd, hE, hw, rfl, hM⟩
      have ho := ends_place HU.out hE
      rw [HP.out] at ho
      subst ho
      have MR := Lib.hid hM
      obtain ⟨i, hi⟩ : ∃ i, (homeOf r T.length key + d) % T.length = i := ⟨_, rfl⟩
      rw [hi]
      have e0 := (hM.cell (a := ⟨x, 0, none⟩) HB.out.lt (by simp)).trans c0
      have ho1 : optInt none = -1 := rfl
      rw [ho1]
      clear hd hE hw hM hi ho1
      go_wp2_with fail
      refine (SP.out _ MR.out).mono ?_
      rintro e2 w2 ⟨rfl, rfl⟩
      go_wp2_with fail
      go_ret
      exact ⟨rfl, HA.out.mod MR.out (by simp), MR.out.mono (by simp)⟩
end
end Go.Proofs.Ytajadfoannmaiaa.Index
