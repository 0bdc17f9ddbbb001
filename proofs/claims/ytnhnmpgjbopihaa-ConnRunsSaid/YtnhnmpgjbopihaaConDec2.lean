/- decode: Feed. -/
import Derived.Test.YtnhnmpgjbopihaaConDec
namespace Go.Proofs.Ytnhnmpgjbopihaa.Frame
open Go Go.RowKit Go.YtnhnmpgjbopihaaMem Go.YtnhnmpgjbopihaaLex
set_option linter.unusedVariables false
set_option linter.unusedSimpArgs false
variable {T : TypeId} {rest : List Value}

/-- What a decoder has behind a byte. -/
def fed (pend : List UInt8) (rules : Int) (err : Nat) (c : UInt8) : List UInt8 × Nat :=
  if (tried pend rules err c).2.2 ≠ 0 then ([], (tried pend rules err c).2.2) else if (tried pend rules err c).2.1 then ([], err) else (pend ++ [c], err)
def FeedPost (T : TypeId) (rest : List Value) (g : Nat) (pend : List UInt8) (rules : Int) (err : Nat) (c : UInt8) (w : World) (e : Ending) (w' : World) : Prop :=
  e = .returned (.tuple #[(tried pend rules err c).1.val, .bool (tried pend rules err c).2.1, .int .i64 (tried pend rules err c).2.2]) ∧ Mod [g] w w' ∧ Dec T rest w' g (fed pend rules err c).1 rules (fed pend rules err c).2

theorem try_any {w : World} {g : Nat} {pend : List UInt8} {rules : Int} {err : Nat} (h : Dec T rest w g pend rules err) (c : UInt8) :
    Calls Try.prog 27 #[.pointer (some ⟨g, 0, none⟩), .int .u8 c.toNat] w (TryPost pend rules err c w) := by
  obtain ⟨bytes, h, ht, hp⟩ := h
  by_cases he : err = 0
  · subst he; exact try_go h ht hp c
  · exact try_err h he c

/-- Bytes that have no fault and are not whole are few. -/
theorem short_few {bs : List UInt8} {rules : Int} (h1 : (parse bs rules).2.1 = 0) (h2 : (parse bs rules).2.2 = 0) : bs.length < 75 := by
  by_cases hp : pfx bs rules = 0
  · by_cases hs : bs.length < 4 + nb bs 3 ∨ bs.length < 4
    · rcases Nat.lt_or_ge bs.length 4 with h4 | h4
      · omega
      · have hz := pfxTo_zero hp 3 (by unfold lim; omega)
        unfold faultAt at hz
        by_cases h : 3 = 3 ∧ nb bs 3 ≠ 2 ∧ nb bs 3 ≠ 3 ∧ (nb bs 3 < 7 ∨ 71 < nb bs 3)
        · rw [if_neg (by omega), if_neg (by omega), if_neg (by omega), if_pos h] at hz; cases hz
        · omega
    · rw [parse_ok hp (by omega) (by omega)] at h1
      simp at h1
  · rw [parse_fault hp] at h2
    exact absurd h2 hp

set_option maxRecDepth 4000 in
set_option maxHeartbeats 1600000 in
theorem feed_any {w : World} {g : Nat} {pend : List UInt8} {rules : Int} {err : Nat} (h : Dec T rest w g pend rules err) (c : UInt8) :
    Calls Try.prog 31 #[.pointer (some ⟨g, 0, none⟩), .int .u8 c.toNat] w (FeedPost T rest g pend rules err c w) := by
  have hT := fun w (h : Dec T rest w g pend rules err) => try_any h c
  unfold TryPost at hT
  obtain ⟨op, rule, cost, key, k, ok, e, hte⟩ : ∃ op rule cost key k ok e, tried pend rules err c = (⟨op, rule, cost, key, k⟩, ok, e) := ⟨_, _, _, _, _, _, _, rfl⟩
  have hfe : fed pend rules err c = if e ≠ 0 then ([], e) else if ok then ([], err) else (pend ++ [c], err) := by unfold fed; rw [hte]
  have herr : e = 0 → err = 0 := fun h0 => by
    unfold tried at hte
    by_cases he : err = 0
    · exact he
    · rw [if_pos he] at hte; injection hte with _ h; injection h with _ h; omega
  have hfew : e = 0 → ok = false → (pend ++ [c]).length < 75 := fun h0 h1 => by
    have := herr h0
    subst this
    unfold tried at hte
    rw [if_neg (by simp)] at hte
    injection hte with _ h; injection h with h2 h3
    rw [h1] at h2
    refine short_few (rules := rules) (by simpa using h2) (by rw [h3]; exact h0)
  rw [hte] at hT
  have HT := Lib.hid hT
  have HTE := Lib.hid hte
  have HFE := Lib.hid hfe
  clear hT hte hfe
  obtain ⟨bytes, hr, ht, hp⟩ := h
  have HD := Lib.hid (show Dec T rest w g pend rules err from ⟨bytes, hr, ht, hp⟩)
  have HTK := Lib.hid ht
  have HR := Lib.hid hr
  have hg := hr.blk.lt
  clear hr ht
  simp only [Req.val] at *
  go_enter Try.func31, Try.ntmps31
  go_wp2_with fail
  refine (HT.out _ (HD.out.mod ((Mod.refl [] w).alloc _) (by simp))).mono ?_
  rintro e1 w1 ⟨rfl, hM1⟩
  have hr1 := (HR.out.alloc (.cells Req.none.cells.toArray 50)).mod hM1 (by simp)
  obtain ⟨c1, c2, c3⟩ := hr1.cells
  have hbx : Box w1 w.heap.size Req.none := (Box.new w Req.none rfl).mod hM1
  obtain ⟨p0, p1, p2, p3, p4⟩ := Box.facts hbx
  have z0 := Blk.free hbx 0
  have z1 := Blk.free hbx 1
  have z2 := Blk.free hbx 2
  have z3 := Blk.free hbx 3
  have z4 := Blk.free hbx 4
  have hg1 : g < w1.heap.size := hr1.blk.lt
  have hR1 : w.heap.size < w1.heap.size := Blk.lt hbx
  have hne : g ≠ w.heap.size := by omega
  have f75 := hr1.blk.free 75
  have f77 := hr1.blk.free 77
  have M1 := Lib.hid (((Mod.refl [g] w).alloc (.cells Req.none.cells.toArray 50)).trans (hM1.mono (by simp)))
  have R1 := Lib.hid hr1
  clear hM1 hr1 hbx
  by_cases he : e = 0
  · cases ok
    · have hp' := hfew he rfl
      rw [List.length_append, List.length_singleton] at hp'
      obtain ⟨old, hold⟩ : ∃ old, bytes[pend.length]? = some old := ⟨_, List.getElem?_eq_getElem (by rw [HR.out.len]; omega)⟩
      have co := R1.out.byte (vb_get hold)
      have fc := R1.out.blk.free pend.length
      clear hold
      have de : ((e : Int) != 0) = false := by simp; omega
      go_wp2_with fail
      refine wp_region_lex (by kernel_rfl) (by kernel_rfl) ?_
      go_wp2_with fail
      refine ⟨by kernel_rfl, ?_⟩
      go_wp2_with fail
      refine bodyPost_ret (v := .tuple #[.agg #[.int .i64 op, .int .i64 rule, .int .u32 cost, .string ⟨key.toArray⟩, .int .i64 k], .bool false, .int .i64 0]) (by simp [results, Try.results31, go_sem, p0, p1, p2, p3, p4, z0, z1, z2, z3, z4, hR1]) rfl ⟨by rw [HTE.out, he]; rfl, ?_, ?_⟩
      · have m1 := (M1.out.setCell (p := ⟨g, pend.length, none⟩) (.inl (by simp)) (.int .u8 c.toNat)).setCell (p := ⟨g, 75, none⟩) (.inl (by simp)) (.int .i64 ((pend.length : Int) + 1))
        exact ((mod_put5 m1 (b := w.heap.size) (.inr (Nat.le_refl _)) ⟨op, rule, cost, key, k⟩).alloc _).drew
      · have r1 := (((R1.out.set pend.length hp c).setN ((pend.length : Int) + 1)).put5 hne ⟨op, rule, cost, key, k⟩).alloc (.cells #[.int .i64 op, .int .i64 rule, .int .u32 cost, .string ⟨key.toArray⟩, .int .i64 k] 50)
        rw [HFE.out, if_neg (by simp [he]), if_neg (by simp)]
        refine ⟨bytes.set pend.length c, ?_, ?_, ?_⟩
        · have : ((pend ++ [c]).length : Int) = (pend.length : Int) + 1 := by simp
          show Raw T rest _ g _ ((pend ++ [c]).length : Int) rules err
          rw [this]
          exact r1.drew
        · show (bytes.set pend.length c).take (pend ++ [c]).length = pend ++ [c]
          rw [List.length_append, List.length_singleton, List.take_succ_eq_append_getElem (by rw [List.length_set, HR.out.len]; omega), List.take_set_of_le (Nat.le_refl _), HTK.out]; simp
        · show (pend ++ [c]).length < 75
          simpa using hp'
    · have de : ((e : Int) != 0) = false := by simp; omega
      go_wp2_with fail
      refine bodyPost_ret (v := .tuple #[.agg #[.int .i64 op, .int .i64 rule, .int .u32 cost, .string ⟨key.toArray⟩, .int .i64 k], .bool true, .int .i64 0]) (by simp [results, Try.results31, go_sem, p0, p1, p2, p3, p4, z0, z1, z2, z3, z4, hR1]) rfl ⟨by rw [HTE.out, he]; rfl, ?_, ?_⟩
      · have m1 := M1.out.setCell (p := ⟨g, 75, none⟩) (.inl (by simp)) (.int .i64 0)
        exact (mod_put5 m1 (b := w.heap.size) (.inr (Nat.le_refl _)) ⟨op, rule, cost, key, k⟩).alloc _
      · have r1 := ((R1.out.setN 0).put5 hne ⟨op, rule, cost, key, k⟩).alloc (.cells #[.int .i64 op, .int .i64 rule, .int .u32 cost, .string ⟨key.toArray⟩, .int .i64 k] 50)
        rw [HFE.out, if_neg (by simp [he]), if_pos trivial]
        exact ⟨bytes, r1, rfl, by show 0 < 75; omega⟩
  · have de : ((e : Int) != 0) = true := by simp; omega
    go_wp2_with fail
    refine bodyPost_ret (v := .tuple #[.agg #[.int .i64 op, .int .i64 rule, .int .u32 cost, .string ⟨key.toArray⟩, .int .i64 k], .bool ok, .int .i64 e]) (by simp [results, Try.results31, go_sem, p0, p1, p2, p3, p4, z0, z1, z2, z3, z4, hR1]) rfl ⟨by rw [HTE.out]; rfl, ?_, ?_⟩
    · have m1 := (M1.out.setCell (p := ⟨g, 77, none⟩) (.inl (by simp)) (.int .i64 e)).setCell (p := ⟨g, 75, none⟩) (.inl (by simp)) (.int .i64 0)
      exact (mod_put5 m1 (b := w.heap.size) (.inr (Nat.le_refl _)) ⟨op, rule, cost, key, k⟩).alloc _
    · have r1 := (((R1.out.setE e).setN 0).put5 hne ⟨op, rule, cost, key, k⟩).alloc (.cells #[.int .i64 op, .int .i64 rule, .int .u32 cost, .string ⟨key.toArray⟩, .int .i64 k] 50)
      rw [HFE.out, if_pos he]
      exact ⟨bytes, r1, rfl, by show 0 < 75; omega⟩
end Go.Proofs.Ytnhnmpgjbopihaa.Frame
