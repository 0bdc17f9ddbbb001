/- frame.Parse. -/
import Derived.Test.YtnhnmpgjbopihaaParse2
namespace Go.Proofs.Ytnhnmpgjbopihaa.Frame
open Go Go.RowKit Go.YtnhnmpgjbopihaaMem Go.YtnhnmpgjbopihaaLex
set_option linter.unusedVariables false
set_option linter.unusedSimpArgs false

theorem pfxTo_zero {bs : List UInt8} {rules : Int} : ∀ {k : Nat}, pfxTo bs rules k = 0 → ∀ j, j < k → faultAt bs rules j = 0
  | 0, _, j, hj => by omega
  | k + 1, h, j, hj => by
    unfold pfxTo at h
    by_cases h0 : pfxTo bs rules k = 0
    · rw [if_neg (by simpa using h0)] at h
      rcases Nat.lt_or_ge j k with hlt | hge
      · exact pfxTo_zero h0 j hlt
      · obtain rfl : j = k := by omega
        exact h
    · rw [if_pos h0] at h; exact absurd h h0
/-- The request that bytes tell, where they tell one. -/
def reqOf (bs : List UInt8) : Req :=
  ⟨nb bs 4, nb bs 5, if nb bs 4 = 1 ∨ nb bs 4 = 2 then numOf ((bs.drop 6).take 4) else 0, if nb bs 4 = 1 ∨ nb bs 4 = 2 then (bs.drop 11).take (nb bs 3 - 7) else [], if nb bs 4 = 4 then nb bs 6 else 0⟩
def Req.none : Req := ⟨0, 0, 0, [], 0⟩
def parse (bs : List UInt8) (rules : Int) : Req × Nat × Nat :=
  if pfx bs rules ≠ 0 then (Req.none, 0, pfx bs rules) else if bs.length < 4 + nb bs 3 ∨ bs.length < 4 then (Req.none, 0, 0) else (reqOf bs, 4 + nb bs 3, 0)
/-- What bytes that have no fault and are not too few hold. -/
theorem parse_facts {bs : List UInt8} {rules : Int} (h : pfx bs rules = 0) (h1 : 4 + nb bs 3 ≤ bs.length) (h2 : 4 ≤ bs.length) :
    (nb bs 3 = 2 ∨ nb bs 3 = 3 ∨ 7 ≤ nb bs 3 ∧ nb bs 3 ≤ 71) ∧ fitsB (nb bs 4) (nb bs 3) = true ∧ (nb bs 5 : Int) < rules ∧ (7 ≤ nb bs 3 → (nb bs 10 : Int) = nb bs 3 - 7) ∧ nb bs 0 = 167 ∧ nb bs 1 = 1 ∧ nb bs 2 = 0 := by
  have hz : ∀ j, j < 4 + nb bs 3 → faultAt bs rules j = 0 := fun j hj => pfxTo_zero h j (by unfold lim; omega)
  have f3 := hz 3 (by omega)
  have e3 : nb bs 3 = 2 ∨ nb bs 3 = 3 ∨ 7 ≤ nb bs 3 ∧ nb bs 3 ≤ 71 := by
    unfold faultAt at f3
    by_cases h : 3 = 3 ∧ nb bs 3 ≠ 2 ∧ nb bs 3 ≠ 3 ∧ (nb bs 3 < 7 ∨ 71 < nb bs 3)
    · rw [if_neg (by omega), if_neg (by omega), if_neg (by omega), if_pos h] at f3; cases f3
    · omega
  have f0 := hz 0 (by omega)
  have f1 := hz 1 (by omega)
  have f2 := hz 2 (by omega)
  have f4 := hz 4 (by omega)
  have f5 := hz 5 (by omega)
  simp [faultAt] at f0 f1 f2 f4 f5
  refine ⟨e3, f4, by omega, fun h7 => ?_, f0, f1, f2⟩
  have f10 := hz 10 (by omega)
  simp [faultAt] at f10
  exact f10

theorem prefix_any {w : World} {v : Value} {bs : List UInt8} (hv : Sl w v (vb bs)) (hc : bs.length ≤ 1000000) (rules : Int) :
    Calls Try.prog 37 #[v, .int .i64 rules] w fun e w' => e = .returned (.int .i64 (pfx bs rules)) ∧ w = w' := by
  rcases hv with ⟨hn, av, capv, rfl⟩ | ⟨b, off, cap, rfl, hc1, hc2, hc3, hcell⟩
  · obtain rfl : bs = [] := by cases bs; rfl; simp [vb] at hn
    go_enter Try.func37, Try.ntmps37
    go_wp2_with fail
    refine wp_loop_once ?_
    go_wp2
    go_ret
    exact ⟨rfl, rfl⟩
  · rw [vb_length]; exact prefix_main hc hcell rules

def ParsePost (bs : List UInt8) (rules : Int) (w : World) (e : Ending) (w' : World) : Prop :=
  e = .returned (.tuple #[(parse bs rules).1.val, .int .i64 (parse bs rules).2.1, .int .i64 (parse bs rules).2.2]) ∧ Mod [] w w'

theorem parse_fault {bs : List UInt8} {rules : Int} (h : pfx bs rules ≠ 0) : parse bs rules = (Req.none, 0, pfx bs rules) := by unfold parse; rw [if_pos h]
theorem parse_short {bs : List UInt8} {rules : Int} (h : pfx bs rules = 0) (h1 : bs.length < 4 + nb bs 3 ∨ bs.length < 4) : parse bs rules = (Req.none, 0, 0) := by
  unfold parse; rw [if_neg (by simpa using h), if_pos h1]
theorem parse_ok {bs : List UInt8} {rules : Int} (h : pfx bs rules = 0) (h1 : 4 + nb bs 3 ≤ bs.length) (h2 : 4 ≤ bs.length) : parse bs rules = (reqOf bs, 4 + nb bs 3, 0) := by
  unfold parse; rw [if_neg (by simpa using h), if_neg (by omega)]

theorem Mod.again {w : World} {n : Nat} (o o' : Obj) (hn : w.heap.size = n) : Mod [n] (w.alloc o).drew.drew (w.alloc o').drew.drew := by
  subst hn
  refine ⟨rfl, rfl, rfl, ?_, fun k hk hn => ?_⟩
  · change (w.alloc o).heap.size ≤ (w.alloc o').heap.size; simp
  · change k < (w.alloc o).heap.size at hk
    have hk' : k < w.heap.size := by simp at hk hn; omega
    change (w.alloc o').heap[k]? = (w.alloc o).heap[k]?
    rw [Below.heap_alloc _ _ _ hk', Below.heap_alloc _ _ _ hk']
theorem num_at {w : World} {b off c n : Nat} {bs : List UInt8} (hn : bs.length = n) (hc : n ≤ 8) (hcell : ∀ i u, (vb bs)[i]? = some u → w.cell? ⟨b, off + i, none⟩ = some u) :
    Calls Try.prog 38 #[.slice (some ⟨b, off, none⟩) n c] w fun e w' => e = .returned (.int .u64 (numOf bs)) ∧ w = w' := by
  subst hn; exact num_main hc hcell

set_option maxRecDepth 4000 in
set_option maxHeartbeats 1600000 in
theorem parse_any {w : World} {v : Value} {bs : List UInt8} (hv : Sl w v (vb bs)) (hc : bs.length ≤ 1000000) (rules : Int) :
    Calls Try.prog 35 #[v, .int .i64 rules] w (ParsePost bs rules w) := by
  by_cases hp : pfx bs rules = 0
  · by_cases hshort : bs.length < 4
    · obtain ⟨a, c, rfl, hl, hA⟩ := hv.open
      have HV := Lib.hid hv
      have HP := Lib.hid hp
      have HPS := Lib.hid (parse_short hp (.inr hshort))
      rw [vb_length] at *
      have d4 : decide ((bs.length : Int) < 4) = true := by simp; omega
      clear hv hA hp
      go_enter Try.func35, Try.ntmps35
      go_wp2_with fail
      refine (prefix_any (HV.out.mod ((Mod.refl [] w).alloc _) (by simp)) hc rules).mono ?_
      rintro e w' ⟨rfl, rfl⟩
      rw [HP.out]
      go_wp2_with fail
      refine bodyPost_ret (v := .tuple #[Req.none.val, .int .i64 0, .int .i64 0]) (by simp [results, Try.results35, go_sem, Req.none, Req.val]) rfl ⟨?_, (Mod.refl [] w).alloc _⟩
      rw [HPS.out]; rfl
    · rcases hv with ⟨hn, av, capv, rfl⟩ | ⟨b, off, cap, rfl, hc1, hc2, hc3, hcell⟩
      · have : (vb bs).length = 0 := by rw [hn]; rfl
        rw [vb_length] at this; omega
      have hv' : Sl w (.slice (some ⟨b, off, none⟩) (vb bs).length cap) (vb bs) := .inr ⟨b, off, cap, rfl, hc1, hc2, hc3, hcell⟩
      rw [vb_length] at *
      have HV := Lib.hid hv'
      have HP := Lib.hid hp
      have d4 : decide ((bs.length : Int) < 4) = false := by simp; omega
      have c3 : w.cell? ⟨b, off + 3, none⟩ = some (.int .u8 (nb bs 3)) := hcell 3 _ (nb_get (by omega))
      have n3 := nb_lt bs 3
      have HC := Lib.hid hcell
      clear hv' hp hcell
      by_cases hs : bs.length < 4 + nb bs 3
      · have HPS := Lib.hid (parse_short HP.out (.inl hs))
        have ds : decide ((bs.length : Int) < 4 + nb bs 3) = true := by simp; omega
        go_enter Try.func35, Try.ntmps35
        go_wp2_with fail
        refine (prefix_any (HV.out.mod ((Mod.refl [] w).alloc _) (by simp)) hc rules).mono ?_
        rintro e w' ⟨rfl, rfl⟩
        rw [HP.out]
        go_wp2_with fail
        refine bodyPost_ret (v := .tuple #[Req.none.val, .int .i64 0, .int .i64 0]) (by simp [results, Try.results35, go_sem, Req.none, Req.val]) rfl ⟨?_, (Mod.refl [] w).alloc _⟩
        rw [HPS.out]; rfl
      · have ds : decide ((bs.length : Int) < 4 + nb bs 3) = false := by simp; omega
        obtain ⟨f1, f2, f3, f4, _⟩ := parse_facts HP.out (by omega) (by omega)
        have hsz : 6 ≤ bs.length := by omega
        have c4 : w.cell? ⟨b, off + 4, none⟩ = some (.int .u8 (nb bs 4)) := HC.out 4 _ (nb_get (by omega))
        have c5 : w.cell? ⟨b, off + 5, none⟩ = some (.int .u8 (nb bs 5)) := HC.out 5 _ (nb_get (by omega))
        have isc : IsC (w.alloc (.cells Req.none.cells.toArray 50)).drew b := isC_of_cell (((Mod.refl [] w).alloc (.cells Req.none.cells.toArray 50)).cell hc3 (by simp) |>.trans c3)
        have HPS := Lib.hid (parse_ok HP.out (by omega) (by omega))
        have n5 := nb_lt bs 5
        have n6 := nb_lt bs 6
        clear f3 f4
        by_cases h12 : nb bs 4 = 1 ∨ nb bs 4 = 2
        · have h7 : 7 ≤ nb bs 3 := by
            unfold fitsB at f2; rw [if_pos h12] at f2; simpa using f2
          rcases h12 with h1 | h1
          · rw [h1] at c4
            have en : ((bs.drop 6).take 4).length = 4 := by simp; omega
            have HC6 : Hid (∀ i u, (vb ((bs.drop 6).take 4))[i]? = some u → w.cell? ⟨b, off + 6 + i, none⟩ = some u) := fun i u hu => by
              have hi : i < 4 := by have := (List.getElem?_eq_some_iff.1 hu).1; rw [vb_length, en] at this; exact this
              rw [show off + 6 + i = off + (6 + i) by omega]
              refine HC.out (6 + i) u ?_
              rw [← hu]; unfold vb; simp [List.getElem?_take, hi]
            have hn32 : numOf ((bs.drop 6).take 4) < 4294967296 := by have := numOf_lt ((bs.drop 6).take 4); rw [en] at this; exact this
            go_enter Try.func35, Try.ntmps35
            go_wp2_with fail
            refine (prefix_any (HV.out.mod ((Mod.refl [] w).alloc _) (by simp)) hc rules).mono ?_
            rintro e w' ⟨rfl, rfl⟩
            rw [HP.out]
            go_wp2_with fail
            refine wp_region_held [] [2, 6] [] (by kernel_rfl) (by kernel_rfl) ?_
            simp only [wpCut, List.take_succ_cons, List.take_zero, List.drop_succ_cons, List.drop_zero]
            go_wp2_with fail
            refine ⟨by kernel_rfl, ⟨⟨by simp, isc⟩, ⟨by simp, isc⟩, trivial⟩, ?_⟩
            go_wp2_with fail
            refine wp_region_held [3, 7] [7] [w.heap.size + 1] (by kernel_rfl) (by kernel_rfl) ?_
            simp only [wpCut, List.take_succ_cons, List.take_zero, List.drop_succ_cons, List.drop_zero]
            go_wp2_with fail
            refine (num_at en (by decide) (fun i u hu => (((((Mod.refl [] w).alloc _).alloc _).drew.drew).cell hc3 (by simp)).trans (HC6.out i u hu))).mono ?_
            rintro e w' ⟨rfl, rfl⟩
            have hW : Mod [] w (((w.alloc (.cells #[.int .i64 0, .int .i64 0, .int .u32 0, .string ⟨#[]⟩, .int .i64 0] 50)).alloc (.cells #[.int .i64 1, .int .i64 (nb bs 5), .int .u32 0, .string ⟨#[]⟩, .int .i64 0] 50)).drew.drew) := (((Mod.refl [] w).alloc _).alloc _).drew.drew
            have e7 : 4 + nb bs 3 - 11 = nb bs 3 - 7 := by omega
            have iscb : IsC (((w.alloc (.cells #[.int .i64 0, .int .i64 0, .int .u32 0, .string ⟨#[]⟩, .int .i64 0] 50)).alloc (.cells #[.int .i64 1, .int .i64 (nb bs 5), .int .u32 0, .string ⟨#[]⟩, .int .i64 0] 50)).drew.drew) b := isC_of_cell ((hW.cell hc3 (by simp)).trans c3)
            have hbN : b ∉ [w.heap.size + 1] := by simp; omega
            by_cases hcap : cap = 11
            · subst hcap
              have ez : 4 + nb bs 3 - 11 = 0 := by omega
              have ek : nb bs 3 - 7 = 0 := by omega
              have hcv := run_str (P := Try.prog) (bs := []) (Sl.nil ((((w.alloc (.cells #[.int .i64 0, .int .i64 0, .int .u32 0, .string ⟨#[]⟩, .int .i64 0] 50)).alloc (.cells #[.int .i64 1, .int .i64 (nb bs 5), .int .u32 0, .string ⟨#[]⟩, .int .i64 0] 50)).drew.drew)) (some ⟨b, off, none⟩) 0) Try.underlying22 Try.underlying5 Try.underlying9
              clear hW
              go_wp2_with fail
              refine ⟨Mod.refl _ _, ?_⟩
              go_wp2_with fail
              refine ⟨Mod.again _ _ (by simp), ?_⟩
              go_wp2_with fail
              refine ⟨by kernel_rfl, ⟨.inl rfl, trivial⟩, ?_⟩
              go_wp2_with fail
              refine bodyPost_ret (v := .tuple #[.agg #[.int .i64 1, .int .i64 (nb bs 5), .int .u32 (numOf ((bs.drop 6).take 4)), .string ⟨([] : List UInt8).toArray⟩, .int .i64 0], .int .i64 (4 + nb bs 3), .int .i64 0]) (by simp [results, Try.results35, go_sem]) rfl ⟨?_, (((Mod.refl [] w).alloc _).alloc _).drew.drew⟩
              rw [HPS.out]
              simp [reqOf, Req.val, h1, ek]
            · have hcv := run_str (P := Try.prog) (Sl.part (w := (((w.alloc (.cells #[.int .i64 0, .int .i64 0, .int .u32 0, .string ⟨#[]⟩, .int .i64 0] 50)).alloc (.cells #[.int .i64 1, .int .i64 (nb bs 5), .int .u32 0, .string ⟨#[]⟩, .int .i64 0] 50)).drew.drew)) (b := b) (off := off) (c := cap - 11) (i := 11) (m := nb bs 3 - 7) (bs := bs) (hW.lt hc3) (fun i u hu => (hW.cell hc3 (by simp)).trans (HC.out i u hu)) (by omega) (by omega) (by omega)) Try.underlying22 Try.underlying5 Try.underlying9
              clear hW
              go_wp2_with fail
              refine ⟨Mod.refl _ _, ?_⟩
              go_wp2_with fail
              refine ⟨Mod.again _ _ (by simp), ?_⟩
              go_wp2_with fail
              refine ⟨by kernel_rfl, ⟨.inr ⟨hbN, iscb⟩, trivial⟩, ?_⟩
              go_wp2_with fail
              refine bodyPost_ret (v := .tuple #[.agg #[.int .i64 1, .int .i64 (nb bs 5), .int .u32 (numOf ((bs.drop 6).take 4)), .string ⟨(((bs.drop 11).take (nb bs 3 - 7)) : List UInt8).toArray⟩, .int .i64 0], .int .i64 (4 + nb bs 3), .int .i64 0]) (by simp [results, Try.results35, go_sem]) rfl ⟨?_, (((Mod.refl [] w).alloc _).alloc _).drew.drew⟩
              rw [HPS.out]
              simp [reqOf, Req.val, h1]
          · rw [h1] at c4
            have en : ((bs.drop 6).take 4).length = 4 := by simp; omega
            have HC6 : Hid (∀ i u, (vb ((bs.drop 6).take 4))[i]? = some u → w.cell? ⟨b, off + 6 + i, none⟩ = some u) := fun i u hu => by
              have hi : i < 4 := by have := (List.getElem?_eq_some_iff.1 hu).1; rw [vb_length, en] at this; exact this
              rw [show off + 6 + i = off + (6 + i) by omega]
              refine HC.out (6 + i) u ?_
              rw [← hu]; unfold vb; simp [List.getElem?_take, hi]
            have hn32 : numOf ((bs.drop 6).take 4) < 4294967296 := by have := numOf_lt ((bs.drop 6).take 4); rw [en] at this; exact this
            go_enter Try.func35, Try.ntmps35
            go_wp2_with fail
            refine (prefix_any (HV.out.mod ((Mod.refl [] w).alloc _) (by simp)) hc rules).mono ?_
            rintro e w' ⟨rfl, rfl⟩
            rw [HP.out]
            go_wp2_with fail
            refine wp_region_held [] [2, 6] [] (by kernel_rfl) (by kernel_rfl) ?_
            simp only [wpCut, List.take_succ_cons, List.take_zero, List.drop_succ_cons, List.drop_zero]
            go_wp2_with fail
            refine ⟨by kernel_rfl, ⟨⟨by simp, isc⟩, ⟨by simp, isc⟩, trivial⟩, ?_⟩
            go_wp2_with fail
            refine wp_region_held [3, 7] [7] [w.heap.size + 1] (by kernel_rfl) (by kernel_rfl) ?_
            simp only [wpCut, List.take_succ_cons, List.take_zero, List.drop_succ_cons, List.drop_zero]
            go_wp2_with fail
            refine (num_at en (by decide) (fun i u hu => (((((Mod.refl [] w).alloc _).alloc _).drew.drew).cell hc3 (by simp)).trans (HC6.out i u hu))).mono ?_
            rintro e w' ⟨rfl, rfl⟩
            have hW : Mod [] w (((w.alloc (.cells #[.int .i64 0, .int .i64 0, .int .u32 0, .string ⟨#[]⟩, .int .i64 0] 50)).alloc (.cells #[.int .i64 2, .int .i64 (nb bs 5), .int .u32 0, .string ⟨#[]⟩, .int .i64 0] 50)).drew.drew) := (((Mod.refl [] w).alloc _).alloc _).drew.drew
            have e7 : 4 + nb bs 3 - 11 = nb bs 3 - 7 := by omega
            have iscb : IsC (((w.alloc (.cells #[.int .i64 0, .int .i64 0, .int .u32 0, .string ⟨#[]⟩, .int .i64 0] 50)).alloc (.cells #[.int .i64 2, .int .i64 (nb bs 5), .int .u32 0, .string ⟨#[]⟩, .int .i64 0] 50)).drew.drew) b := isC_of_cell ((hW.cell hc3 (by simp)).trans c3)
            have hbN : b ∉ [w.heap.size + 1] := by simp; omega
            by_cases hcap : cap = 11
            · subst hcap
              have ez : 4 + nb bs 3 - 11 = 0 := by omega
              have ek : nb bs 3 - 7 = 0 := by omega
              have hcv := run_str (P := Try.prog) (bs := []) (Sl.nil ((((w.alloc (.cells #[.int .i64 0, .int .i64 0, .int .u32 0, .string ⟨#[]⟩, .int .i64 0] 50)).alloc (.cells #[.int .i64 2, .int .i64 (nb bs 5), .int .u32 0, .string ⟨#[]⟩, .int .i64 0] 50)).drew.drew)) (some ⟨b, off, none⟩) 0) Try.underlying22 Try.underlying5 Try.underlying9
              clear hW
              go_wp2_with fail
              refine ⟨Mod.refl _ _, ?_⟩
              go_wp2_with fail
              refine ⟨Mod.again _ _ (by simp), ?_⟩
              go_wp2_with fail
              refine ⟨by kernel_rfl, ⟨.inl rfl, trivial⟩, ?_⟩
              go_wp2_with fail
              refine bodyPost_ret (v := .tuple #[.agg #[.int .i64 2, .int .i64 (nb bs 5), .int .u32 (numOf ((bs.drop 6).take 4)), .string ⟨([] : List UInt8).toArray⟩, .int .i64 0], .int .i64 (4 + nb bs 3), .int .i64 0]) (by simp [results, Try.results35, go_sem]) rfl ⟨?_, (((Mod.refl [] w).alloc _).alloc _).drew.drew⟩
              rw [HPS.out]
              simp [reqOf, Req.val, h1, ek]
            · have hcv := run_str (P := Try.prog) (Sl.part (w := (((w.alloc (.cells #[.int .i64 0, .int .i64 0, .int .u32 0, .string ⟨#[]⟩, .int .i64 0] 50)).alloc (.cells #[.int .i64 2, .int .i64 (nb bs 5), .int .u32 0, .string ⟨#[]⟩, .int .i64 0] 50)).drew.drew)) (b := b) (off := off) (c := cap - 11) (i := 11) (m := nb bs 3 - 7) (bs := bs) (hW.lt hc3) (fun i u hu => (hW.cell hc3 (by simp)).trans (HC.out i u hu)) (by omega) (by omega) (by omega)) Try.underlying22 Try.underlying5 Try.underlying9
              clear hW
              go_wp2_with fail
              refine ⟨Mod.refl _ _, ?_⟩
              go_wp2_with fail
              refine ⟨Mod.again _ _ (by simp), ?_⟩
              go_wp2_with fail
              refine ⟨by kernel_rfl, ⟨.inr ⟨hbN, iscb⟩, trivial⟩, ?_⟩
              go_wp2_with fail
              refine bodyPost_ret (v := .tuple #[.agg #[.int .i64 2, .int .i64 (nb bs 5), .int .u32 (numOf ((bs.drop 6).take 4)), .string ⟨(((bs.drop 11).take (nb bs 3 - 7)) : List UInt8).toArray⟩, .int .i64 0], .int .i64 (4 + nb bs 3), .int .i64 0]) (by simp [results, Try.results35, go_sem]) rfl ⟨?_, (((Mod.refl [] w).alloc _).alloc _).drew.drew⟩
              rw [HPS.out]
              simp [reqOf, Req.val, h1]
        · by_cases h3 : nb bs 4 = 4
          · have h6 : 7 ≤ bs.length := by
              unfold fitsB at f2; rw [if_neg h12, if_neg (by omega), if_pos h3] at f2
              have : nb bs 3 = 3 := by simpa using f2
              omega
            have c6 : w.cell? ⟨b, off + 6, none⟩ = some (.int .u8 (nb bs 6)) := HC.out 6 _ (nb_get (by omega))
            rw [h3] at c4
            go_enter Try.func35, Try.ntmps35
            go_wp2_with fail
            refine (prefix_any (HV.out.mod ((Mod.refl [] w).alloc _) (by simp)) hc rules).mono ?_
            rintro e w' ⟨rfl, rfl⟩
            rw [HP.out]
            go_wp2_with fail
            refine wp_region_held [] [2, 6] [] (by kernel_rfl) (by kernel_rfl) ?_
            simp only [wpCut, List.take_succ_cons, List.take_zero, List.drop_succ_cons, List.drop_zero]
            go_wp2_with fail
            refine ⟨by kernel_rfl, ⟨⟨by simp, isc⟩, ⟨by simp, isc⟩, trivial⟩, ?_⟩
            go_wp2_with fail
            refine bodyPost_ret (v := .tuple #[.agg #[.int .i64 4, .int .i64 (nb bs 5), .int .u32 0, .string ⟨#[]⟩, .int .i64 (nb bs 6)], .int .i64 (4 + nb bs 3), .int .i64 0]) (by simp [results, Try.results35, go_sem]) rfl ⟨?_, (((Mod.refl [] w).alloc _).alloc _).drew⟩
            rw [HPS.out]
            simp [reqOf, Req.val, h3]
          · have h3' : nb bs 4 = 3 := by
              unfold fitsB at f2; rw [if_neg h12] at f2
              by_cases e : nb bs 4 = 3
              · exact e
              · rw [if_neg e, if_neg h3] at f2; cases f2
            rw [h3'] at c4
            go_enter Try.func35, Try.ntmps35
            go_wp2_with fail
            refine (prefix_any (HV.out.mod ((Mod.refl [] w).alloc _) (by simp)) hc rules).mono ?_
            rintro e w' ⟨rfl, rfl⟩
            rw [HP.out]
            go_wp2_with fail
            refine wp_region_held [] [2, 6] [] (by kernel_rfl) (by kernel_rfl) ?_
            simp only [wpCut, List.take_succ_cons, List.take_zero, List.drop_succ_cons, List.drop_zero]
            go_wp2_with fail
            refine ⟨by kernel_rfl, ⟨⟨by simp, isc⟩, ⟨by simp, isc⟩, trivial⟩, ?_⟩
            go_wp2_with fail
            refine bodyPost_ret (v := .tuple #[.agg #[.int .i64 3, .int .i64 (nb bs 5), .int .u32 0, .string ⟨#[]⟩, .int .i64 0], .int .i64 (4 + nb bs 3), .int .i64 0]) (by simp [results, Try.results35, go_sem]) rfl ⟨?_, (((Mod.refl [] w).alloc _).alloc _).drew⟩
            rw [HPS.out]
            simp [reqOf, Req.val, h3']
  · obtain ⟨a, c, rfl, hl, hA⟩ := hv.open
    have HV := Lib.hid hv
    have HPS := Lib.hid (parse_fault hp)
    rw [vb_length] at *
    have d0 : ((pfx bs rules : Int) == 0) = false := by simpa using hp
    clear hv hA hp
    go_enter Try.func35, Try.ntmps35
    go_wp2_with fail
    refine (prefix_any (HV.out.mod ((Mod.refl [] w).alloc _) (by simp)) hc rules).mono ?_
    rintro e w' ⟨rfl, rfl⟩
    go_wp2_with fail
    refine bodyPost_ret (v := .tuple #[Req.none.val, .int .i64 0, .int .i64 (pfx bs rules)]) (by simp [results, Try.results35, go_sem, Req.none, Req.val]) rfl ⟨?_, (Mod.refl [] w).alloc _⟩
    rw [HPS.out]; rfl
end Go.Proofs.Ytnhnmpgjbopihaa.Frame
