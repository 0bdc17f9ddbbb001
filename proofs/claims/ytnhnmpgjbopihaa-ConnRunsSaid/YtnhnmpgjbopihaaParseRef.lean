/- The document's frame: Parse, of any bytes. -/
import Derived.Test.YtnhnmpgjbopihaaParse3
namespace Go.Proofs.Ytnhnmpgjbopihaa.Frame
open Go Go.RowKit Go.YtnhnmpgjbopihaaMem Go.YtnhnmpgjbopihaaLex
set_option linter.unusedVariables false
set_option linter.unusedSimpArgs false

theorem parse_at_fault {bs : List UInt8} {rules : Int} {k E : Nat} (hp : pfxTo bs rules k = 0) (hk : k < bs.length) (h4 : k ≤ 3 ∨ k < 4 + nb bs 3) (hf : faultAt bs rules k = E) (hE : E ≠ 0) : parse bs rules = (Req.none, 0, E) := by
  have e1 : pfxTo bs rules (k + 1) = E := by simp [pfxTo, hp, hf]
  have hpf : pfx bs rules = E := by
    unfold pfx
    rw [pfxTo_stay (k := k + 1) (by rw [e1]; exact hE) _ (by unfold lim; omega), e1]
  rw [parse_fault (by rw [hpf]; exact hE), hpf]
theorem pfx_end {bs : List UInt8} {rules : Int} {k : Nat} (hp : pfxTo bs rules k = 0) (hk : k ≤ bs.length) (hend : ¬ (k < bs.length ∧ (k ≤ 3 ∨ k < 4 + nb bs 3))) (h4 : k ≤ 4 ∨ k ≤ 4 + nb bs 3) : pfx bs rules = 0 := by
  unfold pfx lim
  rw [show min bs.length (4 + nb bs 3) = k by omega, hp]
theorem nb_drop {bs : List UInt8} {i j : Nat} : nb (bs.drop i) j = nb bs (i + j) := by
  unfold nb; rw [List.getD_eq_getElem?_getD, List.getD_eq_getElem?_getD, List.getElem?_drop]
theorem num_four {bs : List UInt8} (h : 4 ≤ bs.length) : numOf (bs.take 4) = nb bs 0 * 16777216 + nb bs 1 * 65536 + nb bs 2 * 256 + nb bs 3 := by
  rcases bs with _ | ⟨a, _ | ⟨b, _ | ⟨c, _ | ⟨d, t⟩⟩⟩⟩
  all_goals simp at h
  simp [numOf, nb]; omega
theorem cost_four {bs : List UInt8} (h : 10 ≤ bs.length) : numOf ((bs.drop 6).take 4) = nb bs 6 * 16777216 + nb bs 7 * 65536 + nb bs 8 * 256 + nb bs 9 := by
  rw [num_four (by simp; omega), nb_drop, nb_drop, nb_drop, nb_drop]

theorem pfx_next {bs : List UInt8} {rules : Int} {k : Nat} (hp : pfxTo bs rules k = 0) (hz : faultAt bs rules k = 0) : pfxTo bs rules (k + 1) = 0 := by simp [pfxTo, hp, hz]
theorem fault0 (bs : List UInt8) (r : Int) : faultAt bs r 0 = if nb bs 0 = 167 then 0 else 5 := by simp [faultAt]
theorem fault1 (bs : List UInt8) (r : Int) : faultAt bs r 1 = if nb bs 1 = 1 then 0 else 6 := by simp [faultAt]
theorem fault2 (bs : List UInt8) (r : Int) : faultAt bs r 2 = if nb bs 2 = 0 then 0 else 7 := by simp [faultAt]
theorem fault3 (bs : List UInt8) (r : Int) : faultAt bs r 3 = if nb bs 3 ≠ 2 ∧ nb bs 3 ≠ 3 ∧ (nb bs 3 < 7 ∨ 71 < nb bs 3) then 7 else 0 := by simp [faultAt]
theorem fault4 (bs : List UInt8) (r : Int) : faultAt bs r 4 = if fitsB (nb bs 4) (nb bs 3) = false then 8 else 0 := by simp [faultAt]
theorem fault5 (bs : List UInt8) (r : Int) : faultAt bs r 5 = if r ≤ nb bs 5 then 9 else 0 := by simp [faultAt]
theorem fault10 (bs : List UInt8) (r : Int) : faultAt bs r 10 = if (nb bs 10 : Int) ≠ nb bs 3 - 7 then 10 else 0 := by simp [faultAt]
theorem faultO {bs : List UInt8} {r : Int} {k : Nat} (h0 : k ≠ 0) (h1 : k ≠ 1) (h2 : k ≠ 2) (h3 : k ≠ 3) (h4 : k ≠ 4) (h5 : k ≠ 5) (h10 : k ≠ 10) : faultAt bs r k = 0 := by simp [faultAt, h0, h1, h2, h3, h4, h5, h10]

theorem req7 {bs : List UInt8} (f2 : fitsB (nb bs 4) (nb bs 3) = true) (h : 7 ≤ nb bs 3) : reqOf bs = ⟨nb bs 4, nb bs 5, numOf ((bs.drop 6).take 4), (bs.drop 11).take (nb bs 3 - 7), 0⟩ := by
  have h12 : nb bs 4 = 1 ∨ nb bs 4 = 2 := by
    by_cases h12 : nb bs 4 = 1 ∨ nb bs 4 = 2
    · exact h12
    · unfold fitsB at f2; rw [if_neg h12] at f2
      split at f2
      · simp at f2; omega
      · split at f2
        · simp at f2; omega
        · cases f2
  unfold reqOf
  rw [if_pos h12, if_pos h12, if_neg (by omega)]
theorem req3 {bs : List UInt8} (f2 : fitsB (nb bs 4) (nb bs 3) = true) (h : nb bs 3 = 3) : reqOf bs = ⟨nb bs 4, nb bs 5, 0, [], nb bs 6⟩ := by
  have h4 : nb bs 4 = 4 := by
    unfold fitsB at f2
    split at f2
    · simp at f2; omega
    · split at f2
      · simp at f2; omega
      · split at f2
        · assumption
        · cases f2
  unfold reqOf
  rw [if_neg (by omega), if_neg (by omega), if_pos h4]
theorem req2 {bs : List UInt8} (f2 : fitsB (nb bs 4) (nb bs 3) = true) (h7 : ¬ 7 ≤ nb bs 3) (h : ¬ nb bs 3 = 3) : reqOf bs = ⟨nb bs 4, nb bs 5, 0, [], 0⟩ := by
  have h3 : nb bs 4 = 3 := by
    unfold fitsB at f2
    split at f2
    · simp at f2; omega
    · split at f2
      · assumption
      · split at f2
        · simp at f2; omega
        · cases f2
  unfold reqOf
  rw [if_neg (by omega), if_neg (by omega), if_neg (by omega)]

theorem leafN {bs : List UInt8} {r : Int} {k m : Nat} (hm2 : 4 ≤ k → m = nb bs 3) (a0 : k = 0 → nb bs k = 167) (a1 : k = 1 → nb bs k = 1) (a2 : k = 2 → nb bs k = 0)
    (a3 : k = 3 → nb bs k = 2 ∨ nb bs k = 3 ∨ (7 ≤ nb bs k ∧ nb bs k ≤ 71)) (a4 : k = 4 → (nb bs k = 3 ∧ m = 2) ∨ (nb bs k = 4 ∧ m = 3) ∨ ((nb bs k = 1 ∨ nb bs k = 2) ∧ 7 ≤ m))
    (a5 : k = 5 → (nb bs k : Int) < r) (a10 : k = 10 → (nb bs k : Int) = m - 7) : faultAt bs r k = 0 := by
  by_cases e4 : k = 4
  · obtain rfl := hm2 (by omega)
    have b := a4 e4
    subst e4
    rw [fault4, if_neg]
    unfold fitsB
    split
    · simp; omega
    · split
      · simp; omega
      · split
        · simp; omega
        · omega
  · unfold faultAt
    rw [if_neg (by omega), if_neg (by omega), if_neg (by omega), if_neg (by omega), if_neg (fun h => e4 h.1), if_neg (by omega), if_neg (by omega)]
theorem leafF {bs : List UInt8} {r : Int} {k m E : Nat} (hm2 : 4 ≤ k → m = nb bs 3) (a : (k = 0 ∧ nb bs k ≠ 167 ∧ E = 5) ∨ (k = 1 ∧ nb bs k ≠ 1 ∧ E = 6) ∨ (k = 2 ∧ nb bs k ≠ 0 ∧ E = 7) ∨
    (k = 3 ∧ ¬ (nb bs k = 2 ∨ nb bs k = 3 ∨ (7 ≤ nb bs k ∧ nb bs k ≤ 71)) ∧ E = 7) ∨ (k = 4 ∧ ¬ ((nb bs k = 3 ∧ m = 2) ∨ (nb bs k = 4 ∧ m = 3) ∨ ((nb bs k = 1 ∨ nb bs k = 2) ∧ 7 ≤ m)) ∧ E = 8) ∨
    (k = 5 ∧ r ≤ (nb bs k : Int) ∧ E = 9) ∨ (k = 10 ∧ (nb bs k : Int) ≠ m - 7 ∧ E = 10)) : faultAt bs r k = E := by
  rcases a with ⟨rfl, h, rfl⟩ | ⟨rfl, h, rfl⟩ | ⟨rfl, h, rfl⟩ | ⟨rfl, h, rfl⟩ | ⟨rfl, h, rfl⟩ | ⟨rfl, h, rfl⟩ | ⟨rfl, h, rfl⟩
  · rw [fault0, if_neg h]
  · rw [fault1, if_neg h]
  · rw [fault2, if_neg h]
  · rw [fault3, if_pos (by omega)]
  · obtain rfl := hm2 (by omega)
    rw [fault4, if_pos]
    unfold fitsB
    split
    · simp; omega
    · split
      · simp; omega
      · split
        · simp; omega
        · rfl
  · rw [fault5, if_pos h]
  · rw [fault10]
    obtain rfl := hm2 (by omega)
    rw [if_pos h]

theorem post_fault {bs : List UInt8} {rules : Int} {k : Nat} {E : Nat} {w w' : World} (hM : Mod [] w w') (hp : pfxTo bs rules k = 0) (hk : k < bs.length) (h4 : k ≤ 3 ∨ k < 4 + nb bs 3) (hE : E ≠ 0) (hf : faultAt bs rules k = E) :
    ParsePost bs rules w (.returned (.tuple #[Req.none.val, .int .i64 0, .int .i64 E])) w' := by
  unfold ParsePost
  rw [parse_at_fault hp hk h4 hf hE]
  exact ⟨rfl, hM⟩

set_option maxRecDepth 4000 in
set_option maxHeartbeats 16000000 in
theorem refParse_any {w : World} {v : Value} {bs : List UInt8} (hv : Sl w v (vb bs)) (hc : bs.length ≤ 1000000) (rules : Int) :
    Calls Try.prog 34 #[v, .int .i64 rules] w (ParsePost bs rules w) := by
  rcases hv with ⟨hn, av, capv, rfl⟩ | ⟨b, off, cap, rfl, hc1, hc2, hc3, hcell⟩
  · obtain rfl : bs = [] := by cases bs; rfl; simp [vb] at hn
    go_enter Try.func34, Try.ntmps34
    go_wp2_with fail
    refine wp_loop_once ?_
    go_wp2_with fail
    refine bodyPost_ret (v := .tuple #[Req.none.val, .int .i64 0, .int .i64 0]) (by simp [results, Try.results34, go_sem, Req.none, Req.val]) rfl ⟨?_, (Mod.refl [] w).alloc _⟩
    rw [parse_short rfl (.inr (by decide))]; rfl
  · rw [vb_length] at *
    have HC := Lib.hid hcell
    clear hcell
    go_enter Try.func34, Try.ntmps34
    go_wp2_with fail
    go_loopw [7, 8] (fun n i wr => ∃ k m : Nat, k ≤ bs.length ∧ i = .int .i64 k ∧ n = .int .i64 m ∧ (k ≤ 3 → m = 0) ∧ (4 ≤ k → m = nb bs 3) ∧ pfxTo bs rules k = 0 ∧ (k ≤ 4 ∨ k ≤ 4 + nb bs 3) ∧ wr = w.alloc (.cells #[.int .i64 0, .int .i64 0, .int .u32 0, .string ⟨#[]⟩, .int .i64 0] 50)) (fun _ i _ => bs.length - (intOf i).toNat)
    case atStart => exact ⟨0, 0, Nat.zero_le _, rfl, rfl, fun _ => rfl, fun h => by omega, rfl, by omega, rfl⟩
    case round =>
      obtain ⟨k, m, hk, rfl, rfl, hm1, hm2, hp, h4, rfl⟩ := hrel
      have HP := Lib.hid hp
      have n3 := nb_lt bs 3
      clear hp
      by_cases hgo : k < bs.length ∧ (k ≤ 3 ∨ k < 4 + nb bs 3)
      · obtain ⟨hlt, hg⟩ := hgo
        have ck : w.cell? ⟨b, off + k, none⟩ = some (.int .u8 (nb bs k)) := HC.out k _ (nb_get hlt)
        have nk := nb_lt bs k
        have hgm : (k : Int) ≤ 3 ∨ (k : Int) < 4 + m := by omega
        go_wp2
        all_goals (try simp only [Bool.not_eq_eq_eq_not, Bool.not_true, Bool.not_false, beq_eq_false_iff_ne, beq_iff_eq, bne_iff_ne, bne_eq_false_iff_eq, decide_eq_false_iff_not, decide_eq_true_eq, ne_eq] at *)
        all_goals (try (have hk0 : k = 0 := (by assumption); subst hk0))
        all_goals first
          | (refine bodyPost_ret (v := .tuple #[Req.none.val, .int .i64 0, .int .i64 5]) (by simp [results, Try.results34, go_sem, Req.none, Req.val]) rfl ?_
             exact post_fault (E := 5) ((Mod.refl [] w).alloc _) HP.out hlt hg (by decide) (leafF hm2 (by omega)))
          | (refine bodyPost_ret (v := .tuple #[Req.none.val, .int .i64 0, .int .i64 6]) (by simp [results, Try.results34, go_sem, Req.none, Req.val]) rfl ?_
             exact post_fault (E := 6) ((Mod.refl [] w).alloc _) HP.out hlt hg (by decide) (leafF hm2 (by omega)))
          | (refine bodyPost_ret (v := .tuple #[Req.none.val, .int .i64 0, .int .i64 7]) (by simp [results, Try.results34, go_sem, Req.none, Req.val]) rfl ?_
             exact post_fault (E := 7) ((Mod.refl [] w).alloc _) HP.out hlt hg (by decide) (leafF hm2 (by omega)))
          | (refine bodyPost_ret (v := .tuple #[Req.none.val, .int .i64 0, .int .i64 8]) (by simp [results, Try.results34, go_sem, Req.none, Req.val]) rfl ?_
             exact post_fault (E := 8) ((Mod.refl [] w).alloc _) HP.out hlt hg (by decide) (leafF hm2 (by omega)))
          | (refine bodyPost_ret (v := .tuple #[Req.none.val, .int .i64 0, .int .i64 9]) (by simp [results, Try.results34, go_sem, Req.none, Req.val]) rfl ?_
             exact post_fault (E := 9) ((Mod.refl [] w).alloc _) HP.out hlt hg (by decide) (leafF hm2 (by omega)))
          | (refine bodyPost_ret (v := .tuple #[Req.none.val, .int .i64 0, .int .i64 10]) (by simp [results, Try.results34, go_sem, Req.none, Req.val]) rfl ?_
             exact post_fault (E := 10) ((Mod.refl [] w).alloc _) HP.out hlt hg (by decide) (leafF hm2 (by omega)))
          | exact ⟨⟨k + 1, m, by omega, (by first | rfl | go_num | (congr 1; omega)), (by first | rfl | go_num | (congr 1; omega)), fun h => by omega, fun h => by omega, pfx_next HP.out (leafN hm2 (by omega) (by omega) (by omega) (by omega) (by omega) (by omega) (by omega)), by omega, trivial⟩, by simp [intOf]; omega⟩
          | exact ⟨⟨k + 1, nb bs k, by omega, (by first | rfl | go_num | (congr 1; omega)), (by first | rfl | go_num | (congr 1; omega)), fun h => by omega, fun h => (by obtain rfl : k = 3 := (by omega); rfl), pfx_next HP.out (leafN hm2 (by omega) (by omega) (by omega) (by omega) (by omega) (by omega) (by omega)), by omega, trivial⟩, by simp [intOf]; omega⟩
          | exact ⟨⟨0 + 1, m, by omega, (by first | rfl | go_num | (congr 1; omega)), (by first | rfl | go_num | (congr 1; omega)), fun h => by omega, fun h => by omega, pfx_next HP.out (leafN hm2 (by omega) (by omega) (by omega) (by omega) (by omega) (by omega) (by omega)), by omega, trivial⟩, by simp [intOf]; omega⟩
          | skip
      · have hpf := pfx_end HP.out hk hgo h4
        have HPF := Lib.hid hpf
        clear hpf
        by_cases hs : bs.length < 4 ∨ bs.length < 4 + nb bs 3
        · obtain rfl : k = bs.length := by omega
          have HPS := Lib.hid (parse_short HPF.out (by omega))
          by_cases h44 : bs.length < 4
          · have d4 : decide ((bs.length : Int) < 4) = true := by simp; omega
            go_wp2_with fail
            refine bodyPost_ret (v := .tuple #[Req.none.val, .int .i64 0, .int .i64 0]) (by simp [results, Try.results34, go_sem, Req.none, Req.val]) rfl ⟨?_, (Mod.refl [] w).alloc _⟩
            rw [HPS.out]; rfl
          · obtain rfl := hm2 (by omega)
            have d4 : decide ((bs.length : Int) < 4) = false := by simp; omega
            have d5 : decide ((bs.length : Int) < 4 + nb bs 3) = true := by simp; omega
            go_wp2_with fail
            refine bodyPost_ret (v := .tuple #[Req.none.val, .int .i64 0, .int .i64 0]) (by simp [results, Try.results34, go_sem, Req.none, Req.val]) rfl ⟨?_, (Mod.refl [] w).alloc _⟩
            rw [HPS.out]; rfl
        · obtain rfl := hm2 (by omega)
          clear hm1 hm2
          obtain ⟨f1, f2, f3, f4, _⟩ := parse_facts HPF.out (by omega) (by omega)
          have HPS := Lib.hid (parse_ok HPF.out (by omega) (by omega))
          have hsz : 6 ≤ bs.length := by omega
          have n5 := nb_lt bs 5
          have n4 := nb_lt bs 4
          have d4 : decide ((bs.length : Int) < 4) = false := by simp; omega
          have d5 : decide ((bs.length : Int) < 4 + nb bs 3) = false := by simp; omega
          have c4 : w.cell? ⟨b, off + 4, none⟩ = some (.int .u8 (nb bs 4)) := HC.out 4 _ (nb_get (by omega))
          have c5 : w.cell? ⟨b, off + 5, none⟩ = some (.int .u8 (nb bs 5)) := HC.out 5 _ (nb_get (by omega))
          have isc : IsC (w.alloc (.cells #[.int .i64 0, .int .i64 0, .int .u32 0, .string ⟨#[]⟩, .int .i64 0] 50)) b := isC_of_cell (((Mod.refl [] w).alloc (.cells Req.none.cells.toArray 50)).cell hc3 (by simp) |>.trans c4)
          by_cases h7 : 7 ≤ nb bs 3
          · have d7 : decide ((7 : Int) ≤ nb bs 3) = true := by simp; omega
            have HRQ := Lib.hid (req7 f2 h7)
            have n6 := nb_lt bs 6
            have n7 := nb_lt bs 7
            have n8 := nb_lt bs 8
            have n9 := nb_lt bs 9
            have c6 : w.cell? ⟨b, off + 6, none⟩ = some (.int .u8 (nb bs 6)) := HC.out 6 _ (nb_get (by omega))
            have c7 : w.cell? ⟨b, off + 7, none⟩ = some (.int .u8 (nb bs 7)) := HC.out 7 _ (nb_get (by omega))
            have c8 : w.cell? ⟨b, off + 8, none⟩ = some (.int .u8 (nb bs 8)) := HC.out 8 _ (nb_get (by omega))
            have c9 : w.cell? ⟨b, off + 9, none⟩ = some (.int .u8 (nb bs 9)) := HC.out 9 _ (nb_get (by omega))
            by_cases hlt : k < bs.length
            · have ck : w.cell? ⟨b, off + k, none⟩ = some (.int .u8 (nb bs k)) := HC.out k _ (nb_get hlt)
              have d3 : decide ((3 : Int) < k) = true := by simp; omega
              have ds : decide ((4 : Int) + nb bs 3 ≤ k) = true := by simp; omega
              go_wp2_with fail
              refine wp_region_held [] [2, 6] [] (by kernel_rfl) (by kernel_rfl) ?_
              simp only [wpCut, List.take_succ_cons, List.take_zero, List.drop_succ_cons, List.drop_zero]
              go_wp2_with fail
              refine ⟨by kernel_rfl, ⟨⟨by simp, isc⟩, ⟨by simp, isc⟩, trivial⟩, ?_⟩
              go_wp2_with fail
              refine wp_region_lex (by kernel_rfl) (by kernel_rfl) ?_
              go_wp2_with fail
              refine ⟨by kernel_rfl, ?_⟩
              have hW : Mod [] w (((w.alloc (.cells #[.int .i64 0, .int .i64 0, .int .u32 0, .string ⟨#[]⟩, .int .i64 0] 50)).alloc (.cells #[.int .i64 (nb bs 4), .int .i64 (nb bs 5), .int .u32 ((nb bs 6 : Int) * 16777216 + (nb bs 7 : Int) * 65536 + (nb bs 8 : Int) * 256 + (nb bs 9 : Int)), .string ⟨#[]⟩, .int .i64 0] 50)).drew.drew) := (((Mod.refl [] w).alloc _).alloc _).drew.drew
              by_cases hcap : cap = 11
              · subst hcap
                have hn7 : nb bs 3 = 7 := by omega
                have h10 : 10 ≤ bs.length := by omega
                clear f4 h4 hgo f1 f2 f3 hs
                have hcv := run_str (P := Try.prog) (bs := []) (Sl.nil (((w.alloc (.cells #[.int .i64 0, .int .i64 0, .int .u32 0, .string ⟨#[]⟩, .int .i64 0] 50)).alloc (.cells #[.int .i64 (nb bs 4), .int .i64 (nb bs 5), .int .u32 ((nb bs 6 : Int) * 16777216 + (nb bs 7 : Int) * 65536 + (nb bs 8 : Int) * 256 + (nb bs 9 : Int)), .string ⟨#[]⟩, .int .i64 0] 50)).drew.drew) (some ⟨b, off, none⟩) 0) Try.underlying22 Try.underlying5 Try.underlying9
                have HW := Lib.hid hW
                clear hW
                go_wp2_with fail
                refine bodyPost_ret (v := .tuple #[.agg #[.int .i64 (nb bs 4), .int .i64 (nb bs 5), .int .u32 ((nb bs 6 : Int) * 16777216 + (nb bs 7 : Int) * 65536 + (nb bs 8 : Int) * 256 + (nb bs 9 : Int)), .string ⟨([] : List UInt8).toArray⟩, .int .i64 0], .int .i64 11, .int .i64 0]) (by simp [results, Try.results34, go_sem]) rfl ⟨?_, (((Mod.refl [] w).alloc _).alloc _).drew.drew⟩
                rw [HPS.out, HRQ.out, cost_four h10, hn7]
                simp [Req.val]
              · have e7 : 4 + nb bs 3 - 11 = nb bs 3 - 7 := by omega
                have hcv := run_str (P := Try.prog) (Sl.part (w := (((w.alloc (.cells #[.int .i64 0, .int .i64 0, .int .u32 0, .string ⟨#[]⟩, .int .i64 0] 50)).alloc (.cells #[.int .i64 (nb bs 4), .int .i64 (nb bs 5), .int .u32 ((nb bs 6 : Int) * 16777216 + (nb bs 7 : Int) * 65536 + (nb bs 8 : Int) * 256 + (nb bs 9 : Int)), .string ⟨#[]⟩, .int .i64 0] 50)).drew.drew)) (b := b) (off := off) (c := cap - 11) (i := 11) (m := nb bs 3 - 7) (bs := bs) (hW.lt hc3) (fun i u hu => (hW.cell hc3 (by simp)).trans (HC.out i u hu)) (by omega) (by omega) (by omega)) Try.underlying22 Try.underlying5 Try.underlying9
                have HW := Lib.hid hW
                clear hW
                go_wp2_with fail
                refine bodyPost_ret (v := .tuple #[.agg #[.int .i64 (nb bs 4), .int .i64 (nb bs 5), .int .u32 ((nb bs 6 : Int) * 16777216 + (nb bs 7 : Int) * 65536 + (nb bs 8 : Int) * 256 + (nb bs 9 : Int)), .string ⟨(((bs.drop 11).take (nb bs 3 - 7)) : List UInt8).toArray⟩, .int .i64 0], .int .i64 (4 + nb bs 3), .int .i64 0]) (by simp [results, Try.results34, go_sem]) rfl ⟨?_, (((Mod.refl [] w).alloc _).alloc _).drew.drew⟩
                rw [HPS.out, HRQ.out, cost_four (by omega)]
                simp [Req.val]
            · obtain rfl : k = bs.length := by omega
              go_wp2_with fail
              refine wp_region_held [] [2, 6] [] (by kernel_rfl) (by kernel_rfl) ?_
              simp only [wpCut, List.take_succ_cons, List.take_zero, List.drop_succ_cons, List.drop_zero]
              go_wp2_with fail
              refine ⟨by kernel_rfl, ⟨⟨by simp, isc⟩, ⟨by simp, isc⟩, trivial⟩, ?_⟩
              go_wp2_with fail
              refine wp_region_lex (by kernel_rfl) (by kernel_rfl) ?_
              go_wp2_with fail
              refine ⟨by kernel_rfl, ?_⟩
              have hW : Mod [] w (((w.alloc (.cells #[.int .i64 0, .int .i64 0, .int .u32 0, .string ⟨#[]⟩, .int .i64 0] 50)).alloc (.cells #[.int .i64 (nb bs 4), .int .i64 (nb bs 5), .int .u32 ((nb bs 6 : Int) * 16777216 + (nb bs 7 : Int) * 65536 + (nb bs 8 : Int) * 256 + (nb bs 9 : Int)), .string ⟨#[]⟩, .int .i64 0] 50)).drew.drew) := (((Mod.refl [] w).alloc _).alloc _).drew.drew
              by_cases hcap : cap = 11
              · subst hcap
                have hn7 : nb bs 3 = 7 := by omega
                have h10 : 10 ≤ bs.length := by omega
                clear f4 h4 hgo f1 f2 f3 hs
                have hcv := run_str (P := Try.prog) (bs := []) (Sl.nil (((w.alloc (.cells #[.int .i64 0, .int .i64 0, .int .u32 0, .string ⟨#[]⟩, .int .i64 0] 50)).alloc (.cells #[.int .i64 (nb bs 4), .int .i64 (nb bs 5), .int .u32 ((nb bs 6 : Int) * 16777216 + (nb bs 7 : Int) * 65536 + (nb bs 8 : Int) * 256 + (nb bs 9 : Int)), .string ⟨#[]⟩, .int .i64 0] 50)).drew.drew) (some ⟨b, off, none⟩) 0) Try.underlying22 Try.underlying5 Try.underlying9
                have HW := Lib.hid hW
                clear hW
                go_wp2_with fail
                refine bodyPost_ret (v := .tuple #[.agg #[.int .i64 (nb bs 4), .int .i64 (nb bs 5), .int .u32 ((nb bs 6 : Int) * 16777216 + (nb bs 7 : Int) * 65536 + (nb bs 8 : Int) * 256 + (nb bs 9 : Int)), .string ⟨([] : List UInt8).toArray⟩, .int .i64 0], .int .i64 11, .int .i64 0]) (by simp [results, Try.results34, go_sem]) rfl ⟨?_, (((Mod.refl [] w).alloc _).alloc _).drew.drew⟩
                rw [HPS.out, HRQ.out, cost_four h10, hn7]
                simp [Req.val]
              · have e7 : 4 + nb bs 3 - 11 = nb bs 3 - 7 := by omega
                have hcv := run_str (P := Try.prog) (Sl.part (w := (((w.alloc (.cells #[.int .i64 0, .int .i64 0, .int .u32 0, .string ⟨#[]⟩, .int .i64 0] 50)).alloc (.cells #[.int .i64 (nb bs 4), .int .i64 (nb bs 5), .int .u32 ((nb bs 6 : Int) * 16777216 + (nb bs 7 : Int) * 65536 + (nb bs 8 : Int) * 256 + (nb bs 9 : Int)), .string ⟨#[]⟩, .int .i64 0] 50)).drew.drew)) (b := b) (off := off) (c := cap - 11) (i := 11) (m := nb bs 3 - 7) (bs := bs) (hW.lt hc3) (fun i u hu => (hW.cell hc3 (by simp)).trans (HC.out i u hu)) (by omega) (by omega) (by omega)) Try.underlying22 Try.underlying5 Try.underlying9
                have HW := Lib.hid hW
                clear hW
                go_wp2_with fail
                refine bodyPost_ret (v := .tuple #[.agg #[.int .i64 (nb bs 4), .int .i64 (nb bs 5), .int .u32 ((nb bs 6 : Int) * 16777216 + (nb bs 7 : Int) * 65536 + (nb bs 8 : Int) * 256 + (nb bs 9 : Int)), .string ⟨(((bs.drop 11).take (nb bs 3 - 7)) : List UInt8).toArray⟩, .int .i64 0], .int .i64 (4 + nb bs 3), .int .i64 0]) (by simp [results, Try.results34, go_sem]) rfl ⟨?_, (((Mod.refl [] w).alloc _).alloc _).drew.drew⟩
                rw [HPS.out, HRQ.out, cost_four (by omega)]
                simp [Req.val]
          · have d7 : decide ((7 : Int) ≤ nb bs 3) = false := by simp; omega
            by_cases h3 : nb bs 3 = 3
            · have d3' : ((nb bs 3 : Int) == 3) = true := by simp; omega
              have HRQ := Lib.hid (req3 f2 h3)
              have n6 := nb_lt bs 6
              have c6 : w.cell? ⟨b, off + 6, none⟩ = some (.int .u8 (nb bs 6)) := HC.out 6 _ (nb_get (by omega))
              by_cases hlt : k < bs.length
              · have ck : w.cell? ⟨b, off + k, none⟩ = some (.int .u8 (nb bs k)) := HC.out k _ (nb_get hlt)
                have d3 : decide ((3 : Int) < k) = true := by simp; omega
                have ds : decide ((4 : Int) + nb bs 3 ≤ k) = true := by simp; omega
                go_wp2_with fail
                refine wp_region_held [] [2, 6] [] (by kernel_rfl) (by kernel_rfl) ?_
                simp only [wpCut, List.take_succ_cons, List.take_zero, List.drop_succ_cons, List.drop_zero]
                go_wp2_with fail
                refine ⟨by kernel_rfl, ⟨⟨by simp, isc⟩, ⟨by simp, isc⟩, trivial⟩, ?_⟩
                go_wp2_with fail
                refine bodyPost_ret (v := .tuple #[.agg #[.int .i64 (nb bs 4), .int .i64 (nb bs 5), .int .u32 0, .string ⟨#[]⟩, .int .i64 (nb bs 6)], .int .i64 7, .int .i64 0]) (by simp [results, Try.results34, go_sem]) rfl ⟨?_, (((Mod.refl [] w).alloc _).alloc _).drew⟩
                rw [HPS.out, HRQ.out, h3]
                rfl
              · obtain rfl : k = bs.length := by omega
                go_wp2_with fail
                refine wp_region_held [] [2, 6] [] (by kernel_rfl) (by kernel_rfl) ?_
                simp only [wpCut, List.take_succ_cons, List.take_zero, List.drop_succ_cons, List.drop_zero]
                go_wp2_with fail
                refine ⟨by kernel_rfl, ⟨⟨by simp, isc⟩, ⟨by simp, isc⟩, trivial⟩, ?_⟩
                go_wp2_with fail
                refine bodyPost_ret (v := .tuple #[.agg #[.int .i64 (nb bs 4), .int .i64 (nb bs 5), .int .u32 0, .string ⟨#[]⟩, .int .i64 (nb bs 6)], .int .i64 7, .int .i64 0]) (by simp [results, Try.results34, go_sem]) rfl ⟨?_, (((Mod.refl [] w).alloc _).alloc _).drew⟩
                rw [HPS.out, HRQ.out, h3]
                rfl
            · have d3' : ((nb bs 3 : Int) == 3) = false := by simp; omega
              have HRQ := Lib.hid (req2 f2 h7 h3)
              by_cases hlt : k < bs.length
              · have ck : w.cell? ⟨b, off + k, none⟩ = some (.int .u8 (nb bs k)) := HC.out k _ (nb_get hlt)
                have d3 : decide ((3 : Int) < k) = true := by simp; omega
                have ds : decide ((4 : Int) + nb bs 3 ≤ k) = true := by simp; omega
                go_wp2_with fail
                refine wp_region_held [] [2, 6] [] (by kernel_rfl) (by kernel_rfl) ?_
                simp only [wpCut, List.take_succ_cons, List.take_zero, List.drop_succ_cons, List.drop_zero]
                go_wp2_with fail
                refine ⟨by kernel_rfl, ⟨⟨by simp, isc⟩, ⟨by simp, isc⟩, trivial⟩, ?_⟩
                go_wp2_with fail
                refine bodyPost_ret (v := .tuple #[.agg #[.int .i64 (nb bs 4), .int .i64 (nb bs 5), .int .u32 0, .string ⟨#[]⟩, .int .i64 0], .int .i64 (4 + nb bs 3), .int .i64 0]) (by simp [results, Try.results34, go_sem]) rfl ⟨?_, (((Mod.refl [] w).alloc _).alloc _).drew⟩
                rw [HPS.out, HRQ.out]
                rfl
              · obtain rfl : k = bs.length := by omega
                go_wp2_with fail
                refine wp_region_held [] [2, 6] [] (by kernel_rfl) (by kernel_rfl) ?_
                simp only [wpCut, List.take_succ_cons, List.take_zero, List.drop_succ_cons, List.drop_zero]
                go_wp2_with fail
                refine ⟨by kernel_rfl, ⟨⟨by simp, isc⟩, ⟨by simp, isc⟩, trivial⟩, ?_⟩
                go_wp2_with fail
                refine bodyPost_ret (v := .tuple #[.agg #[.int .i64 (nb bs 4), .int .i64 (nb bs 5), .int .u32 0, .string ⟨#[]⟩, .int .i64 0], .int .i64 (4 + nb bs 3), .int .i64 0]) (by simp [results, Try.results34, go_sem]) rfl ⟨?_, (((Mod.refl [] w).alloc _).alloc _).drew⟩
                rw [HPS.out, HRQ.out]
                rfl
end Go.Proofs.Ytnhnmpgjbopihaa.Frame
