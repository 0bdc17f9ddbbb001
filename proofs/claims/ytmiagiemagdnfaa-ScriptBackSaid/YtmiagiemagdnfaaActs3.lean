/- script's laws: same: two rows of the same acts. (Written by wip/tools/gsame.py.) -/
import Derived.Test.YtmiagiemagdnfaaActs2
namespace Go.Proofs.Ytmiagiemagdnfaa.Script
open Go Go.RowKit Go.YtmiagiemagdnfaaMem Go.YtmiagiemagdnfaaLex Go.Proofs.Ytmiagiemagdnfaa.Frame
set_option linter.unusedVariables false
set_option linter.unusedSimpArgs false

theorem blk1 (w : World) (cs : List Value) (T : TypeId) (o : Obj) : Blk ((w.alloc (.cells cs.toArray T)).alloc o).drew w.heap.size T cs := ((Blk.new w cs T).alloc o).drew

set_option maxRecDepth 4000 in
set_option maxHeartbeats 3200000 in
theorem same_any {w : World} {v v' : Value} {l : List Raw} (h : VA w v l) (h' : VA w v' l) (hl : l.length ≤ 100000) :
    Calls Try.prog 11 #[v, v'] w fun e w' => e = .returned (.bool true) ∧ Mod [] w w' := by
  obtain ⟨a, c, rfl, hm, hx⟩ := h
  obtain ⟨a', c', rfl, _, hx'⟩ := h'
  have HX := Lib.hid hx
  have HX' := Lib.hid hx'
  clear hx hx'
  go_enter Try.func11, Try.ntmps11
  go_wp2_with fail
  go_loopw [16] (fun i wr => ∃ j : Nat, j ≤ l.length ∧ i = .int .i64 j ∧ Mod [] w wr) (fun i _ => l.length - (intOf i).toNat)
  case atStart => exact ⟨0, Nat.zero_le _, rfl, Mod.refl _ _⟩
  case round =>
    obtain ⟨j, hj, rfl, hM⟩ := hrel
    have MR := Lib.hid hM
    clear hM
    by_cases hlt : j < l.length
    · obtain ⟨q, hq⟩ : ∃ q, l[j]? = some q := ⟨_, List.getElem?_eq_getElem hlt⟩
      obtain ⟨b, off, x, y, p, p', rfl, hat⟩ := HX.out j q hq
      obtain ⟨b2, off2, x2, y2, p2, p2', rfl, hat2⟩ := HX'.out j q hq
      obtain ⟨hb, c0, c1, c2, c3, c4, c5, sd, ss⟩ := hat.mod MR.out
      obtain ⟨hb2, e0, e1, e2, e3, e4, e5, sd2, ss2⟩ := hat2.mod MR.out
      clear hq hat hat2 HX HX'
      obtain ⟨kind, clock, conn, n, data, seeds⟩ := q
      simp only at c0 c1 c2 c3 c4 c5 e0 e1 e2 e3 e4 e5 sd ss sd2 ss2
      have hsl : seeds.length ≤ maxLen := by have := ss.len; rwa [vs_length] at this
      have hsl' : seeds.length ≤ 9223372036854775807 := by unfold maxLen at hsl; omega
      obtain ⟨_, _, es, _, sA⟩ := ss.open
      obtain ⟨_, _, es2, _, sA2⟩ := ss2.open
      rw [vs_length] at es sA es2 sA2
      injection es with es1 es2x es3
      injection es2 with es4 es5 es6
      subst es1 es3 es4 es6
      have SA := Lib.hid sA
      have SA2 := Lib.hid sA2
      have SD := Lib.hid sd
      have SD2 := Lib.hid sd2
      clear ss ss2 sA sA2 sd sd2 es2x es5 hsl
      go_wp2_with fail
      go_region
      · skip
        have cv1 := run_str (P := Try.prog) (SD.out.mod (Mod.drew (Mod.alloc (Mod.alloc (Mod.refl [] wr) (.cells #[.int .i64 kind, .int .i64 clock, .int .i64 conn, .slice x data.length p, .int .i64 n, .slice y seeds.length p'] 28)) (.cells #[.int .i64 kind, .int .i64 clock, .int .i64 conn, .slice x2 data.length p2, .int .i64 n, .slice y2 seeds.length p2'] 28))) (by simp)) Try.underlying22 Try.underlying5 Try.underlying9
        have cv2 := run_str (P := Try.prog) (SD2.out.mod (Mod.drew (Mod.alloc (Mod.alloc (Mod.refl [] wr) (.cells #[.int .i64 kind, .int .i64 clock, .int .i64 conn, .slice x data.length p, .int .i64 n, .slice y seeds.length p'] 28)) (.cells #[.int .i64 kind, .int .i64 clock, .int .i64 conn, .slice x2 data.length p2, .int .i64 n, .slice y2 seeds.length p2'] 28))) (by simp)) Try.underlying22 Try.underlying5 Try.underlying9
        have HW := Lib.hid (MR.out.trans (Mod.drew (Mod.alloc (Mod.alloc (Mod.refl [] wr) (.cells #[.int .i64 kind, .int .i64 clock, .int .i64 conn, .slice x data.length p, .int .i64 n, .slice y seeds.length p'] 28)) (.cells #[.int .i64 kind, .int .i64 clock, .int .i64 conn, .slice x2 data.length p2, .int .i64 n, .slice y2 seeds.length p2'] 28))))
        have HWR := Lib.hid (Mod.drew (Mod.alloc (Mod.alloc (Mod.refl [] wr) (.cells #[.int .i64 kind, .int .i64 clock, .int .i64 conn, .slice x data.length p, .int .i64 n, .slice y seeds.length p'] 28)) (.cells #[.int .i64 kind, .int .i64 clock, .int .i64 conn, .slice x2 data.length p2, .int .i64 n, .slice y2 seeds.length p2'] 28)))
        go_wp2_with fail
        have B6 := Lib.hid (blk1 wr [.int .i64 kind, .int .i64 clock, .int .i64 conn, .slice x data.length p, .int .i64 n, .slice y seeds.length p'] 28 (.cells #[.int .i64 kind, .int .i64 clock, .int .i64 conn, .slice x2 data.length p2, .int .i64 n, .slice y2 seeds.length p2'] 28))
        have B7 := Lib.hid (blk2 wr (.cells #[.int .i64 kind, .int .i64 clock, .int .i64 conn, .slice x data.length p, .int .i64 n, .slice y seeds.length p'] 28) [.int .i64 kind, .int .i64 clock, .int .i64 conn, .slice x2 data.length p2, .int .i64 n, .slice y2 seeds.length p2'] 28)
        generalize hws : ((wr.alloc (.cells #[.int .i64 kind, .int .i64 clock, .int .i64 conn, .slice x data.length p, .int .i64 n, .slice y seeds.length p'] 28)).alloc (.cells #[.int .i64 kind, .int .i64 clock, .int .i64 conn, .slice x2 data.length p2, .int .i64 n, .slice y2 seeds.length p2'] 28)).drew = ws at *
        clear hws cv1 cv2 c0 c1 c2 c3 c4 c5 e0 e1 e2 e3 e4 e5
        go_loopw [74] (fun i wx => ∃ k : Nat, k ≤ seeds.length ∧ i = .int .i64 k ∧ Mod [] ws wx) (fun i _ => seeds.length - (intOf i).toNat)
        case atStart => exact ⟨0, Nat.zero_le _, rfl, Mod.refl _ _⟩
        case round =>
          obtain ⟨k, hk, rfl, hM2⟩ := hrel
          have M2 := Lib.hid hM2
          have f6 := (hM2.blk B6.out (by simp)).cell (i := 5) rfl
          have f7 := (hM2.blk B7.out (by simp)).cell (i := 5) rfl
          clear hM2
          by_cases hkl : k < seeds.length
          · obtain ⟨b3, off3, rfl, hb3, hc3⟩ := SA.out k hkl
            obtain ⟨b4, off4, rfl, hb4, hc4⟩ := SA2.out k hkl
            have MT := HWR.out.trans M2.out
            have g3 := (MT.cell hb3 (by simp)).trans (hc3 k _ (vs_get (List.getElem?_eq_getElem hkl)))
            have g4 := (MT.cell hb4 (by simp)).trans (hc4 k _ (vs_get (List.getElem?_eq_getElem hkl)))
            generalize seeds[k] = sk at *
            clear MT hc3 hc4
            go_wp2_with fail
            refine wp_region_lex (by kernel_rfl) (by kernel_rfl) ?_
            go_wp2_with fail
            refine ⟨by kernel_rfl, ?_⟩
            go_wp2_with fail
            exact ⟨⟨k + 1, by omega, by go_num, M2.out.drew⟩, by simp [intOf]; omega⟩
          · obtain rfl : k = seeds.length := by omega
            go_wp2_with fail
            exact ⟨⟨j + 1, by omega, by go_num, HW.out.trans M2.out⟩, by simp [intOf]; omega⟩
      · skip
        have cv1 := run_str (P := Try.prog) (SD.out.mod (Mod.drew (Mod.alloc (Mod.alloc (Mod.refl [] wr) (.cells #[.int .i64 kind, .int .i64 clock, .int .i64 conn, .slice x2 data.length p2, .int .i64 n, .slice y2 seeds.length p2'] 28)) (.cells #[.int .i64 kind, .int .i64 clock, .int .i64 conn, .slice x data.length p, .int .i64 n, .slice y seeds.length p'] 28))) (by simp)) Try.underlying22 Try.underlying5 Try.underlying9
        have cv2 := run_str (P := Try.prog) (SD2.out.mod (Mod.drew (Mod.alloc (Mod.alloc (Mod.refl [] wr) (.cells #[.int .i64 kind, .int .i64 clock, .int .i64 conn, .slice x2 data.length p2, .int .i64 n, .slice y2 seeds.length p2'] 28)) (.cells #[.int .i64 kind, .int .i64 clock, .int .i64 conn, .slice x data.length p, .int .i64 n, .slice y seeds.length p'] 28))) (by simp)) Try.underlying22 Try.underlying5 Try.underlying9
        have HW := Lib.hid (MR.out.trans (Mod.drew (Mod.alloc (Mod.alloc (Mod.refl [] wr) (.cells #[.int .i64 kind, .int .i64 clock, .int .i64 conn, .slice x2 data.length p2, .int .i64 n, .slice y2 seeds.length p2'] 28)) (.cells #[.int .i64 kind, .int .i64 clock, .int .i64 conn, .slice x data.length p, .int .i64 n, .slice y seeds.length p'] 28))))
        have HWR := Lib.hid (Mod.drew (Mod.alloc (Mod.alloc (Mod.refl [] wr) (.cells #[.int .i64 kind, .int .i64 clock, .int .i64 conn, .slice x2 data.length p2, .int .i64 n, .slice y2 seeds.length p2'] 28)) (.cells #[.int .i64 kind, .int .i64 clock, .int .i64 conn, .slice x data.length p, .int .i64 n, .slice y seeds.length p'] 28)))
        go_wp2_with fail
        have B6 := Lib.hid (blk2 wr (.cells #[.int .i64 kind, .int .i64 clock, .int .i64 conn, .slice x2 data.length p2, .int .i64 n, .slice y2 seeds.length p2'] 28) [.int .i64 kind, .int .i64 clock, .int .i64 conn, .slice x data.length p, .int .i64 n, .slice y seeds.length p'] 28)
        have B7 := Lib.hid (blk1 wr [.int .i64 kind, .int .i64 clock, .int .i64 conn, .slice x2 data.length p2, .int .i64 n, .slice y2 seeds.length p2'] 28 (.cells #[.int .i64 kind, .int .i64 clock, .int .i64 conn, .slice x data.length p, .int .i64 n, .slice y seeds.length p'] 28))
        generalize hws : ((wr.alloc (.cells #[.int .i64 kind, .int .i64 clock, .int .i64 conn, .slice x2 data.length p2, .int .i64 n, .slice y2 seeds.length p2'] 28)).alloc (.cells #[.int .i64 kind, .int .i64 clock, .int .i64 conn, .slice x data.length p, .int .i64 n, .slice y seeds.length p'] 28)).drew = ws at *
        clear hws cv1 cv2 c0 c1 c2 c3 c4 c5 e0 e1 e2 e3 e4 e5
        go_loopw [74] (fun i wx => ∃ k : Nat, k ≤ seeds.length ∧ i = .int .i64 k ∧ Mod [] ws wx) (fun i _ => seeds.length - (intOf i).toNat)
        case atStart => exact ⟨0, Nat.zero_le _, rfl, Mod.refl _ _⟩
        case round =>
          obtain ⟨k, hk, rfl, hM2⟩ := hrel
          have M2 := Lib.hid hM2
          have f6 := (hM2.blk B6.out (by simp)).cell (i := 5) rfl
          have f7 := (hM2.blk B7.out (by simp)).cell (i := 5) rfl
          clear hM2
          by_cases hkl : k < seeds.length
          · obtain ⟨b3, off3, rfl, hb3, hc3⟩ := SA.out k hkl
            obtain ⟨b4, off4, rfl, hb4, hc4⟩ := SA2.out k hkl
            have MT := HWR.out.trans M2.out
            have g3 := (MT.cell hb3 (by simp)).trans (hc3 k _ (vs_get (List.getElem?_eq_getElem hkl)))
            have g4 := (MT.cell hb4 (by simp)).trans (hc4 k _ (vs_get (List.getElem?_eq_getElem hkl)))
            generalize seeds[k] = sk at *
            clear MT hc3 hc4
            go_wp2_with fail
            refine wp_region_lex (by kernel_rfl) (by kernel_rfl) ?_
            go_wp2_with fail
            refine ⟨by kernel_rfl, ?_⟩
            go_wp2_with fail
            exact ⟨⟨k + 1, by omega, by go_num, M2.out.drew⟩, by simp [intOf]; omega⟩
          · obtain rfl : k = seeds.length := by omega
            go_wp2_with fail
            exact ⟨⟨j + 1, by omega, by go_num, HW.out.trans M2.out⟩, by simp [intOf]; omega⟩
    · obtain rfl : j = l.length := by omega
      go_wp2_with fail
      go_ret
      exact ⟨rfl, MR.out⟩
end Go.Proofs.Ytmiagiemagdnfaa.Script
