/- limiter's laws: LimiterEvents. No condition. (written by wip/tools) -/
import Derived.Test.YtndekdafiaogmaaZLimC
import Derived.Test.YtndekdafiaogmaaZLimPlain8
import Derived.Test.YtndekdafiaogmaaZPerm
import Derived.Test.YtndekdafiaogmaaZLow
section
namespace Go.Proofs.Ytndekdafiaogmaa.Lim
open Go Go.RowKit Go.YtndekdafiaogmaaMem Go.YtndekdafiaogmaaLex Go.Proofs.Ytndekdafiaogmaa.Hash Go.Proofs.Ytndekdafiaogmaa.Arith Go.Proofs.Ytndekdafiaogmaa.Index Go.Proofs.Ytndekdafiaogmaa.Cell Go.Proofs.Ytndekdafiaogmaa.Slot
open Go.Proofs.Ytndekdafiaogmaa.Pool (PS putP remP pairs PB PoolAt firstIdle)
open Go.Proofs.Ytndekdafiaogmaa.Ring (Rs RiB RingAt estS addR waitS massS Small small_get leastV leastV_small ring0)
open Go.Proofs.Ytndekdafiaogmaa.Sum (Ent OkE SB SumAt countE leastOf)
set_option linter.unusedVariables false
set_option linter.unusedSimpArgs false

theorem zero_bool (w : World) : (zeroValue 4).run Try.prog w = .ok (.bool false) w := by kernel_rfl
theorem text_key (k : List UInt8) (hl : k.length ≤ maxLen) : keyOf Try.prog 9 (.string ⟨k.toArray⟩) = some (.string k) := key_str Try.underlying9 hl
theorem tot_field3 (a b c d e : Int) (w : World) : (Instr.field 49 (.agg #[.int .i64 a, .int .i64 b, .int .i64 c, .int .i64 d, .int .i64 e]) 3).run Try.prog w = .ok (.int .i64 d) w := by kernel_rfl
abbrev SK := Maps.string_keyed Try.underlying9
abbrev MT := MapG Try.prog 9
/-- The map has just the keys with places. -/
def AgreeM (f : Lit → Option Value) (S : List (Option (List UInt8))) : Prop := ∀ k, (In S k → f (.string k) = some (.bool true)) ∧ (¬ In S k → f (.string k) = none)
noncomputable def evF (q : (Lit → Option Value) × Nat) (e : Ev) : (Lit → Option Value) × Nat :=
  if e.up then (updG q.1 (.string e.key) (some (.bool true)), if (q.1 (.string e.key)).isSome then q.2 else q.2 + 1)
  else (updG (updG q.1 (.string e.key) (some (.bool false))) (.string e.key) none, (if (q.1 (.string e.key)).isSome then q.2 else q.2 + 1) - (if (updG q.1 (.string e.key) (some (.bool false)) (.string e.key)).isSome then 1 else 0))
/-- The map behind the first j events. -/
noncomputable def evTo (f : Lit → Option Value) (u : Nat) (ev : List Ev) (j : Nat) : (Lit → Option Value) × Nat := (ev.take j).foldl evF (f, u)
theorem evTo_next {f : Lit → Option Value} {u : Nat} {ev : List Ev} {j : Nat} {e : Ev} (h : ev[j]? = some e) : evTo f u ev (j + 1) = evF (evTo f u ev j) e := by
  unfold evTo
  obtain ⟨hj, rfl⟩ := List.getElem?_eq_some_iff.1 h
  rw [List.take_succ_eq_append_getElem hj, List.foldl_append]
  rfl
structure Turns (f : Lit → Option Value) (u : Nat) (S' : List (Option (List UInt8))) (key : List UInt8) (now : Int) (ev : List Ev) : Prop where
  each : ∀ j e, ev[j]? = some e → e.at_ = now ∧ e.key.length ≤ 64 ∧ (e.up = true → e.key = key ∧ (evTo f u ev j).1 (.string e.key) = none) ∧ (e.up = false → (evTo f u ev j).1 (.string e.key) = some (.bool true))
  agree : AgreeM (evTo f u ev ev.length).1 S'
  cnt : (evTo f u ev ev.length).2 = Keys.used S'
theorem str_ne {a b : List UInt8} (h : a ≠ b) : Lit.string a ≠ Lit.string b := fun hh => by cases hh; exact h rfl
theorem turns_of {S S' : List (Option (List UInt8))} {key : List UInt8} {now : Int} {ev : List Ev} {f : Lit → Option Value} (h : Told S S' key now ev) (hf : AgreeM f S) (hs : ∀ k, In S k → k.length ≤ 64) (hk : key.length ≤ 64) (h1 : ∀ k, In S k → 1 ≤ Keys.used S) : Turns f (Keys.used S) S' key now ev := by
  cases h with
  | none h => subst h; exact ⟨fun j e he => by simp at he, hf, rfl⟩
  | up g1 g2 g3 =>
    have hn := (hf key).2 g1
    have e1 : evTo f (Keys.used S) [⟨key, true, now⟩] 1 = (updG f (.string key) (some (.bool true)), Keys.used S + 1) := by
      unfold evTo evF; simp [hn]
    refine ⟨fun j e he => ?_, fun k => ?_, ?_⟩
    · cases j with
      | zero => simp at he; subst he; exact ⟨rfl, hk, fun _ => ⟨rfl, hn⟩, (fun h => by cases h)⟩
      | succ j => simp at he
    · show (In S' k → (evTo f (Keys.used S) [⟨key, true, now⟩] 1).1 _ = _) ∧ (¬ In S' k → (evTo f (Keys.used S) [⟨key, true, now⟩] 1).1 _ = _)
      rw [e1, g2]
      simp only
      by_cases hkk : k = key
      · subst hkk; rw [updG_same]; exact ⟨fun _ => rfl, fun h => absurd (.inr rfl) h⟩
      · rw [updG_other (str_ne hkk)]
        exact ⟨fun h => (hf k).1 (h.resolve_right hkk), fun h => (hf k).2 (fun hi => h (.inl hi))⟩
    · show (evTo f (Keys.used S) [⟨key, true, now⟩] 1).2 = _
      rw [e1, g3]
  | turn out g0 g1 g2 g3 =>
    have hn := (hf key).2 g1
    have ho := (hf out).1 g0
    have hne : key ≠ out := fun hh => g1 (hh ▸ g0)
    have hu := h1 out g0
    have e1 : evTo f (Keys.used S) [⟨out, false, now⟩, ⟨key, true, now⟩] 1 = (updG (updG f (.string out) (some (.bool false))) (.string out) none, Keys.used S - 1) := by
      unfold evTo evF; simp [ho, updG_same]
    have hk1 : (updG (updG f (.string out) (some (.bool false))) (.string out) none) (.string key) = none := by
      rw [updG_other (str_ne hne), updG_other (str_ne hne)]; exact hn
    have e2 : evTo f (Keys.used S) [⟨out, false, now⟩, ⟨key, true, now⟩] 2 = (updG (updG (updG f (.string out) (some (.bool false))) (.string out) none) (.string key) (some (.bool true)), Keys.used S - 1 + 1) := by
      rw [evTo_next (j := 1) (e := ⟨key, true, now⟩) rfl, e1]
      unfold evF
      simp only [if_true]
      rw [hk1]; rfl
    refine ⟨fun j e he => ?_, fun k => ?_, ?_⟩
    · match j, he with
      | 0, he => simp at he; subst he; exact ⟨rfl, hs out g0, (fun h => by cases h), fun _ => ho⟩
      | 1, he => simp at he; subst he; exact ⟨rfl, hk, fun _ => ⟨rfl, by rw [e1]; exact hk1⟩, (fun h => by cases h)⟩
      | j + 2, he => simp at he
    · show (In S' k → (evTo f (Keys.used S) [⟨out, false, now⟩, ⟨key, true, now⟩] 2).1 _ = _) ∧ (¬ In S' k → (evTo f (Keys.used S) [⟨out, false, now⟩, ⟨key, true, now⟩] 2).1 _ = _)
      rw [e2, g2]
      simp only
      by_cases hkk : k = key
      · subst hkk; rw [updG_same]; exact ⟨fun _ => rfl, fun h => absurd (.inr rfl) h⟩
      · rw [updG_other (str_ne hkk)]
        by_cases hko : k = out
        · subst hko
          rw [updG_same]
          exact ⟨fun h => by rcases h with ⟨_, h⟩ | h; exact absurd rfl h; exact absurd h hkk, fun _ => rfl⟩
        · rw [updG_other (str_ne hko), updG_other (str_ne hko)]
          exact ⟨fun h => (hf k).1 (h.resolve_right hkk).1, fun h => (hf k).2 (fun hi => h (.inl ⟨hi, hko⟩))⟩
    · show (evTo f (Keys.used S) [⟨out, false, now⟩, ⟨key, true, now⟩] 2).2 = _
      rw [e2, g3]
      simp only
      omega
theorem used_pos {S : List (Option (List UInt8))} {k : List UInt8} (h : In S k) : 1 ≤ Keys.used S := by
  obtain ⟨p, hp⟩ := h
  unfold Keys.used
  refine List.countP_pos_iff.2 ⟨some k, List.mem_of_getElem? hp, rfl⟩
theorem LimAt.short {w : World} {B : LB} {c : Cf} {s : Lm} (h : LimAt w B c s) {k : List UInt8} (hk : In s.pool.S k) : k.length ≤ 64 := by
  obtain ⟨p, hp⟩ := hk
  exact h.pool.idx.short hp
theorem check_evs {c : Cf} {s : Lm} {now held cost : Int} {key : List UInt8} : (check c s now held key cost).2.1.length ≤ 2 := by
  unfold check
  split
  · simp
  · simp only
    unfold settle
    split
    · simp
    · split
      · split <;> simp
      · simp
set_option maxRecDepth 8000 in
set_option maxHeartbeats 12800000 in
theorem events_main (w : World) (p : Plan) (v : Value) (ds : List Nat) (hd : Sl w v (v64 ds)) (hdx : ∀ x, x ∈ ds → x < 18446744073709551616) (hd60 : ds.length ≤ 60) (a : Option Addr) (cp : Nat) (l : List Call) (hm : l.length ≤ maxLen) (hP : InRow w a 4 Call.cells l) (hL : lightB l = true) :
    Calls Try.prog 5 #[p.val, v, .slice a l.length cp] w fun e w' => e = .returned (.bool true) ∧ Mod [] w w' := by
  obtain ⟨hl150, hkeys⟩ := light_spec hL
  obtain ⟨hro, hlim⟩ := rule_ok p
  have LI := Lib.hid (fun W (hM : Mod [] w W) => light_any (inrow_mod hP hM) hm cp)
  rw [hL] at LI
  have GET := Lib.hid (fun j q (hq : l[j]? = some q) => inrow_get hP hq)
  have KEY := Lib.hid (fun j q (hq : l[j]? = some q) => hkeys q (List.mem_of_getElem? hq))
  have RU := Lib.hid (fun W : World => rule_any p W)
  have hrg0 : RingOf (cfOf p.rule ds) (new0 (cfOf p.rule ds)).ring := ring_of0 (rule_ok p).1
  obtain ⟨r, hr⟩ : ∃ r, p.rule = r := ⟨_, rfl⟩
  rw [hr] at RU hro hlim hrg0
  have HRO := Lib.hid hro
  have NW := Lib.hid (fun (W : World) (hM : Mod [] w W) => new_any (hd.mod hM (by simp)) hdx r hro)
  have CO := Lib.hid (fun z (W : World) => cost_any r (by have := hro.burst; omega) z W)
  obtain ⟨c, hc⟩ : ∃ c, cfOf r ds = c := ⟨_, rfl⟩
  have hcr : c.r = r := by rw [← hc]; rfl
  have HCR := Lib.hid hcr
  have HC := Lib.hid (show c.Ok by rw [← hc]; exact hro.cf ds)
  rw [hc] at NW hrg0
  have HG0 := Lib.hid hrg0
  have HLIM := Lib.hid hlim
  have hbur := hro.burst
  obtain ⟨da, dc, rfl⟩ := sl_slice hd
  have hdl : (v64 ds).length = ds.length := by simp [v64]
  rw [hdl] at NW ⊢
  have hc8 : r.cells.toNat ≤ 8 := by rw [← hr]; have := ba7 p.cells; show (ba p.cells 7 + 1).toNat ≤ 8; omega
  have HC8 := Lib.hid (show c.r.cells.toNat ≤ 8 by rw [hcr]; exact hc8)
  obtain ⟨p0, p1, p2, p3, p4, p5, p6, p7, p8⟩ := p
  obtain ⟨r0, r1, r2, r3, r4, r5, r6, r7, r8⟩ := r
  simp only [Plan.val, Rule.val] at *
  have PB0 := Lib.hid (Blk.new w [.int .i64 p0, .int .i64 p1, .int .i64 p2, .int .i64 p3, .int .i64 p4, .int .i64 p5, .int .i64 p6, .int .i64 p7, .bool p8] 23)
  have M0 := Lib.hid ((Mod.refl [] w).alloc (.cells #[.int .i64 p0, .int .i64 p1, .int .i64 p2, .int .i64 p3, .int .i64 p4, .int .i64 p5, .int .i64 p6, .int .i64 p7, .bool p8] 23))
  obtain ⟨n, hn⟩ : ∃ n, l.length = n := ⟨_, rfl⟩
  have HN := Lib.hid hn
  rw [hn] at LI hl150 ⊢
  obtain ⟨dn, hdn⟩ : ∃ dn, ds.length = dn := ⟨_, rfl⟩
  rw [hdn] at hd60 NW ⊢
  have d60 : decide ((60 : Int) < (dn : Int)) = false := by simp; omega
  clear hc8 hP hm hL hkeys hro hr hc hcr hlim hn hrg0 hd hdx hdl hdn
  go_enter Try.func5, Try.ntmps5
  go_wp2_with fail
  refine (fit_any _).mono ?_
  rintro e1 w1 ⟨rfl, hM1⟩
  have M1 := Lib.hid (M0.out.trans hM1)
  have PB1 := Lib.hid (hM1.blk PB0.out (by simp))
  clear hM1
  go_wp2_with fail
  refine (LI.out _ M1.out).mono ?_
  rintro e2 w2 ⟨rfl, hM2⟩
  have M2 := Lib.hid (M1.out.trans hM2)
  have PB2 := Lib.hid (hM2.blk PB1.out (by simp))
  have b0 := PB2.out.cell (i := 0) rfl
  have b1 := PB2.out.cell (i := 1) rfl
  have b2 := PB2.out.cell (i := 2) rfl
  have b3 := PB2.out.cell (i := 3) rfl
  have b4 := PB2.out.cell (i := 4) rfl
  have b5 := PB2.out.cell (i := 5) rfl
  have b6 := PB2.out.cell (i := 6) rfl
  have b7 := PB2.out.cell (i := 7) rfl
  have b8 := PB2.out.cell (i := 8) rfl
  clear hM2
  go_wp2_with fail
  refine (RU.out _).mono ?_
  rintro e3 w3 ⟨rfl, hM3⟩
  have M3 := Lib.hid (M2.out.trans hM3)
  have RB3 := Lib.hid (Blk.new w3 [.int .i64 r0, .int .i64 r1, .int .i64 r2, .int .i64 r3, .int .i64 r4, .int .i64 r5, .int .i64 r6, .int .i64 r7, .bool r8] 29)
  have A3 := Lib.hid ((Mod.refl [] w3).alloc (.cells #[.int .i64 r0, .int .i64 r1, .int .i64 r2, .int .i64 r3, .int .i64 r4, .int .i64 r5, .int .i64 r6, .int .i64 r7, .bool r8] 29))
  have hlt3 : w.heap.size < w3.heap.size := (hM3.blk PB2.out (by simp)).lt
  clear hM3 b0 b1 b2 b3 b4 b5 b6 b7 b8
  simp only [Rule.val]
  go_wp2_with fail
  refine (NW.out _ (M3.out.trans A3.out)).mono ?_
  rintro e4 w4 ⟨B, rfl, hL4, hB4, hrb4, hM4⟩
  have BL := Lib.hid (show (∀ b, b ∈ B.all → w.heap.size < b) ∧ w3.heap.size ∉ B.all from by
    have h3 : w3.heap.size + 1 ≤ (w3.alloc (.cells #[.int .i64 r0, .int .i64 r1, .int .i64 r2, .int .i64 r3, .int .i64 r4, .int .i64 r5, .int .i64 r6, .int .i64 r7, .bool r8] 29)).heap.size := by simp
    exact ⟨fun b hb => by have := hB4 b hb; omega, fun hb => by have := hB4 _ hb; omega⟩)
  have RB4 := Lib.hid (hM4.blk RB3.out (by simp))
  have L4 := Lib.hid hL4
  have M4 := Lib.hid ((M3.out.trans A3.out).trans hM4)
  clear hL4 hB4 hrb4 hM4
  have TM4 := Lib.hid (MapG.made (P := Try.prog) (kt := 9) w4)
  have A4 := Lib.hid ((Mod.refl [] w4).alloc (.map #[] 0))
  have HTN := Lib.hid (show w4.heap.size ∉ B.all ∧ B.Q.rb ≠ w4.heap.size ∧ w3.heap.size ≠ w4.heap.size from ⟨fun hb => by have := L4.out.lt _ hb; omega, by have h : B.Q.rb < w4.heap.size := (L4.out.ring.each 0 (by have := L4.out.ring.few.1; omega)).rows.1; omega, by have := RB4.out.lt; omega⟩)
  have HTN4 := Lib.hid (show w.heap.size ≤ w4.heap.size from M4.out.size)
  have HQE := Lib.hid (show B.Q.rb < w4.heap.size from (L4.out.ring.each 0 (by have := L4.out.ring.few.1; omega)).rows.1)
  have HCC4 := Lib.hid (show c.r.cells = r4 by rw [HCR.out])
  have hmm := @run_makeMap Try.prog
  go_wp2_with fail
  clear hmm
  obtain ⟨tb, htb⟩ : ∃ tb, w4.heap.size = tb := ⟨_, rfl⟩
  rw [htb] at TM4 HTN HTN4 HQE
  have HTS4 : Hid (tb ≤ tb) := Lib.hid (Nat.le_refl _)
  rw [htb]
  clear htb
  go_loopw [10, 38] (fun now i W => ∃ (k t : Nat) (s : Lm) (nn : Nat) (f : Lit → Option Value), k ≤ n ∧ i = .int .i64 (k : Int) ∧ now = .int .i64 (t : Int) ∧ LimAt W B c s ∧ Kept c s k t ∧ MT W tb nn f (Keys.used s.pool.S) ∧ nn ≤ 4 * k ∧ AgreeM f s.pool.S ∧ Blk W w3.heap.size 29 [.int .i64 r0, .int .i64 r1, .int .i64 r2, .int .i64 r3, .int .i64 r4, .int .i64 r5, .int .i64 r6, .int .i64 r7, .bool r8] ∧ Mod [] w W) (fun _ i _ => n - (intOf i).toNat)
  case atStart => exact ⟨0, 0, new0 c, 0, fun _ => none, Nat.zero_le _, rfl, rfl, L4.out.mod0 A4.out, kept0 c HC.out, by rw [show Keys.used (new0 c).pool.S = 0 from used_emp _]; exact TM4.out, by omega, fun k => ⟨fun h => by obtain ⟨q, hq⟩ := h; exact absurd hq (emp_no _ _ _), fun _ => rfl⟩, RB4.out.alloc _, M4.out.trans A4.out⟩
  case round =>
    obtain ⟨k, t, s, nn, f, hk, rfl, rfl, hLr, hKr, hTr, hNr, hAr, hRr, hM⟩ := hrel
    have LR := Lib.hid hLr
    have HK := Lib.hid hKr
    have TM := Lib.hid hTr
    have HNN := Lib.hid hNr
    have AG := Lib.hid hAr
    have RR := Lib.hid hRr
    have MR := Lib.hid hM
    by_cases hlt : k < n
    · obtain ⟨q, hq⟩ : ∃ q, l[k]? = some q := ⟨_, List.getElem?_eq_getElem (by have := HN.out; omega)⟩
      obtain ⟨b, off, rfl, hcells⟩ := GET.out k q hq
      have hk64 := KEY.out k q hq
      obtain ⟨x0, x1, x2, x3⟩ := hcells wr hM
      obtain ⟨gz, cz, key, pk⟩ := q
      simp only at x0 x1 x2 x3 hk64
      have HF := Lib.hid (hLr.ring.few.2)
      have CC := Lib.hid (Blk.new wr [.int .i64 gz, .int .i64 cz, .string ⟨key.toArray⟩, .bool pk] 35)
      have AC := Lib.hid ((Mod.refl [] wr).alloc (.cells #[.int .i64 gz, .int .i64 cz, .string ⟨key.toArray⟩, .bool pk] 35))
      have hrw : w3.heap.size < wr.heap.size := hRr.lt
      have hrw' : ¬ w3.heap.size = wr.heap.size := by omega
      have hti := hKr.time
      have rb0 := hRr.cell (i := 0) rfl
      have rb1 := hRr.cell (i := 1) rfl
      have rb2 := hRr.cell (i := 2) rfl
      have rb3 := hRr.cell (i := 3) rfl
      have rb4 := hRr.cell (i := 4) rfl
      have rb5 := hRr.cell (i := 5) rfl
      have rb6 := hRr.cell (i := 6) rfl
      have rb7 := hRr.cell (i := 7) rfl
      have rb8 := hRr.cell (i := 8) rfl
      have dk : decide ((k : Int) < (n : Int)) = true := by simp; omega
      obtain ⟨hk150, ht2⟩ := small_kt (show k ≤ 149 by omega) hti.2
      clear hLr hKr hTr hNr hAr hRr hM hcells hq
      go_wp2_with fail
      refine (gap_any gz _).mono ?_
      rintro e5 w5 ⟨g, rfl, hg, rfl⟩
      go_wp2_with fail
      have HEV2F := Lib.hid (fun (s : Lm) (T n1 : Int) => check_evs (c := c) (s := s) (now := T) (held := 0) (cost := n1) (key := key))
      obtain ⟨wE, hwE⟩ : ∃ wE, wr.alloc (.cells #[.int .i64 gz, .int .i64 cz, .string ⟨key.toArray⟩, .bool pk] 35) = wE := ⟨_, rfl⟩
      rw [hwE] at CC AC ⊢
      clear hwE
      have LE := Lib.hid (LR.out.mod0 AC.out)
      have RBE := Lib.hid (AC.out.blk RR.out (by simp))
      have TME := Lib.hid (TM.out.mod AC.out (by simp))
      have ME := Lib.hid (MR.out.trans AC.out)
      obtain ⟨cb, hcb⟩ : ∃ cb, wr.heap.size = cb := ⟨_, rfl⟩
      rw [hcb] at CC hrw hrw' ⊢
      have HCB := Lib.hid hcb
      have ltE : cb < wE.heap.size := CC.out.lt
      have ltE' : ¬ cb = wE.heap.size := by omega
      have ltR : w3.heap.size < wE.heap.size := RBE.out.lt
      have ltR' : ¬ w3.heap.size = wE.heap.size := by omega
      have NCC := Lib.hid (show cb ∉ B.all ∧ cb ≠ tb from ⟨fun hb => by have := LR.out.lt _ hb; omega, by have := TM.out.lt; omega⟩)
      have HTS := Lib.hid (show tb < wE.heap.size from TME.out.lt)
      clear x0 x1 x2 x3 rb0 rb1 rb2 rb3 rb4 rb5 rb6 rb7 rb8 hcb
      have rbe0 := RBE.out.cell (i := 0) rfl
      have rbe1 := RBE.out.cell (i := 1) rfl
      have rbe2 := RBE.out.cell (i := 2) rfl
      have rbe3 := RBE.out.cell (i := 3) rfl
      have rbe4 := RBE.out.cell (i := 4) rfl
      have rbe5 := RBE.out.cell (i := 5) rfl
      have rbe6 := RBE.out.cell (i := 6) rfl
      have rbe7 := RBE.out.cell (i := 7) rfl
      have rbe8 := RBE.out.cell (i := 8) rfl
      have cce1 := CC.out.cell (i := 1) rfl
      have cce2 := CC.out.cell (i := 2) rfl
      have ISC := Lib.hid (isC_of_blk CC.out.drew)
      have ISR := Lib.hid (isC_of_blk RBE.out.drew)
      have HLIM2 := Lib.hid (show c.r.limit ≤ 32 by rw [HCR.out]; exact HLIM.out)
      refine wp_region_sched (by kernel_rfl) fun S => ?_
      rcases before_or 12 7 S with q0 | q0
      · refine ⟨[(12, 7)], by decide, fun p hp => by simp only [List.mem_cons, List.not_mem_nil, or_false] at hp; rcases hp with rfl <;> assumption, held_perm [0, 1, 2, 3, 4, 5, 6, 12, 7, 8, 9, 10, 11, 13, 14] [9] [3, 4, 6] B.all (by kernel_rfl) (by kernel_rfl) ?_⟩
        simp only [wpCut, edges, edge, perm, reOper, reGuard, List.getElem?_cons_succ, List.getElem?_cons_zero, List.take_succ_cons, List.take_zero, List.drop_succ_cons, List.drop_zero, List.cons_append, List.nil_append]
        go_wp2_with fail
        refine (CO.out cz _).mono ?_
        rintro e6 w6 ⟨n1, rfl, hn1, hM6⟩
        have MC6 := Lib.hid (((Mod.refl [] wE).alloc (.cells #[.int .i64 0, .int .i64 0, .int .i64 0] 39)).drew.trans hM6)
        have HM6 := Lib.hid (show Mod B.all _ _ from hM6.mono (by simp))
        have NB6 := Lib.hid (hM6.blk (Blk.new wE [.int .i64 0, .int .i64 0, .int .i64 0] 39).drew (by simp))
        obtain ⟨T, hT⟩ : ∃ T, t + g = T := ⟨_, rfl⟩
        have hTi : (t : Int) + (g : Int) = (T : Int) := by omega
        have hst : c.step = 2 * c.r.limit.toNat + 1 := rfl
        have hkb : 65 * k ≤ 10000 := by omega
        have hlim2 := HLIM2.out
        have hsT : s.ring.now ≤ T := by have := HK.out.time; omega
        have CK0 := fun W (hL : LimAt W B c s) => check_any hL HK.out.inv HC.out (by omega) hsT 0 key (by omega) (n1 : Int)
        have KC0 := HK.out.check HC.out hlim2 (by omega) HF.out hg 0 hk64 hn1
        rw [hT] at KC0
        have TD0 := turns_of (check_told (c := c) (now := (T : Int)) (held := 0) (cost := (n1 : Int)) LR.out.pok hk64) AG.out (fun k hk => LR.out.short hk) hk64 (fun k hk => used_pos hk)
        rcases hck : check c s (T : Int) 0 key (n1 : Int) with ⟨⟨av, ar, at_⟩, ev, s2⟩
        have hev2 := HEV2F.out s (T : Int) (n1 : Int)
        rw [hck] at CK0 KC0 TD0 hev2
        simp only at KC0 TD0 hev2
        have CK := Lib.hid CK0
        have KC := Lib.hid KC0
        have TD := Lib.hid TD0
        have HEV2 := Lib.hid hev2
        have HTB := Lib.hid (show T ≤ 300000 by omega)
        rw [hTi]
        clear hM6 CK0 KC0 TD0 hev2 hck hst hkb hsT hT hTi hlim2 rbe0 rbe1 rbe2 rbe3 rbe4 rbe5 rbe6 rbe7 rbe8 cce1 cce2 hti
        go_wp2_with fail
        refine ⟨(((Mod.refl B.all wE.drew).alloc (.cells #[.int .i64 0, .int .i64 0, .int .i64 0] 39)).trans HM6.out), ?_⟩
        go_wp2_with fail
        refine (CK.out _ (LE.out.mod0 MC6.out)).mono ?_
        rintro e7 w7 ⟨v7, rfl, hO7, hL7, hM7⟩
        obtain ⟨a7, c7, rfl⟩ := hO7.slice
        have O7 := Lib.hid hO7
        have L7 := Lib.hid hL7
        have RB7 := Lib.hid (hM7.blk (MC6.out.blk RBE.out (by simp)) BL.out.2)
        have CC7 := Lib.hid (hM7.blk (MC6.out.blk CC.out (by simp)) NCC.out.1)
        have TM7 := Lib.hid ((TME.out.mod MC6.out (by simp)).mod hM7 HTN.out.1)
        have M7 := Lib.hid ((ME.out.trans MC6.out).trans' hM7 (fun b hb => .inr (by have := BL.out.1 b hb; omega)))
        have HM7 := Lib.hid hM7
        have HBS := Lib.hid (show wE.heap.size ≤ w6.heap.size from MC6.out.size)
        have NB7 := Lib.hid (hM7.blk NB6.out (fun hb => by have := LE.out.lt _ hb; omega))
        have nb0 := NB7.out.cell (i := 0) rfl
        have nb1 := NB7.out.cell (i := 1) rfl
        have nb2 := NB7.out.cell (i := 2) rfl
        have nf0 := NB7.out.free 0
        have nf1 := NB7.out.free 1
        have nf2 := NB7.out.free 2
        have nlt : wE.heap.size < w7.heap.size := NB7.out.lt
        have nlt' : ¬ wE.heap.size = w7.heap.size := by omega
        clear hO7 hL7 hM7
        simp only [Ans.val]
        go_wp2_with fail
        refine ⟨by kernel_rfl, ⟨⟨NCC.out.1, ISC.out⟩, ⟨BL.out.2, ISR.out⟩, ⟨NCC.out.1, ISC.out⟩, trivial⟩, ?_⟩
        have MS8 := Lib.hid ((((Mod.refl [wE.heap.size] w7).setCell (p := ⟨wE.heap.size, 0, none⟩) (.inl (by simp)) (.int .i64 av)).setCell (p := ⟨wE.heap.size, 1, none⟩) (.inl (by simp)) (.int .i64 ar)).setCell (p := ⟨wE.heap.size, 2, none⟩) (.inl (by simp)) (.int .i64 at_))
        obtain ⟨w8, hw8⟩ : ∃ w8, (((w7.setCell ⟨wE.heap.size, 0, none⟩ (.int .i64 av)).setCell ⟨wE.heap.size, 1, none⟩ (.int .i64 ar)).setCell ⟨wE.heap.size, 2, none⟩ (.int .i64 at_)) = w8 := ⟨_, rfl⟩
        rw [hw8] at MS8 ⊢
        have L8 := Lib.hid (L7.out.mod MS8.out (fun b hb hb2 => by simp only [List.mem_singleton] at hb2; have := LE.out.lt b hb; have := HBS.out; omega) (fun hb2 => by simp only [List.mem_singleton] at hb2; have := HQE.out; have := HTS.out; have := HBS.out; omega))
        have RB8 := Lib.hid (MS8.out.blk RB7.out (by simp only [List.mem_singleton]; have := HBS.out; omega))
        have CC8 := Lib.hid (MS8.out.blk CC7.out (by simp only [List.mem_singleton]; have := HBS.out; omega))
        have TM8 := Lib.hid (TM7.out.mod MS8.out (by simp only [List.mem_singleton]; have := HTS.out; have := HBS.out; omega))
        have O8 : Hid (OwnE w8 wE.heap.size (.slice a7 ev.length c7) ev) := Lib.hid ((O7.out.mod MS8.out (fun x hx => by simp only [List.mem_singleton] at hx; subst hx; have := HBS.out; have := (NB6.out).lt; omega)).base HBS.out)
        have M8 := Lib.hid (M7.out.trans' MS8.out (fun b hb => .inr (by simp only [List.mem_singleton] at hb; have := ME.out.size; have := HBS.out; omega)))
        clear MS8 hw8 nb0 nb1 nb2 nf0 nf1 nf2 nlt nlt'
        obtain ⟨le, hle⟩ : ∃ le, ev.length = le := ⟨_, rfl⟩
        have HLE := Lib.hid hle
        rw [hle] at O8 ⊢
        clear hle
        have TM8' : Hid (MT w8 tb nn (evTo f (Keys.used s.pool.S) ev 0).1 (evTo f (Keys.used s.pool.S) ev 0).2) := TM8
        go_wp2_with fail
        go_loopw [61] (fun i W => ∃ (j mm : Nat), j ≤ le ∧ i = .int .i64 (j : Int) ∧ MT W tb mm (evTo f (Keys.used s.pool.S) ev j).1 (evTo f (Keys.used s.pool.S) ev j).2 ∧ mm ≤ 4 * k + j ∧ Mod [tb] w8 W) (fun i _ => le - (intOf i).toNat)
        case atStart => exact ⟨0, nn, Nat.zero_le _, rfl, TM8'.out, by have := HNN.out; omega, Mod.refl _ _⟩
        case round =>
          obtain ⟨j, mm, hj, rfl, hT9, hmm, hM9⟩ := hrel
          have T9 := Lib.hid hT9
          have M9 := Lib.hid hM9
          have HMM := Lib.hid hmm
          have RB9 := Lib.hid (hM9.blk RB8.out (by simp only [List.mem_singleton]; exact HTN.out.2.2))
          have CC9 := Lib.hid (hM9.blk CC8.out (by simp only [List.mem_singleton]; exact NCC.out.2))
          have O9 := Lib.hid (O8.out.mod hM9 (fun x hx => by simp only [List.mem_singleton] at hx; subst hx; exact HTS.out))
          have htl : tb < wr.heap.size := T9.out.lt
          have htl' : ¬ tb = wr.heap.size := by omega
          have HLEV : Hid (le ≤ 2) := Lib.hid (by rw [← HLE.out]; exact HEV2.out)
          have hle2 := HLEV.out
          clear hT9 hM9 hmm
          by_cases hlt2 : j < le
          · obtain ⟨e, he⟩ : ∃ e, ev[j]? = some e := ⟨_, List.getElem?_eq_getElem (by have := HLE.out; omega)⟩
            have hevn : ev ≠ [] := fun h => by rw [h] at he; simp at he
            have O9' := O9.out
            rw [← HLE.out] at O9'
            obtain ⟨ge, ce, hve, hge1, hge, hcle⟩ := O9'.at hevn
            simp only [Value.slice.injEq, true_and] at hve
            obtain ⟨rfl, rfl⟩ := hve
            obtain ⟨t1, t2, t3, t4⟩ := TD.out.each j e he
            have hnx := evTo_next (f := f) (u := Keys.used s.pool.S) he
            have y0 := hcle j e he 0 _ rfl
            have y1 := hcle j e he 1 _ rfl
            have y2 := hcle j e he 2 _ rfl
            have y3 := hcle j e he 3 _ rfl
            rw [Nat.add_zero] at y0
            obtain ⟨ek, eu, ea⟩ := e
            simp only at y0 y1 y2 y3 t1 t2 t3 t4
            subst t1
            have hkm : ek.length ≤ maxLen := by unfold maxLen; omega
            have dj : decide ((j : Int) < (le : Int)) = true := by simp; omega
            have dj' : decide (j < le) = true := by simp; omega
            have hgl : ¬ ge = wr.heap.size := by omega
            have lc9 : cb < wr.heap.size := CC9.out.lt
            have lc9' : ¬ cb = wr.heap.size := by omega
            have cc92 := CC9.out.cell (i := 2) rfl
            cases eu with
            | true =>
              obtain ⟨rfl, hno⟩ := t3 rfl
              have AB := Lib.hid ((Mod.refl [] wr).alloc (.cells #[.int .i64 0, .string ⟨ek.toArray⟩, .bool true, .int .i64 (T : Int)] 54))
              have NB := Lib.hid (Blk.new wr [.int .i64 0, .string ⟨ek.toArray⟩, .bool true, .int .i64 (T : Int)] 54)
              have hlk := (T9.out.mod AB.out (by simp)).get (mt := 52) SK Try.underlying52 (zero_bool _) (text_key ek hkm)
              rw [hno] at hlk
              obtain ⟨w2, pt, P2, N2⟩ := (T9.out.mod AB.out (by simp)).put (mt := 52) SK Try.underlying52 (by have := HMM.out; unfold maxLen; omega) (text_key ek hkm) (.bool true)
              have P3 : Hid (MT w2 tb (mm + 1) (evTo f (Keys.used s.pool.S) ev (j + 1)).1 (evTo f (Keys.used s.pool.S) ev (j + 1)).2) := Lib.hid (by rw [hnx]; unfold evF; simp only [if_true]; exact P2)
              have NB2 := Lib.hid (N2.blk NB.out (by simp; omega))
              have nb2 := NB2.out.cell (i := 2) rfl
              have M3 := Lib.hid ((M9.out.trans (AB.out.mono (by simp))).trans N2)
              simp only [Option.getD_none] at hlk
              clear t2 t3 t4 hnx hcle hge1 he hevn O9' hno P2 N2 hkm
              go_wp2_with fail
              go_roundw
              case rel => exact ⟨j + 1, mm + 1, by omega, by go_num, P3.out, by have := HMM.out; omega, M3.out⟩
              case measure => simp [intOf]; omega
            | false =>
              have hyes := t4 rfl
              have AB := Lib.hid ((Mod.refl [] wr).alloc (.cells #[.int .i64 0, .string ⟨ek.toArray⟩, .bool false, .int .i64 (T : Int)] 54))
              have NB := Lib.hid (Blk.new wr [.int .i64 0, .string ⟨ek.toArray⟩, .bool false, .int .i64 (T : Int)] 54)
              have hlk := (T9.out.mod AB.out (by simp)).get (mt := 52) SK Try.underlying52 (zero_bool _) (text_key ek hkm)
              rw [hyes] at hlk
              obtain ⟨w2, pt, P2, N2⟩ := (T9.out.mod AB.out (by simp)).put (mt := 52) SK Try.underlying52 (by have := HMM.out; unfold maxLen; omega) (text_key ek hkm) (.bool false)
              obtain ⟨w22, dl, P4, N4⟩ := P2.del (mt := 52) SK Try.underlying52 (text_key ek hkm) 0
              have P3 : Hid (MT w22 tb (mm + 1) (evTo f (Keys.used s.pool.S) ev (j + 1)).1 (evTo f (Keys.used s.pool.S) ev (j + 1)).2) := Lib.hid (by rw [hnx]; unfold evF; simp only [Bool.false_eq_true, if_false]; exact P4)
              have NB2 := Lib.hid (N2.blk NB.out (by simp; omega))
              have nb1 := NB2.out.cell (i := 1) rfl
              have nb2 := NB2.out.cell (i := 2) rfl
              have M3 := Lib.hid (((M9.out.trans (AB.out.mono (by simp))).trans N2).trans N4)
              simp only [Option.getD_some] at hlk
              clear t2 t3 t4 hnx hcle hge1 he hevn O9' hyes P2 N2 P4 N4 hkm
              go_wp2_with fail
              go_roundw
              case rel => exact ⟨j + 1, mm + 1, by omega, by go_num, P3.out, by have := HMM.out; omega, M3.out⟩
              case measure => simp [intOf]; omega
          · obtain rfl : j = le := by omega
            have dj : decide ((j : Int) < (j : Int)) = false := by simp
            have T10 : Hid (MT wr tb mm (evTo f (Keys.used s.pool.S) ev ev.length).1 (Keys.used s2.pool.S)) := Lib.hid (by
              have h := T9.out
              rw [← TD.out.cnt, HLE.out]; exact h)
            have L10 := Lib.hid (L8.out.mod M9.out (fun b hb hb2 => by simp only [List.mem_singleton] at hb2; subst hb2; exact HTN.out.1 hb) (fun hb2 => by simp only [List.mem_singleton] at hb2; exact HTN.out.2.1 hb2))
            have M10 := Lib.hid (M8.out.trans' M9.out (fun b hb => .inr (by simp only [List.mem_singleton] at hb; subst hb; exact HTN4.out)))
            obtain ⟨fe, hfe⟩ : ∃ fe, (evTo f (Keys.used s.pool.S) ev ev.length).1 = fe := ⟨_, rfl⟩
            have AGE := TD.out.agree
            rw [hfe] at T10 AGE
            have AG2 := Lib.hid AGE
            obtain ⟨w11, rg, R11, N11, hsz11⟩ := T10.out.range SK (mt := 52) Try.underlying52
            have RG := Lib.hid R11
            have L11 := Lib.hid (L10.out.mod0 N11)
            have RB11 := Lib.hid (N11.blk RB9.out (by simp))
            have M11 := Lib.hid (M10.out.trans N11)
            have HRR := Lib.hid (show w.heap.size ≤ wr.heap.size ∧ (∀ b, b ∈ B.all → b < wr.heap.size) ∧ B.Q.rb < wr.heap.size ∧ w3.heap.size < wr.heap.size from ⟨M10.out.size, fun b hb => L10.out.lt b hb, Nat.lt_of_lt_of_le HQE.out (Nat.le_trans HTS4.out (Nat.le_of_lt htl)), RB9.out.lt⟩)
            clear hfe AGE R11 N11 hsz11
            go_wp2_with fail
            obtain ⟨rr, hrr⟩ : ∃ rr, wr.heap.size = rr := ⟨_, rfl⟩
            rw [hrr] at RG HRR ⊢
            clear rg hrr htl htl'
            go_loopw [17] (fun _ W => RangeG Try.prog 9 W tb rr mm fe (Keys.used s2.pool.S) ∧ LimAt W B c s2 ∧ Blk W w3.heap.size 29 [.int .i64 r0, .int .i64 r1, .int .i64 r2, .int .i64 r3, .int .i64 r4, .int .i64 r5, .int .i64 r6, .int .i64 r7, .bool r8] ∧ Mod [] w W) (fun _ W => W.rangeLeft tb rr)
            case atStart => exact ⟨RG.out, L11.out, RB11.out, M11.out⟩
            case round =>
              obtain ⟨hR, hL, hRu, hM⟩ := hrel
              have RR12 := Lib.hid hR
              have L12 := Lib.hid hL
              have RB12 := Lib.hid hRu
              have M12 := Lib.hid hM
              clear hR hL hRu hM
              rcases RR12.out.next SK 0 with nx | ⟨key9, kl, z9, w13, hkey9, hf9, nx, R13, hlt13, N13, hsz13, en⟩
              · have hln := fun ty => RR12.out.map.len (mt := 52) Try.underlying52 ty
                have T14 := Lib.hid RR12.out.map
                have rb4 := RB12.out.cell (i := 4) rfl
                have TT := Lib.hid (totals_any L12.out)
                unfold totV at TT
                have hus := used_le s2.pool.S
                have hkl := KC.out.len
                have hcc := HCC4.out
                have hcr := HRO.out.cells
                simp only at hcr
                obtain ⟨us, hus'⟩ : ∃ us, Keys.used s2.pool.S = us := ⟨_, rfl⟩
                rw [hus'] at hln TT hus T14
                have HUS := Lib.hid hus'
                have du : decide (r4 < (us : Int)) = false := by simp; omega
                have hus1000 : us ≤ 8 := by have := HC8.out; omega
                have tf := fun a b d e W => tot_field3 a b d (us : Int) e W
                clear hus hkl hcc hcr hus'
                go_wp2_with fail
                refine TT.out.mono ?_
                rintro e14 w14 ⟨rfl, hM14⟩
                have T15 := Lib.hid (T14.out.mod hM14 (by simp))
                have L15 := Lib.hid (L12.out.mod0 hM14)
                have RB15 := Lib.hid (hM14.blk RB12.out (by simp))
                have M15 := Lib.hid (M12.out.trans hM14)
                have hln2 := fun ty => T15.out.len (mt := 52) Try.underlying52 ty
                clear hM14 hln rb4
                go_wp2_with fail
                go_roundw
                case rel => exact ⟨k + 1, T, s2, mm, fe, by omega, by go_num, rfl, L15.out, KC.out, by rw [HUS.out]; exact T15.out, by have := HMM.out; have := HLEV.out; omega, AG2.out, RB15.out, M15.out⟩
                case measure => simp [intOf]; omega
              · obtain ⟨k9, rfl, rfl, hkl9⟩ := text_of_key Try.underlying9 hkey9
                have hin9 : In s2.pool.S k9 := by
                  rcases Classical.em (In s2.pool.S k9) with h | h
                  · exact h
                  · have := (AG2.out k9).2 h; rw [this] at hf9; cases hf9
                obtain ⟨i9, hi9⟩ := in_place.1 hin9
                have h964 := L12.out.short hin9
                have N13r := N13
                have L13 := Lib.hid (L12.out.mod N13 (fun b hb hb2 => by simp only [List.mem_singleton] at hb2; have := HRR.out.2.1 b hb; omega) (fun hb2 => by simp only [List.mem_singleton] at hb2; have := HRR.out.2.2.1; omega))
                have RB13 := Lib.hid (N13.blk RB12.out (by simp only [List.mem_singleton]; have := HRR.out.2.2.2; omega))
                have M13 := Lib.hid (M12.out.trans' N13 (fun b hb => .inr (by simp only [List.mem_singleton] at hb; have := HRR.out.1; omega)))
                have R13' := Lib.hid R13
                have H13 := Lib.hid hlt13
                have RS := Lib.hid (resident_any L13.out k9 (by omega))
                have hv : resV s2 k9 = .tuple #[(s2.pool.C.getD i9 .zero).val, .bool true] := by unfold resV; rw [hi9]
                rw [hv] at RS
                generalize s2.pool.C.getD i9 .zero = xc at *
                obtain ⟨xc0, xc1, xc2, xc3⟩ := xc
                clear hkey9 hf9 R13 hlt13 N13 N13r hsz13 hin9 hi9 h964 hv hkl9
                go_wp2_with fail
                refine RS.out.mono ?_
                rintro e14 w14 ⟨rfl, hM14⟩
                have HMA := Lib.hid (hM14.alloc (.cells #[.int .i64 xc0, .int .i64 xc1, .int .i64 xc2, .int .i64 xc3] 56))
                have R14 := Lib.hid (R13'.out.mod HMA.out (by simp) (by simp))
                have H14 := Lib.hid (show (w14.alloc (.cells #[.int .i64 xc0, .int .i64 xc1, .int .i64 xc2, .int .i64 xc3] 56)).rangeLeft tb rr = w13.rangeLeft tb rr from R13'.out.left_mod HMA.out (by simp) (by simp))
                have L14 := Lib.hid (L13.out.mod0 HMA.out)
                have RB14 := Lib.hid (HMA.out.blk RB13.out (by simp))
                have M14 := Lib.hid (M13.out.trans HMA.out)
                clear hM14
                simp only [Cell.val]
                go_wp2_with fail
                go_roundw
                case rel => exact ⟨R14.out, L14.out, RB14.out, M14.out⟩
                case measure => rw [H14.out]; exact H13.out
      · rcases before_or 12 8 S with q1 | q1
        · refine ⟨[(7, 12), (12, 8)], by decide, fun p hp => by simp only [List.mem_cons, List.not_mem_nil, or_false] at hp; rcases hp with rfl | rfl <;> assumption, held_perm [0, 1, 2, 3, 4, 5, 6, 7, 12, 8, 9, 10, 11, 13, 14] [8] [3] B.all (by kernel_rfl) (by kernel_rfl) ?_⟩
          simp only [wpCut, edges, edge, perm, reOper, reGuard, List.getElem?_cons_succ, List.getElem?_cons_zero, List.take_succ_cons, List.take_zero, List.drop_succ_cons, List.drop_zero, List.cons_append, List.nil_append]
          go_wp2_with fail
          refine (CO.out cz _).mono ?_
          rintro e6 w6 ⟨n1, rfl, hn1, hM6⟩
          have MC6 := Lib.hid ((Mod.refl [] wE).drew.trans hM6)
          have HM6 := Lib.hid (show Mod B.all _ _ from hM6.mono (by simp))
          obtain ⟨T, hT⟩ : ∃ T, t + g = T := ⟨_, rfl⟩
          have hTi : (t : Int) + (g : Int) = (T : Int) := by omega
          have hst : c.step = 2 * c.r.limit.toNat + 1 := rfl
          have hkb : 65 * k ≤ 10000 := by omega
          have hlim2 := HLIM2.out
          have hsT : s.ring.now ≤ T := by have := HK.out.time; omega
          have CK0 := fun W (hL : LimAt W B c s) => check_any hL HK.out.inv HC.out (by omega) hsT 0 key (by omega) (n1 : Int)
          have KC0 := HK.out.check HC.out hlim2 (by omega) HF.out hg 0 hk64 hn1
          rw [hT] at KC0
          have TD0 := turns_of (check_told (c := c) (now := (T : Int)) (held := 0) (cost := (n1 : Int)) LR.out.pok hk64) AG.out (fun k hk => LR.out.short hk) hk64 (fun k hk => used_pos hk)
          rcases hck : check c s (T : Int) 0 key (n1 : Int) with ⟨⟨av, ar, at_⟩, ev, s2⟩
          have hev2 := HEV2F.out s (T : Int) (n1 : Int)
          rw [hck] at CK0 KC0 TD0 hev2
          simp only at KC0 TD0 hev2
          have CK := Lib.hid CK0
          have KC := Lib.hid KC0
          have TD := Lib.hid TD0
          have HEV2 := Lib.hid hev2
          have HTB := Lib.hid (show T ≤ 300000 by omega)
          rw [hTi]
          clear hM6 CK0 KC0 TD0 hev2 hck hst hkb hsT hT hTi hlim2 rbe0 rbe1 rbe2 rbe3 rbe4 rbe5 rbe6 rbe7 rbe8 cce1 cce2 hti
          go_wp2_with fail
          refine ⟨((Mod.refl B.all wE.drew).trans HM6.out), ?_⟩
          go_wp2_with fail
          refine (CK.out _ (LE.out.mod0 (MC6.out.alloc (.cells #[.int .i64 0, .int .i64 0, .int .i64 0] 39)))).mono ?_
          rintro e7 w7 ⟨v7, rfl, hO7, hL7, hM7⟩
          obtain ⟨a7, c7, rfl⟩ := hO7.slice
          have O7 := Lib.hid hO7
          have L7 := Lib.hid hL7
          have RB7 := Lib.hid (hM7.blk ((MC6.out.alloc (.cells #[.int .i64 0, .int .i64 0, .int .i64 0] 39)).blk RBE.out (by simp)) BL.out.2)
          have CC7 := Lib.hid (hM7.blk ((MC6.out.alloc (.cells #[.int .i64 0, .int .i64 0, .int .i64 0] 39)).blk CC.out (by simp)) NCC.out.1)
          have TM7 := Lib.hid ((TME.out.mod (MC6.out.alloc (.cells #[.int .i64 0, .int .i64 0, .int .i64 0] 39)) (by simp)).mod hM7 HTN.out.1)
          have M7 := Lib.hid ((ME.out.trans (MC6.out.alloc (.cells #[.int .i64 0, .int .i64 0, .int .i64 0] 39))).trans' hM7 (fun b hb => .inr (by have := BL.out.1 b hb; omega)))
          have HM7 := Lib.hid hM7
          have HBS := Lib.hid (show wE.heap.size ≤ (w6.alloc (.cells #[.int .i64 0, .int .i64 0, .int .i64 0] 39)).heap.size from (MC6.out.alloc (.cells #[.int .i64 0, .int .i64 0, .int .i64 0] 39)).size)
          have NB7 := Lib.hid (hM7.blk (Blk.new w6 [.int .i64 0, .int .i64 0, .int .i64 0] 39) (fun hb => by have := (LE.out.mod0 MC6.out).lt _ hb; omega))
          have nb0 := NB7.out.cell (i := 0) rfl
          have nb1 := NB7.out.cell (i := 1) rfl
          have nb2 := NB7.out.cell (i := 2) rfl
          have nf0 := NB7.out.free 0
          have nf1 := NB7.out.free 1
          have nf2 := NB7.out.free 2
          have nlt : w6.heap.size < w7.heap.size := NB7.out.lt
          have nlt' : ¬ w6.heap.size = w7.heap.size := by omega
          have HBS6 := Lib.hid (show wE.heap.size ≤ w6.heap.size from MC6.out.size)
          clear hO7 hL7 hM7
          simp only [Ans.val]
          go_wp2_with fail
          refine ⟨by kernel_rfl, ⟨⟨NCC.out.1, ISC.out⟩, trivial⟩, ?_⟩
          have MS8 := Lib.hid ((((Mod.refl [w6.heap.size] w7).setCell (p := ⟨w6.heap.size, 0, none⟩) (.inl (by simp)) (.int .i64 av)).setCell (p := ⟨w6.heap.size, 1, none⟩) (.inl (by simp)) (.int .i64 ar)).setCell (p := ⟨w6.heap.size, 2, none⟩) (.inl (by simp)) (.int .i64 at_))
          obtain ⟨w8, hw8⟩ : ∃ w8, (((w7.setCell ⟨w6.heap.size, 0, none⟩ (.int .i64 av)).setCell ⟨w6.heap.size, 1, none⟩ (.int .i64 ar)).setCell ⟨w6.heap.size, 2, none⟩ (.int .i64 at_)) = w8 := ⟨_, rfl⟩
          rw [hw8] at MS8 ⊢
          have L8 := Lib.hid (L7.out.mod MS8.out (fun b hb hb2 => by simp only [List.mem_singleton] at hb2; have := LE.out.lt b hb; have := HBS.out; have := HBS6.out; omega) (fun hb2 => by simp only [List.mem_singleton] at hb2; have := HQE.out; have := HTS.out; have := HBS.out; have := HBS6.out; omega))
          have RB8 := Lib.hid (MS8.out.blk RB7.out (by simp only [List.mem_singleton]; have := HBS.out; have := HBS6.out; omega))
          have CC8 := Lib.hid (MS8.out.blk CC7.out (by simp only [List.mem_singleton]; have := HBS.out; have := HBS6.out; omega))
          have TM8 := Lib.hid (TM7.out.mod MS8.out (by simp only [List.mem_singleton]; have := HTS.out; have := HBS.out; have := HBS6.out; omega))
          have O8 : Hid (OwnE w8 wE.heap.size (.slice a7 ev.length c7) ev) := Lib.hid ((O7.out.mod MS8.out (fun x hx => by simp only [List.mem_singleton] at hx; subst hx; simp)).base HBS.out)
          have M8 := Lib.hid (M7.out.trans' MS8.out (fun b hb => .inr (by simp only [List.mem_singleton] at hb; have := ME.out.size; have := HBS.out; have := HBS6.out; omega)))
          clear MS8 hw8 nb0 nb1 nb2 nf0 nf1 nf2 nlt nlt'
          obtain ⟨le, hle⟩ : ∃ le, ev.length = le := ⟨_, rfl⟩
          have HLE := Lib.hid hle
          rw [hle] at O8 ⊢
          clear hle
          have TM8' : Hid (MT w8 tb nn (evTo f (Keys.used s.pool.S) ev 0).1 (evTo f (Keys.used s.pool.S) ev 0).2) := TM8
          go_wp2_with fail
          go_loopw [61] (fun i W => ∃ (j mm : Nat), j ≤ le ∧ i = .int .i64 (j : Int) ∧ MT W tb mm (evTo f (Keys.used s.pool.S) ev j).1 (evTo f (Keys.used s.pool.S) ev j).2 ∧ mm ≤ 4 * k + j ∧ Mod [tb] w8 W) (fun i _ => le - (intOf i).toNat)
          case atStart => exact ⟨0, nn, Nat.zero_le _, rfl, TM8'.out, by have := HNN.out; omega, Mod.refl _ _⟩
          case round =>
            obtain ⟨j, mm, hj, rfl, hT9, hmm, hM9⟩ := hrel
            have T9 := Lib.hid hT9
            have M9 := Lib.hid hM9
            have HMM := Lib.hid hmm
            have RB9 := Lib.hid (hM9.blk RB8.out (by simp only [List.mem_singleton]; exact HTN.out.2.2))
            have CC9 := Lib.hid (hM9.blk CC8.out (by simp only [List.mem_singleton]; exact NCC.out.2))
            have O9 := Lib.hid (O8.out.mod hM9 (fun x hx => by simp only [List.mem_singleton] at hx; subst hx; exact HTS.out))
            have htl : tb < wr.heap.size := T9.out.lt
            have htl' : ¬ tb = wr.heap.size := by omega
            have HLEV : Hid (le ≤ 2) := Lib.hid (by rw [← HLE.out]; exact HEV2.out)
            have hle2 := HLEV.out
            clear hT9 hM9 hmm
            by_cases hlt2 : j < le
            · obtain ⟨e, he⟩ : ∃ e, ev[j]? = some e := ⟨_, List.getElem?_eq_getElem (by have := HLE.out; omega)⟩
              have hevn : ev ≠ [] := fun h => by rw [h] at he; simp at he
              have O9' := O9.out
              rw [← HLE.out] at O9'
              obtain ⟨ge, ce, hve, hge1, hge, hcle⟩ := O9'.at hevn
              simp only [Value.slice.injEq, true_and] at hve
              obtain ⟨rfl, rfl⟩ := hve
              obtain ⟨t1, t2, t3, t4⟩ := TD.out.each j e he
              have hnx := evTo_next (f := f) (u := Keys.used s.pool.S) he
              have y0 := hcle j e he 0 _ rfl
              have y1 := hcle j e he 1 _ rfl
              have y2 := hcle j e he 2 _ rfl
              have y3 := hcle j e he 3 _ rfl
              rw [Nat.add_zero] at y0
              obtain ⟨ek, eu, ea⟩ := e
              simp only at y0 y1 y2 y3 t1 t2 t3 t4
              subst t1
              have hkm : ek.length ≤ maxLen := by unfold maxLen; omega
              have dj : decide ((j : Int) < (le : Int)) = true := by simp; omega
              have dj' : decide (j < le) = true := by simp; omega
              have hgl : ¬ ge = wr.heap.size := by omega
              have lc9 : cb < wr.heap.size := CC9.out.lt
              have lc9' : ¬ cb = wr.heap.size := by omega
              have cc92 := CC9.out.cell (i := 2) rfl
              cases eu with
              | true =>
                obtain ⟨rfl, hno⟩ := t3 rfl
                have AB := Lib.hid ((Mod.refl [] wr).alloc (.cells #[.int .i64 0, .string ⟨ek.toArray⟩, .bool true, .int .i64 (T : Int)] 54))
                have NB := Lib.hid (Blk.new wr [.int .i64 0, .string ⟨ek.toArray⟩, .bool true, .int .i64 (T : Int)] 54)
                have hlk := (T9.out.mod AB.out (by simp)).get (mt := 52) SK Try.underlying52 (zero_bool _) (text_key ek hkm)
                rw [hno] at hlk
                obtain ⟨w2, pt, P2, N2⟩ := (T9.out.mod AB.out (by simp)).put (mt := 52) SK Try.underlying52 (by have := HMM.out; unfold maxLen; omega) (text_key ek hkm) (.bool true)
                have P3 : Hid (MT w2 tb (mm + 1) (evTo f (Keys.used s.pool.S) ev (j + 1)).1 (evTo f (Keys.used s.pool.S) ev (j + 1)).2) := Lib.hid (by rw [hnx]; unfold evF; simp only [if_true]; exact P2)
                have NB2 := Lib.hid (N2.blk NB.out (by simp; omega))
                have nb2 := NB2.out.cell (i := 2) rfl
                have M3 := Lib.hid ((M9.out.trans (AB.out.mono (by simp))).trans N2)
                simp only [Option.getD_none] at hlk
                clear t2 t3 t4 hnx hcle hge1 he hevn O9' hno P2 N2 hkm
                go_wp2_with fail
                go_roundw
                case rel => exact ⟨j + 1, mm + 1, by omega, by go_num, P3.out, by have := HMM.out; omega, M3.out⟩
                case measure => simp [intOf]; omega
              | false =>
                have hyes := t4 rfl
                have AB := Lib.hid ((Mod.refl [] wr).alloc (.cells #[.int .i64 0, .string ⟨ek.toArray⟩, .bool false, .int .i64 (T : Int)] 54))
                have NB := Lib.hid (Blk.new wr [.int .i64 0, .string ⟨ek.toArray⟩, .bool false, .int .i64 (T : Int)] 54)
                have hlk := (T9.out.mod AB.out (by simp)).get (mt := 52) SK Try.underlying52 (zero_bool _) (text_key ek hkm)
                rw [hyes] at hlk
                obtain ⟨w2, pt, P2, N2⟩ := (T9.out.mod AB.out (by simp)).put (mt := 52) SK Try.underlying52 (by have := HMM.out; unfold maxLen; omega) (text_key ek hkm) (.bool false)
                obtain ⟨w22, dl, P4, N4⟩ := P2.del (mt := 52) SK Try.underlying52 (text_key ek hkm) 0
                have P3 : Hid (MT w22 tb (mm + 1) (evTo f (Keys.used s.pool.S) ev (j + 1)).1 (evTo f (Keys.used s.pool.S) ev (j + 1)).2) := Lib.hid (by rw [hnx]; unfold evF; simp only [Bool.false_eq_true, if_false]; exact P4)
                have NB2 := Lib.hid (N2.blk NB.out (by simp; omega))
                have nb1 := NB2.out.cell (i := 1) rfl
                have nb2 := NB2.out.cell (i := 2) rfl
                have M3 := Lib.hid (((M9.out.trans (AB.out.mono (by simp))).trans N2).trans N4)
                simp only [Option.getD_some] at hlk
                clear t2 t3 t4 hnx hcle hge1 he hevn O9' hyes P2 N2 P4 N4 hkm
                go_wp2_with fail
                go_roundw
                case rel => exact ⟨j + 1, mm + 1, by omega, by go_num, P3.out, by have := HMM.out; omega, M3.out⟩
                case measure => simp [intOf]; omega
            · obtain rfl : j = le := by omega
              have dj : decide ((j : Int) < (j : Int)) = false := by simp
              have T10 : Hid (MT wr tb mm (evTo f (Keys.used s.pool.S) ev ev.length).1 (Keys.used s2.pool.S)) := Lib.hid (by
                have h := T9.out
                rw [← TD.out.cnt, HLE.out]; exact h)
              have L10 := Lib.hid (L8.out.mod M9.out (fun b hb hb2 => by simp only [List.mem_singleton] at hb2; subst hb2; exact HTN.out.1 hb) (fun hb2 => by simp only [List.mem_singleton] at hb2; exact HTN.out.2.1 hb2))
              have M10 := Lib.hid (M8.out.trans' M9.out (fun b hb => .inr (by simp only [List.mem_singleton] at hb; subst hb; exact HTN4.out)))
              obtain ⟨fe, hfe⟩ : ∃ fe, (evTo f (Keys.used s.pool.S) ev ev.length).1 = fe := ⟨_, rfl⟩
              have AGE := TD.out.agree
              rw [hfe] at T10 AGE
              have AG2 := Lib.hid AGE
              obtain ⟨w11, rg, R11, N11, hsz11⟩ := T10.out.range SK (mt := 52) Try.underlying52
              have RG := Lib.hid R11
              have L11 := Lib.hid (L10.out.mod0 N11)
              have RB11 := Lib.hid (N11.blk RB9.out (by simp))
              have M11 := Lib.hid (M10.out.trans N11)
              have HRR := Lib.hid (show w.heap.size ≤ wr.heap.size ∧ (∀ b, b ∈ B.all → b < wr.heap.size) ∧ B.Q.rb < wr.heap.size ∧ w3.heap.size < wr.heap.size from ⟨M10.out.size, fun b hb => L10.out.lt b hb, Nat.lt_of_lt_of_le HQE.out (Nat.le_trans HTS4.out (Nat.le_of_lt htl)), RB9.out.lt⟩)
              clear hfe AGE R11 N11 hsz11
              go_wp2_with fail
              obtain ⟨rr, hrr⟩ : ∃ rr, wr.heap.size = rr := ⟨_, rfl⟩
              rw [hrr] at RG HRR ⊢
              clear rg hrr htl htl'
              go_loopw [17] (fun _ W => RangeG Try.prog 9 W tb rr mm fe (Keys.used s2.pool.S) ∧ LimAt W B c s2 ∧ Blk W w3.heap.size 29 [.int .i64 r0, .int .i64 r1, .int .i64 r2, .int .i64 r3, .int .i64 r4, .int .i64 r5, .int .i64 r6, .int .i64 r7, .bool r8] ∧ Mod [] w W) (fun _ W => W.rangeLeft tb rr)
              case atStart => exact ⟨RG.out, L11.out, RB11.out, M11.out⟩
              case round =>
                obtain ⟨hR, hL, hRu, hM⟩ := hrel
                have RR12 := Lib.hid hR
                have L12 := Lib.hid hL
                have RB12 := Lib.hid hRu
                have M12 := Lib.hid hM
                clear hR hL hRu hM
                rcases RR12.out.next SK 0 with nx | ⟨key9, kl, z9, w13, hkey9, hf9, nx, R13, hlt13, N13, hsz13, en⟩
                · have hln := fun ty => RR12.out.map.len (mt := 52) Try.underlying52 ty
                  have T14 := Lib.hid RR12.out.map
                  have rb4 := RB12.out.cell (i := 4) rfl
                  have TT := Lib.hid (totals_any L12.out)
                  unfold totV at TT
                  have hus := used_le s2.pool.S
                  have hkl := KC.out.len
                  have hcc := HCC4.out
                  have hcr := HRO.out.cells
                  simp only at hcr
                  obtain ⟨us, hus'⟩ : ∃ us, Keys.used s2.pool.S = us := ⟨_, rfl⟩
                  rw [hus'] at hln TT hus T14
                  have HUS := Lib.hid hus'
                  have du : decide (r4 < (us : Int)) = false := by simp; omega
                  have hus1000 : us ≤ 8 := by have := HC8.out; omega
                  have tf := fun a b d e W => tot_field3 a b d (us : Int) e W
                  clear hus hkl hcc hcr hus'
                  go_wp2_with fail
                  refine TT.out.mono ?_
                  rintro e14 w14 ⟨rfl, hM14⟩
                  have T15 := Lib.hid (T14.out.mod hM14 (by simp))
                  have L15 := Lib.hid (L12.out.mod0 hM14)
                  have RB15 := Lib.hid (hM14.blk RB12.out (by simp))
                  have M15 := Lib.hid (M12.out.trans hM14)
                  have hln2 := fun ty => T15.out.len (mt := 52) Try.underlying52 ty
                  clear hM14 hln rb4
                  go_wp2_with fail
                  go_roundw
                  case rel => exact ⟨k + 1, T, s2, mm, fe, by omega, by go_num, rfl, L15.out, KC.out, by rw [HUS.out]; exact T15.out, by have := HMM.out; have := HLEV.out; omega, AG2.out, RB15.out, M15.out⟩
                  case measure => simp [intOf]; omega
                · obtain ⟨k9, rfl, rfl, hkl9⟩ := text_of_key Try.underlying9 hkey9
                  have hin9 : In s2.pool.S k9 := by
                    rcases Classical.em (In s2.pool.S k9) with h | h
                    · exact h
                    · have := (AG2.out k9).2 h; rw [this] at hf9; cases hf9
                  obtain ⟨i9, hi9⟩ := in_place.1 hin9
                  have h964 := L12.out.short hin9
                  have N13r := N13
                  have L13 := Lib.hid (L12.out.mod N13 (fun b hb hb2 => by simp only [List.mem_singleton] at hb2; have := HRR.out.2.1 b hb; omega) (fun hb2 => by simp only [List.mem_singleton] at hb2; have := HRR.out.2.2.1; omega))
                  have RB13 := Lib.hid (N13.blk RB12.out (by simp only [List.mem_singleton]; have := HRR.out.2.2.2; omega))
                  have M13 := Lib.hid (M12.out.trans' N13 (fun b hb => .inr (by simp only [List.mem_singleton] at hb; have := HRR.out.1; omega)))
                  have R13' := Lib.hid R13
                  have H13 := Lib.hid hlt13
                  have RS := Lib.hid (resident_any L13.out k9 (by omega))
                  have hv : resV s2 k9 = .tuple #[(s2.pool.C.getD i9 .zero).val, .bool true] := by unfold resV; rw [hi9]
                  rw [hv] at RS
                  generalize s2.pool.C.getD i9 .zero = xc at *
                  obtain ⟨xc0, xc1, xc2, xc3⟩ := xc
                  clear hkey9 hf9 R13 hlt13 N13 N13r hsz13 hin9 hi9 h964 hv hkl9
                  go_wp2_with fail
                  refine RS.out.mono ?_
                  rintro e14 w14 ⟨rfl, hM14⟩
                  have HMA := Lib.hid (hM14.alloc (.cells #[.int .i64 xc0, .int .i64 xc1, .int .i64 xc2, .int .i64 xc3] 56))
                  have R14 := Lib.hid (R13'.out.mod HMA.out (by simp) (by simp))
                  have H14 := Lib.hid (show (w14.alloc (.cells #[.int .i64 xc0, .int .i64 xc1, .int .i64 xc2, .int .i64 xc3] 56)).rangeLeft tb rr = w13.rangeLeft tb rr from R13'.out.left_mod HMA.out (by simp) (by simp))
                  have L14 := Lib.hid (L13.out.mod0 HMA.out)
                  have RB14 := Lib.hid (HMA.out.blk RB13.out (by simp))
                  have M14 := Lib.hid (M13.out.trans HMA.out)
                  clear hM14
                  simp only [Cell.val]
                  go_wp2_with fail
                  go_roundw
                  case rel => exact ⟨R14.out, L14.out, RB14.out, M14.out⟩
                  case measure => rw [H14.out]; exact H13.out
        · refine ⟨[(8, 12)], by decide, fun p hp => by simp only [List.mem_cons, List.not_mem_nil, or_false] at hp; rcases hp with rfl <;> assumption, held_perm [0, 1, 2, 3, 4, 5, 6, 7, 8, 9, 10, 11, 12, 13, 14] [8, 1] [3] B.all (by kernel_rfl) (by kernel_rfl) ?_⟩
          simp only [wpCut, edges, edge, perm, reOper, reGuard, List.getElem?_cons_succ, List.getElem?_cons_zero, List.take_succ_cons, List.take_zero, List.drop_succ_cons, List.drop_zero, List.cons_append, List.nil_append]
          go_wp2_with fail
          refine (CO.out cz _).mono ?_
          rintro e6 w6 ⟨n1, rfl, hn1, hM6⟩
          have MC6 := Lib.hid ((Mod.refl [] wE).drew.trans hM6)
          have HM6 := Lib.hid (show Mod B.all _ _ from hM6.mono (by simp))
          obtain ⟨T, hT⟩ : ∃ T, t + g = T := ⟨_, rfl⟩
          have hTi : (t : Int) + (g : Int) = (T : Int) := by omega
          have hst : c.step = 2 * c.r.limit.toNat + 1 := rfl
          have hkb : 65 * k ≤ 10000 := by omega
          have hlim2 := HLIM2.out
          have hsT : s.ring.now ≤ T := by have := HK.out.time; omega
          have CK0 := fun W (hL : LimAt W B c s) => check_any hL HK.out.inv HC.out (by omega) hsT 0 key (by omega) (n1 : Int)
          have KC0 := HK.out.check HC.out hlim2 (by omega) HF.out hg 0 hk64 hn1
          rw [hT] at KC0
          have TD0 := turns_of (check_told (c := c) (now := (T : Int)) (held := 0) (cost := (n1 : Int)) LR.out.pok hk64) AG.out (fun k hk => LR.out.short hk) hk64 (fun k hk => used_pos hk)
          rcases hck : check c s (T : Int) 0 key (n1 : Int) with ⟨⟨av, ar, at_⟩, ev, s2⟩
          have hev2 := HEV2F.out s (T : Int) (n1 : Int)
          rw [hck] at CK0 KC0 TD0 hev2
          simp only at KC0 TD0 hev2
          have CK := Lib.hid CK0
          have KC := Lib.hid KC0
          have TD := Lib.hid TD0
          have HEV2 := Lib.hid hev2
          have HTB := Lib.hid (show T ≤ 300000 by omega)
          rw [hTi]
          clear hM6 CK0 KC0 TD0 hev2 hck hst hkb hsT hT hTi hlim2 rbe0 rbe1 rbe2 rbe3 rbe4 rbe5 rbe6 rbe7 rbe8 cce1 cce2 hti
          go_wp2_with fail
          refine ⟨((Mod.refl B.all wE.drew).trans HM6.out), ?_⟩
          go_wp2_with fail
          refine (CK.out _ (LE.out.mod0 MC6.out)).mono ?_
          rintro e7 w7 ⟨v7, rfl, hO7, hL7, hM7⟩
          obtain ⟨a7, c7, rfl⟩ := hO7.slice
          have O7 := Lib.hid hO7
          have L7 := Lib.hid hL7
          have RB7 := Lib.hid (hM7.blk (MC6.out.blk RBE.out (by simp)) BL.out.2)
          have CC7 := Lib.hid (hM7.blk (MC6.out.blk CC.out (by simp)) NCC.out.1)
          have TM7 := Lib.hid ((TME.out.mod MC6.out (by simp)).mod hM7 HTN.out.1)
          have M7 := Lib.hid ((ME.out.trans MC6.out).trans' hM7 (fun b hb => .inr (by have := BL.out.1 b hb; omega)))
          have HM7 := Lib.hid hM7
          have HBS := Lib.hid (show wE.heap.size ≤ w6.heap.size from MC6.out.size)
          clear hO7 hL7 hM7
          simp only [Ans.val]
          go_wp2_with fail
          refine ⟨(((Mod.refl B.all wE.drew).trans HM6.out).trans HM7.out), ?_⟩
          go_wp2_with fail
          refine ⟨by kernel_rfl, ⟨⟨NCC.out.1, ISC.out⟩, trivial⟩, ?_⟩
          have MS8 := Lib.hid ((Mod.refl [] w7).alloc (.cells #[.int .i64 av, .int .i64 ar, .int .i64 at_] 39))
          obtain ⟨w8, hw8⟩ : ∃ w8, (w7.alloc (.cells #[.int .i64 av, .int .i64 ar, .int .i64 at_] 39)) = w8 := ⟨_, rfl⟩
          rw [hw8] at MS8 ⊢
          have L8 := Lib.hid (L7.out.mod0 MS8.out)
          have RB8 := Lib.hid (MS8.out.blk RB7.out (by simp))
          have CC8 := Lib.hid (MS8.out.blk CC7.out (by simp))
          have TM8 := Lib.hid (TM7.out.mod MS8.out (by simp))
          have O8 : Hid (OwnE w8 wE.heap.size (.slice a7 ev.length c7) ev) := Lib.hid ((O7.out.mod MS8.out (by simp)).base HBS.out)
          have M8 := Lib.hid (M7.out.trans MS8.out)
          clear MS8 hw8
          obtain ⟨le, hle⟩ : ∃ le, ev.length = le := ⟨_, rfl⟩
          have HLE := Lib.hid hle
          rw [hle] at O8 ⊢
          clear hle
          have TM8' : Hid (MT w8 tb nn (evTo f (Keys.used s.pool.S) ev 0).1 (evTo f (Keys.used s.pool.S) ev 0).2) := TM8
          go_wp2_with fail
          go_loopw [61] (fun i W => ∃ (j mm : Nat), j ≤ le ∧ i = .int .i64 (j : Int) ∧ MT W tb mm (evTo f (Keys.used s.pool.S) ev j).1 (evTo f (Keys.used s.pool.S) ev j).2 ∧ mm ≤ 4 * k + j ∧ Mod [tb] w8 W) (fun i _ => le - (intOf i).toNat)
          case atStart => exact ⟨0, nn, Nat.zero_le _, rfl, TM8'.out, by have := HNN.out; omega, Mod.refl _ _⟩
          case round =>
            obtain ⟨j, mm, hj, rfl, hT9, hmm, hM9⟩ := hrel
            have T9 := Lib.hid hT9
            have M9 := Lib.hid hM9
            have HMM := Lib.hid hmm
            have RB9 := Lib.hid (hM9.blk RB8.out (by simp only [List.mem_singleton]; exact HTN.out.2.2))
            have CC9 := Lib.hid (hM9.blk CC8.out (by simp only [List.mem_singleton]; exact NCC.out.2))
            have O9 := Lib.hid (O8.out.mod hM9 (fun x hx => by simp only [List.mem_singleton] at hx; subst hx; exact HTS.out))
            have htl : tb < wr.heap.size := T9.out.lt
            have htl' : ¬ tb = wr.heap.size := by omega
            have HLEV : Hid (le ≤ 2) := Lib.hid (by rw [← HLE.out]; exact HEV2.out)
            have hle2 := HLEV.out
            clear hT9 hM9 hmm
            by_cases hlt2 : j < le
            · obtain ⟨e, he⟩ : ∃ e, ev[j]? = some e := ⟨_, List.getElem?_eq_getElem (by have := HLE.out; omega)⟩
              have hevn : ev ≠ [] := fun h => by rw [h] at he; simp at he
              have O9' := O9.out
              rw [← HLE.out] at O9'
              obtain ⟨ge, ce, hve, hge1, hge, hcle⟩ := O9'.at hevn
              simp only [Value.slice.injEq, true_and] at hve
              obtain ⟨rfl, rfl⟩ := hve
              obtain ⟨t1, t2, t3, t4⟩ := TD.out.each j e he
              have hnx := evTo_next (f := f) (u := Keys.used s.pool.S) he
              have y0 := hcle j e he 0 _ rfl
              have y1 := hcle j e he 1 _ rfl
              have y2 := hcle j e he 2 _ rfl
              have y3 := hcle j e he 3 _ rfl
              rw [Nat.add_zero] at y0
              obtain ⟨ek, eu, ea⟩ := e
              simp only at y0 y1 y2 y3 t1 t2 t3 t4
              subst t1
              have hkm : ek.length ≤ maxLen := by unfold maxLen; omega
              have dj : decide ((j : Int) < (le : Int)) = true := by simp; omega
              have dj' : decide (j < le) = true := by simp; omega
              have hgl : ¬ ge = wr.heap.size := by omega
              have lc9 : cb < wr.heap.size := CC9.out.lt
              have lc9' : ¬ cb = wr.heap.size := by omega
              have cc92 := CC9.out.cell (i := 2) rfl
              cases eu with
              | true =>
                obtain ⟨rfl, hno⟩ := t3 rfl
                have AB := Lib.hid ((Mod.refl [] wr).alloc (.cells #[.int .i64 0, .string ⟨ek.toArray⟩, .bool true, .int .i64 (T : Int)] 54))
                have NB := Lib.hid (Blk.new wr [.int .i64 0, .string ⟨ek.toArray⟩, .bool true, .int .i64 (T : Int)] 54)
                have hlk := (T9.out.mod AB.out (by simp)).get (mt := 52) SK Try.underlying52 (zero_bool _) (text_key ek hkm)
                rw [hno] at hlk
                obtain ⟨w2, pt, P2, N2⟩ := (T9.out.mod AB.out (by simp)).put (mt := 52) SK Try.underlying52 (by have := HMM.out; unfold maxLen; omega) (text_key ek hkm) (.bool true)
                have P3 : Hid (MT w2 tb (mm + 1) (evTo f (Keys.used s.pool.S) ev (j + 1)).1 (evTo f (Keys.used s.pool.S) ev (j + 1)).2) := Lib.hid (by rw [hnx]; unfold evF; simp only [if_true]; exact P2)
                have NB2 := Lib.hid (N2.blk NB.out (by simp; omega))
                have nb2 := NB2.out.cell (i := 2) rfl
                have M3 := Lib.hid ((M9.out.trans (AB.out.mono (by simp))).trans N2)
                simp only [Option.getD_none] at hlk
                clear t2 t3 t4 hnx hcle hge1 he hevn O9' hno P2 N2 hkm
                go_wp2_with fail
                go_roundw
                case rel => exact ⟨j + 1, mm + 1, by omega, by go_num, P3.out, by have := HMM.out; omega, M3.out⟩
                case measure => simp [intOf]; omega
              | false =>
                have hyes := t4 rfl
                have AB := Lib.hid ((Mod.refl [] wr).alloc (.cells #[.int .i64 0, .string ⟨ek.toArray⟩, .bool false, .int .i64 (T : Int)] 54))
                have NB := Lib.hid (Blk.new wr [.int .i64 0, .string ⟨ek.toArray⟩, .bool false, .int .i64 (T : Int)] 54)
                have hlk := (T9.out.mod AB.out (by simp)).get (mt := 52) SK Try.underlying52 (zero_bool _) (text_key ek hkm)
                rw [hyes] at hlk
                obtain ⟨w2, pt, P2, N2⟩ := (T9.out.mod AB.out (by simp)).put (mt := 52) SK Try.underlying52 (by have := HMM.out; unfold maxLen; omega) (text_key ek hkm) (.bool false)
                obtain ⟨w22, dl, P4, N4⟩ := P2.del (mt := 52) SK Try.underlying52 (text_key ek hkm) 0
                have P3 : Hid (MT w22 tb (mm + 1) (evTo f (Keys.used s.pool.S) ev (j + 1)).1 (evTo f (Keys.used s.pool.S) ev (j + 1)).2) := Lib.hid (by rw [hnx]; unfold evF; simp only [Bool.false_eq_true, if_false]; exact P4)
                have NB2 := Lib.hid (N2.blk NB.out (by simp; omega))
                have nb1 := NB2.out.cell (i := 1) rfl
                have nb2 := NB2.out.cell (i := 2) rfl
                have M3 := Lib.hid (((M9.out.trans (AB.out.mono (by simp))).trans N2).trans N4)
                simp only [Option.getD_some] at hlk
                clear t2 t3 t4 hnx hcle hge1 he hevn O9' hyes P2 N2 P4 N4 hkm
                go_wp2_with fail
                go_roundw
                case rel => exact ⟨j + 1, mm + 1, by omega, by go_num, P3.out, by have := HMM.out; omega, M3.out⟩
                case measure => simp [intOf]; omega
            · obtain rfl : j = le := by omega
              have dj : decide ((j : Int) < (j : Int)) = false := by simp
              have T10 : Hid (MT wr tb mm (evTo f (Keys.used s.pool.S) ev ev.length).1 (Keys.used s2.pool.S)) := Lib.hid (by
                have h := T9.out
                rw [← TD.out.cnt, HLE.out]; exact h)
              have L10 := Lib.hid (L8.out.mod M9.out (fun b hb hb2 => by simp only [List.mem_singleton] at hb2; subst hb2; exact HTN.out.1 hb) (fun hb2 => by simp only [List.mem_singleton] at hb2; exact HTN.out.2.1 hb2))
              have M10 := Lib.hid (M8.out.trans' M9.out (fun b hb => .inr (by simp only [List.mem_singleton] at hb; subst hb; exact HTN4.out)))
              obtain ⟨fe, hfe⟩ : ∃ fe, (evTo f (Keys.used s.pool.S) ev ev.length).1 = fe := ⟨_, rfl⟩
              have AGE := TD.out.agree
              rw [hfe] at T10 AGE
              have AG2 := Lib.hid AGE
              obtain ⟨w11, rg, R11, N11, hsz11⟩ := T10.out.range SK (mt := 52) Try.underlying52
              have RG := Lib.hid R11
              have L11 := Lib.hid (L10.out.mod0 N11)
              have RB11 := Lib.hid (N11.blk RB9.out (by simp))
              have M11 := Lib.hid (M10.out.trans N11)
              have HRR := Lib.hid (show w.heap.size ≤ wr.heap.size ∧ (∀ b, b ∈ B.all → b < wr.heap.size) ∧ B.Q.rb < wr.heap.size ∧ w3.heap.size < wr.heap.size from ⟨M10.out.size, fun b hb => L10.out.lt b hb, Nat.lt_of_lt_of_le HQE.out (Nat.le_trans HTS4.out (Nat.le_of_lt htl)), RB9.out.lt⟩)
              clear hfe AGE R11 N11 hsz11
              go_wp2_with fail
              obtain ⟨rr, hrr⟩ : ∃ rr, wr.heap.size = rr := ⟨_, rfl⟩
              rw [hrr] at RG HRR ⊢
              clear rg hrr htl htl'
              go_loopw [17] (fun _ W => RangeG Try.prog 9 W tb rr mm fe (Keys.used s2.pool.S) ∧ LimAt W B c s2 ∧ Blk W w3.heap.size 29 [.int .i64 r0, .int .i64 r1, .int .i64 r2, .int .i64 r3, .int .i64 r4, .int .i64 r5, .int .i64 r6, .int .i64 r7, .bool r8] ∧ Mod [] w W) (fun _ W => W.rangeLeft tb rr)
              case atStart => exact ⟨RG.out, L11.out, RB11.out, M11.out⟩
              case round =>
                obtain ⟨hR, hL, hRu, hM⟩ := hrel
                have RR12 := Lib.hid hR
                have L12 := Lib.hid hL
                have RB12 := Lib.hid hRu
                have M12 := Lib.hid hM
                clear hR hL hRu hM
                rcases RR12.out.next SK 0 with nx | ⟨key9, kl, z9, w13, hkey9, hf9, nx, R13, hlt13, N13, hsz13, en⟩
                · have hln := fun ty => RR12.out.map.len (mt := 52) Try.underlying52 ty
                  have T14 := Lib.hid RR12.out.map
                  have rb4 := RB12.out.cell (i := 4) rfl
                  have TT := Lib.hid (totals_any L12.out)
                  unfold totV at TT
                  have hus := used_le s2.pool.S
                  have hkl := KC.out.len
                  have hcc := HCC4.out
                  have hcr := HRO.out.cells
                  simp only at hcr
                  obtain ⟨us, hus'⟩ : ∃ us, Keys.used s2.pool.S = us := ⟨_, rfl⟩
                  rw [hus'] at hln TT hus T14
                  have HUS := Lib.hid hus'
                  have du : decide (r4 < (us : Int)) = false := by simp; omega
                  have hus1000 : us ≤ 8 := by have := HC8.out; omega
                  have tf := fun a b d e W => tot_field3 a b d (us : Int) e W
                  clear hus hkl hcc hcr hus'
                  go_wp2_with fail
                  refine TT.out.mono ?_
                  rintro e14 w14 ⟨rfl, hM14⟩
                  have T15 := Lib.hid (T14.out.mod hM14 (by simp))
                  have L15 := Lib.hid (L12.out.mod0 hM14)
                  have RB15 := Lib.hid (hM14.blk RB12.out (by simp))
                  have M15 := Lib.hid (M12.out.trans hM14)
                  have hln2 := fun ty => T15.out.len (mt := 52) Try.underlying52 ty
                  clear hM14 hln rb4
                  go_wp2_with fail
                  go_roundw
                  case rel => exact ⟨k + 1, T, s2, mm, fe, by omega, by go_num, rfl, L15.out, KC.out, by rw [HUS.out]; exact T15.out, by have := HMM.out; have := HLEV.out; omega, AG2.out, RB15.out, M15.out⟩
                  case measure => simp [intOf]; omega
                · obtain ⟨k9, rfl, rfl, hkl9⟩ := text_of_key Try.underlying9 hkey9
                  have hin9 : In s2.pool.S k9 := by
                    rcases Classical.em (In s2.pool.S k9) with h | h
                    · exact h
                    · have := (AG2.out k9).2 h; rw [this] at hf9; cases hf9
                  obtain ⟨i9, hi9⟩ := in_place.1 hin9
                  have h964 := L12.out.short hin9
                  have N13r := N13
                  have L13 := Lib.hid (L12.out.mod N13 (fun b hb hb2 => by simp only [List.mem_singleton] at hb2; have := HRR.out.2.1 b hb; omega) (fun hb2 => by simp only [List.mem_singleton] at hb2; have := HRR.out.2.2.1; omega))
                  have RB13 := Lib.hid (N13.blk RB12.out (by simp only [List.mem_singleton]; have := HRR.out.2.2.2; omega))
                  have M13 := Lib.hid (M12.out.trans' N13 (fun b hb => .inr (by simp only [List.mem_singleton] at hb; have := HRR.out.1; omega)))
                  have R13' := Lib.hid R13
                  have H13 := Lib.hid hlt13
                  have RS := Lib.hid (resident_any L13.out k9 (by omega))
                  have hv : resV s2 k9 = .tuple #[(s2.pool.C.getD i9 .zero).val, .bool true] := by unfold resV; rw [hi9]
                  rw [hv] at RS
                  generalize s2.pool.C.getD i9 .zero = xc at *
                  obtain ⟨xc0, xc1, xc2, xc3⟩ := xc
                  clear hkey9 hf9 R13 hlt13 N13 N13r hsz13 hin9 hi9 h964 hv hkl9
                  go_wp2_with fail
                  refine RS.out.mono ?_
                  rintro e14 w14 ⟨rfl, hM14⟩
                  have HMA := Lib.hid (hM14.alloc (.cells #[.int .i64 xc0, .int .i64 xc1, .int .i64 xc2, .int .i64 xc3] 56))
                  have R14 := Lib.hid (R13'.out.mod HMA.out (by simp) (by simp))
                  have H14 := Lib.hid (show (w14.alloc (.cells #[.int .i64 xc0, .int .i64 xc1, .int .i64 xc2, .int .i64 xc3] 56)).rangeLeft tb rr = w13.rangeLeft tb rr from R13'.out.left_mod HMA.out (by simp) (by simp))
                  have L14 := Lib.hid (L13.out.mod0 HMA.out)
                  have RB14 := Lib.hid (HMA.out.blk RB13.out (by simp))
                  have M14 := Lib.hid (M13.out.trans HMA.out)
                  clear hM14
                  simp only [Cell.val]
                  go_wp2_with fail
                  go_roundw
                  case rel => exact ⟨R14.out, L14.out, RB14.out, M14.out⟩
                  case measure => rw [H14.out]; exact H13.out
    · obtain rfl : k = n := by omega
      have dk : decide ((k : Int) < (k : Int)) = false := by simp
      clear hLr hKr hTr hNr hAr hRr hM
      go_wp2_with fail
      go_ret
      exact ⟨rfl, MR.out⟩
theorem events_law (w : World) (p : Plan) (v : Value) (zs : List Int) (h : Sl w v (zs.map (Value.int .u64))) (hw : ∀ z ∈ zs, (Lit.int .u64 z).wf = true) (a : Option Addr) (cp : Nat) (l : List Call) (hm : l.length ≤ maxLen) (hP : InRow w a 4 Call.cells l) :
    Calls Try.prog 5 #[p.val, v, .slice a l.length cp] w fun e w' => e = .returned (.bool true) ∧ Mod [] w w' := by
  obtain ⟨ds, hds, hdx⟩ := u64s hw
  rw [hds] at h
  clear hds hw
  by_cases hd60 : ds.length ≤ 60
  · cases hL : lightB l with
    | true => exact events_main w p v ds h hdx hd60 a cp l hm hP hL
    | false =>
      have LI := Lib.hid (fun W (hM : Mod [] w W) => light_any (inrow_mod hP hM) hm cp)
      rw [hL] at LI
      obtain ⟨da, dc, rfl⟩ := sl_slice h
      have hdl : (v64 ds).length = ds.length := by simp [v64]
      rw [hdl]
      have d60 : decide ((60 : Int) < (ds.length : Int)) = false := by simp; omega
      obtain ⟨p0, p1, p2, p3, p4, p5, p6, p7, p8⟩ := p
      simp only [Plan.val] at *
      have M0 := Lib.hid ((Mod.refl [] w).alloc (.cells #[.int .i64 p0, .int .i64 p1, .int .i64 p2, .int .i64 p3, .int .i64 p4, .int .i64 p5, .int .i64 p6, .int .i64 p7, .bool p8] 23))
      clear hP hm hL h hdx hd60 hdl
      generalize ds.length = dn at *
      generalize l.length = n at *
      go_enter Try.func5, Try.ntmps5
      go_wp2_with fail
      refine (fit_any _).mono ?_
      rintro e1 w1 ⟨rfl, hM1⟩
      have M1 := Lib.hid (M0.out.trans hM1)
      clear hM1
      go_wp2_with fail
      refine (LI.out _ M1.out).mono ?_
      rintro e2 w2 ⟨rfl, hM2⟩
      go_wp2_with fail
      go_ret
      exact ⟨rfl, M1.out.trans hM2⟩
  · obtain ⟨da, dc, rfl⟩ := sl_slice h
    have hdl : (v64 ds).length = ds.length := by simp [v64]
    rw [hdl]
    have d60 : decide ((60 : Int) < (ds.length : Int)) = true := by simp; omega
    obtain ⟨p0, p1, p2, p3, p4, p5, p6, p7, p8⟩ := p
    simp only [Plan.val] at *
    have M0 := Lib.hid ((Mod.refl [] w).alloc (.cells #[.int .i64 p0, .int .i64 p1, .int .i64 p2, .int .i64 p3, .int .i64 p4, .int .i64 p5, .int .i64 p6, .int .i64 p7, .bool p8] 23))
    clear hP hm h hdx hd60 hdl
    generalize ds.length = dn at *
    generalize l.length = n at *
    go_enter Try.func5, Try.ntmps5
    go_wp2_with fail
    refine (fit_any _).mono ?_
    rintro e1 w1 ⟨rfl, hM1⟩
    have M1 := Lib.hid (M0.out.trans hM1)
    clear hM1
    go_wp2_with fail
    go_ret
    exact ⟨rfl, M1.out⟩
end Go.Proofs.Ytndekdafiaogmaa.Lim
end
