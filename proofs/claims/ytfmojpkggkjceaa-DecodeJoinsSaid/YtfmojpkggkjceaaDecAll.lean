/- decode.All: the requests of a stream. -/
import Derived.Test.YtfmojpkggkjceaaDecLaw3
import Derived.Test.YtfmojpkggkjceaaReqs
namespace Go.Proofs.Ytfmojpkggkjceaa.Frame
open Go Go.RowKit Go.YtfmojpkggkjceaaMem Go.YtfmojpkggkjceaaLex
set_option linter.unusedVariables false
set_option linter.unusedSimpArgs false

/-- What a decoder that has these bytes makes of more of them: requests, how many bytes were taken, the fault. -/
def runA (rules : Int) : List UInt8 → List UInt8 → Nat → List Req × Nat × Nat
  | [], _, i => ([], i, 0)
  | c :: cs, pend, i =>
    if (tried pend rules 0 c).2.2 ≠ 0 then ([], i + 1, (tried pend rules 0 c).2.2)
    else if (tried pend rules 0 c).2.1 then ((tried pend rules 0 c).1 :: (runA rules cs [] (i + 1)).1, (runA rules cs [] (i + 1)).2)
    else runA rules cs (pend ++ [c]) (i + 1)
theorem runA_cons (rules : Int) (c : UInt8) (cs pend : List UInt8) (i : Nat) : runA rules (c :: cs) pend i =
    if (tried pend rules 0 c).2.2 ≠ 0 then ([], i + 1, (tried pend rules 0 c).2.2)
    else if (tried pend rules 0 c).2.1 then ((tried pend rules 0 c).1 :: (runA rules cs [] (i + 1)).1, (runA rules cs [] (i + 1)).2)
    else runA rules cs (pend ++ [c]) (i + 1) := rfl
/-- Requests ahead of what comes. -/
def ahead (l : List Req) (r : List Req × Nat × Nat) : List Req × Nat × Nat := (l ++ r.1, r.2)

def AllPost (bs : List UInt8) (rules : Int) (w : World) (e : Ending) (w' : World) : Prop :=
  ∃ v', e = .returned (.tuple #[v', .int .i64 (runA rules bs [] 0).2.1, .int .i64 (runA rules bs [] 0).2.2]) ∧ OwnQ w' w.heap.size v' (runA rules bs [] 0).1 ∧ Mod [] w w'

theorem fed_of {pend : List UInt8} {rules : Int} {c : UInt8} {q : Req} {ok : Bool} {e : Nat} (h : tried pend rules 0 c = (q, ok, e)) : fed pend rules 0 c = if e ≠ 0 then ([], e) else if ok then ([], 0) else (pend ++ [c], 0) := by
  unfold fed; rw [h]

set_option maxRecDepth 4000 in
set_option maxHeartbeats 1600000 in
theorem all_any {w : World} {v : Value} {bs : List UInt8} (hv : Sl w v (vb bs)) (hl : bs.length ≤ 100000) (rules : Int) :
    Calls Try.prog 18 #[v, .int .i64 rules] w (AllPost bs rules w) := by
  obtain ⟨a, cp, rfl, hm, hA⟩ := hv.open
  rw [vb_length] at *
  have HA := Lib.hid hA
  have hz := new_zero.1
  have hs := new_cells 0 rules
  clear hv hA
  go_enter Try.func18, Try.ntmps18
  go_wp2_with fail
  refine (new_any _ _).mono ?_
  rintro e2 w2 ⟨rfl, hM2⟩
  have M2 := Lib.hid hM2
  have hg := hM2.size
  clear hM2
  go_wp2_with fail
  have D0 := Lib.hid (new_dec w2 rules)
  have M3 := Lib.hid (M2.out.alloc (.cells (newCells rules) 27))
  clear hz hs
  go_loopw [8, 18] (fun x i wr => ∃ (k : Nat) (pend : List UInt8) (l : List Req), k ≤ bs.length ∧ l.length ≤ k ∧ i = .int .i64 k ∧ Dec wr w2.heap.size pend rules 0 ∧ OwnQ wr (w2.heap.size + 1) x l ∧ runA rules bs [] 0 = ahead l (runA rules (bs.drop k) pend k) ∧ Mod [] w wr) (fun _ i _ => bs.length - (intOf i).toNat)
  case atStart => exact ⟨0, [], [], Nat.zero_le _, Nat.le_refl _, rfl, D0.out, OwnQ.nil _ _, rfl, M3.out⟩
  case round =>
    obtain ⟨k, pend, l, hk, hlk, rfl, hD, hO, hR, hM⟩ := hrel
    have HD := Lib.hid hD
    have HO := Lib.hid hO
    have HR := Lib.hid hR
    have MR := Lib.hid hM
    have hgr : w2.heap.size < wr.heap.size := by obtain ⟨_, h, _⟩ := hD; exact h.blk.lt
    clear hD hO hR hM
    by_cases hlt : k < bs.length
    · obtain ⟨b, off, rfl, hb, hc⟩ := HA.out k hlt
      have ck : wr.cell? ⟨b, off + k, none⟩ = some (.int .u8 bs[k].toNat) := (MR.out.cell hb (by simp)).trans (hc k _ (vb_get (List.getElem?_eq_getElem hlt)))
      clear hc
      have hdr : bs.drop k = bs[k] :: bs.drop (k + 1) := List.drop_eq_getElem_cons hlt
      obtain ⟨q, ok, e, hT⟩ : ∃ q ok e, tried pend rules 0 bs[k] = (q, ok, e) := ⟨_, _, _, rfl⟩
      have hF := fed_of hT
      have hr1 := HR.out
      rw [hdr, runA_cons, hT] at hr1
      have HT := Lib.hid hT
      have HR1 := Lib.hid hr1
      clear hT hr1 hdr
      obtain ⟨op, rule, cost, key, k0⟩ := q
      by_cases he : e = 0
      · subst he
        cases ok
        · rw [if_neg (by simp), if_neg (by simp)] at hF
          have HF := Lib.hid hF
          have hr1 := HR1.out
          rw [if_neg (by simp), if_neg (by simp)] at hr1
          have HR2 := Lib.hid hr1
          clear hF hr1
          go_wp2_with fail
          refine (feed_at HD.out bs[k] HT.out HF.out).mono ?_
          rintro e4 w4 ⟨rfl, hM4, hD4⟩
          have D4 := Lib.hid (hD4.mod ((Mod.refl [] w4).alloc (.cells (Req.cells ⟨op, rule, cost, key, k0⟩).toArray 32)) (by simp))
          have O4 := Lib.hid ((HO.out.mod hM4 (by intro x hx; simp at hx; omega)).mod ((Mod.refl [] w4).alloc (.cells (Req.cells ⟨op, rule, cost, key, k0⟩).toArray 32)) (by simp))
          have M4 := Lib.hid ((MR.out.trans' hM4 (fun x hx => by simp at hx; omega)).alloc (.cells (Req.cells ⟨op, rule, cost, key, k0⟩).toArray 32))
          clear hM4 hD4
          go_wp2_with fail
          go_roundw
          case rel => exact ⟨k + 1, _, l, by omega, by omega, by go_num, D4.out, O4.out, HR2.out, M4.out⟩
          case measure => simp [intOf]; omega
        · rw [if_neg (by simp), if_pos rfl] at hF
          have HF := Lib.hid hF
          have hr1 := HR1.out
          rw [if_neg (by simp), if_pos rfl] at hr1
          have HR2 := Lib.hid hr1
          clear hF hr1
          go_wp2_with fail
          refine (feed_at HD.out bs[k] HT.out HF.out).mono ?_
          rintro e4 w4 ⟨rfl, hM4, hD4⟩
          have D4 := Lib.hid (hD4.mod (((Mod.refl [] w4).alloc (.cells (Req.cells ⟨op, rule, cost, key, k0⟩).toArray 32)).alloc (.cells (Req.cells ⟨op, rule, cost, key, k0⟩).toArray 32)) (by simp))
          have O4 := Lib.hid ((HO.out.mod hM4 (by intro x hx; simp at hx; omega)).mod (((Mod.refl [] w4).alloc (.cells (Req.cells ⟨op, rule, cost, key, k0⟩).toArray 32)).alloc (.cells (Req.cells ⟨op, rule, cost, key, k0⟩).toArray 32)) (by simp))
          have M4 := Lib.hid (((MR.out.trans' hM4 (fun x hx => by simp at hx; omega)).alloc (.cells (Req.cells ⟨op, rule, cost, key, k0⟩).toArray 32)).alloc (.cells (Req.cells ⟨op, rule, cost, key, k0⟩).toArray 32))
          have hs4 := hM4.size
          have B4 := Lib.hid (Box.new (w4.alloc (.cells (Req.cells ⟨op, rule, cost, key, k0⟩).toArray 32)) ⟨op, rule, cost, key, k0⟩ (n := w4.heap.size + 1) (by simp))
          clear hM4 hD4
          go_wp2_with (at_builtin; go_must (refine app_req ⟨op, rule, cost, key, k0⟩ _ O4.out rfl _ _ rfl rfl rfl B4.out (by simp; omega) (by omega) ?_; intro v5 w5 ho5 hM5))
          have hb5 := own_block O4.out
          have D5 := Lib.hid (D4.out.mod hM5 (fun hx => by have := hb5 _ (by simpa using hx); omega))
          have M5 := Lib.hid (M4.out.trans' hM5 (fun x hx => by have := hb5 x (by simpa using hx); omega))
          have O5 := Lib.hid ho5
          clear hM5 ho5 hb5
          go_wp2_with fail
          go_roundw
          case rel => exact ⟨k + 1, _, _, by omega, by rw [List.length_append, List.length_singleton]; omega, by go_num, D5.out, O5.out, by rw [HR2.out]; simp [ahead], M5.out⟩
          case measure => simp [intOf]; omega
      · rw [if_pos he] at hF
        have HF := Lib.hid hF
        have hr1 := HR1.out
        rw [if_pos he] at hr1
        have HR2 := Lib.hid hr1
        clear hF hr1
        have de : ((e : Int) != 0) = true := by simp; omega
        go_wp2_with fail
        refine (feed_at HD.out bs[k] HT.out HF.out).mono ?_
        rintro e4 w4 ⟨rfl, hM4, hD4⟩
        have O4 := Lib.hid ((HO.out.mod hM4 (by intro x hx; simp at hx; omega)).mod ((Mod.refl [] w4).alloc (.cells (Req.cells ⟨op, rule, cost, key, k0⟩).toArray 32)) (by simp))
        have M4 := Lib.hid ((MR.out.trans' hM4 (fun x hx => by simp at hx; omega)).alloc (.cells (Req.cells ⟨op, rule, cost, key, k0⟩).toArray 32))
        clear hM4 hD4
        go_wp2_with fail
        refine bodyPost_ret (v := .tuple #[u8, .int .i64 (k + 1), .int .i64 e]) (by simp [results, Try.results18, go_sem]) rfl ⟨u8, ?_, own_base (base := w2.heap.size + 1) (base' := w.heap.size) ?_ (by omega), M4.out⟩
        · rw [HR2.out]; simp [ahead]
        · rw [HR2.out]; simp only [ahead, List.append_nil]; exact O4.out
    · obtain rfl : k = bs.length := by omega
      have hr1 := HR.out
      rw [List.drop_length] at hr1
      have HR1 := Lib.hid hr1
      clear hr1
      go_wp2_with fail
      refine bodyPost_ret (v := .tuple #[u8, .int .i64 bs.length, .int .i64 0]) (by simp [results, Try.results18, go_sem]) rfl ⟨u8, ?_, own_base (base := w2.heap.size + 1) (base' := w.heap.size) ?_ (by omega), MR.out⟩
      · rw [HR1.out]; simp [ahead, runA]
      · rw [HR1.out]; simp only [ahead, runA, List.append_nil]; exact HO.out
end Go.Proofs.Ytfmojpkggkjceaa.Frame
