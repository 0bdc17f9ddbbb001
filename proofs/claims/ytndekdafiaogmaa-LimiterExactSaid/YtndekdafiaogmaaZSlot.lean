/- slot.Slot: what it holds; at, Count, Least. | slot.Slot: Add, Clear, New. | hash.Rows: of any number of functions. -/
import Derived.Test.YtndekdafiaogmaaZArith
import Derived.Test.YtndekdafiaogmaaZHash
import Derived.Test.YtndekdafiaogmaaZLow
import Derived.Test.YtndekdafiaogmaaZSum
import Derived.Lib.SliceRun
set_option linter.unusedSimpArgs false
set_option linter.unusedVariables false
section
namespace Go.Proofs.Ytndekdafiaogmaa.Slot
open Go Go.RowKit Go.YtndekdafiaogmaaMem Go.YtndekdafiaogmaaLex Go.Proofs.Ytndekdafiaogmaa.Hash Go.Proofs.Ytndekdafiaogmaa.Arith
open Go.Proofs.Ytndekdafiaogmaa.Sum (i64s i64s_get i64s_set)
instance : Inhabited Row := ⟨⟨1, 1, 0⟩⟩
def RowsAt (w : World) (rb : Nat) (R : List Row) : Prop :=
 rb < w.heap.size ∧ ∀ (i : Nat) (r : Row), R[i]? = some r → w.cell? ⟨rb, i * 3, none⟩ = some (.int .u64 (r.x : Int)) ∧ w.cell? ⟨rb, i * 3 + 1, none⟩ = some (.int .u64 (r.a : Int)) ∧ w.cell? ⟨rb, i * 3 + 2, none⟩ = some (.int .u64 (r.b : Int))
theorem RowsAt.mod {S : List Nat} {w w' : World} {rb : Nat} {R : List Row} (h : RowsAt w rb R) (hm : Mod S w w') (hb : rb ∉ S) : RowsAt w' rb R :=
 ⟨hm.lt h.1, fun i r hr => by
  obtain ⟨h1, h2, h3⟩ := h.2 i r hr
  exact ⟨(hm.cell (a := ⟨rb, i * 3, none⟩) h.1 hb).trans h1, (hm.cell (a := ⟨rb, i * 3 + 1, none⟩) h.1 hb).trans h2, (hm.cell (a := ⟨rb, i * 3 + 2, none⟩) h.1 hb).trans h3⟩⟩
structure SlB where
 s : Nat
 nb : Nat
 rb : Nat
 rc : Nat
structure Good (R : List Row) (wd : Nat) : Prop where
 ok : ∀ r ∈ R, r.ok
 few : 1 ≤ R.length ∧ R.length ≤ 100
 wide : 1 ≤ wd ∧ wd < 4096
structure SlotAt (w : World) (B : SlB) (R : List Row) (wd : Nat) (N : List Int) : Prop where
 blk : Blk w B.s 148 [.slice (some ⟨B.rb, 0, none⟩) R.length B.rc, .int .i64 (wd : Int), .slice (some ⟨B.nb, 0, none⟩) N.length N.length]
 rows : RowsAt w B.rb R
 cnt : Blk w B.nb 2 (i64s N)
 len : N.length = R.length * wd
 good : Good R wd
 ne : B.s ≠ B.nb ∧ B.s ≠ B.rb ∧ B.nb ≠ B.rb
theorem SlotAt.mod {S : List Nat} {w w' : World} {B : SlB} {R : List Row} {wd : Nat} {N : List Int} (h : SlotAt w B R wd N) (hm : Mod S w w') (h1 : B.s ∉ S) (h2 : B.nb ∉ S) (h3 : B.rb ∉ S) : SlotAt w' B R wd N :=
 ⟨hm.blk h.blk h1, h.rows.mod hm h3, hm.blk h.cnt h2, h.len, h.good, h.ne⟩
def idx (R : List Row) (wd : Nat) (row : Nat) (key : List UInt8) : Nat := row * wd + place ((R.getD row default).of key) wd
def cntS (R : List Row) (wd : Nat) (N : List Int) (row : Nat) (key : List UInt8) : Int := N.getD (idx R wd row key) 0
def leastTo (R : List Row) (wd : Nat) (N : List Int) (key : List UInt8) : Nat → Int
 | 0 => cntS R wd N 0 key
 | k + 1 => min (leastTo R wd N key k) (cntS R wd N (k + 1) key)
def leastS (R : List Row) (wd : Nat) (N : List Int) (key : List UInt8) : Int := leastTo R wd N key (R.length - 1)
def addTo (R : List Row) (wd : Nat) (key : List UInt8) (want : Int) : Nat → List Int → List Int
 | 0, N => N
 | k + 1, N => (addTo R wd key want k N).set (idx R wd k key) (max (cntS R wd (addTo R wd key want k N) k key) want)
def addS (R : List Row) (wd : Nat) (N : List Int) (key : List UInt8) (cost : Int) : List Int := addTo R wd key (sum (leastS R wd N key) cost) R.length N
theorem addTo_length (R : List Row) (wd : Nat) (key : List UInt8) (want : Int) : ∀ k N, (addTo R wd key want k N).length = N.length
 | 0, N => rfl
 | k + 1, N => by unfold addTo; rw [List.length_set, addTo_length R wd key want k N]
theorem idx_lt {R : List Row} {wd : Nat} (h : 1 ≤ wd) {row : Nat} (hr : row < R.length) (key : List UInt8) : idx R wd row key < R.length * wd := by
 have h1 : place ((R.getD row default).of key) wd < wd := place_lt (Row.of_lt _ _) (by omega)
 have h2 : (row + 1) * wd ≤ R.length * wd := Nat.mul_le_mul_right _ hr
 have h3 : (row + 1) * wd = row * wd + wd := by rw [Nat.add_mul, Nat.one_mul]
 unfold idx; omega
section
variable {w : World} {B : SlB} {R : List Row} {wd : Nat} {N : List Int}
theorem SlotAt.get (h : SlotAt w B R wd N) {row : Nat} (hr : row < R.length) (key : List UInt8) : w.cell? ⟨B.nb, idx R wd row key, none⟩ = some (.int .i64 (cntS R wd N row key)) := by
 have hi := idx_lt h.good.wide.1 hr key
 rw [← h.len] at hi
 refine h.cnt.cell (i64s_get (N := N) (p := idx R wd row key) ?_)
 unfold cntS
 rw [List.getD_eq_getElem?_getD, List.getElem?_eq_getElem hi]; rfl
set_option maxRecDepth 8000 in
set_option maxHeartbeats 1600000 in
theorem at_any (h : SlotAt w B R wd N) (row : Nat) (hr : row < R.length) (key : List UInt8) (hl : key.length ≤ 1000000) :
  Calls Try.prog 97 #[.pointer (some ⟨B.s, 0, none⟩), .int .i64 (row : Int), .string ⟨key.toArray⟩] w fun e w' => e = .returned (.pointer (some ⟨B.nb, idx R wd row key, none⟩)) ∧ Mod [] w w' := by
 obtain ⟨r, hrr⟩ : ∃ r, R[row]? = some r := ⟨_, List.getElem?_eq_getElem hr⟩
 have hok := h.good.ok r (List.mem_of_getElem? hrr)
 have hw := h.good.wide
 have hfew := h.good.few
 have BK := Lib.hid (fun W : World => bucket_any r key wd hok hl (by omega) (by omega) W)
 have hi := idx_lt (R := R) hw.1 hr key
 have hpl : place (r.of key) wd < wd := place_lt (Row.of_lt _ _) (by omega)
 have hidx : idx R wd row key = row * wd + place (r.of key) wd := by unfold idx; rw [List.getD_eq_getElem?_getD, hrr]; rfl
 obtain ⟨p, hp⟩ : ∃ p, place (r.of key) wd = p := ⟨_, rfl⟩
 rw [hp] at BK hpl hidx
 obtain ⟨rx, ra, rb⟩ := r
 obtain ⟨x0, x1, x2⟩ := h.rows.2 row _ hrr
 have c0 := h.blk.cell (i := 0) rfl
 have c1 := h.blk.cell (i := 1) rfl
 have c2 := h.blk.cell (i := 2) rfl
 have IS := Lib.hid (show IsC w.drew B.s from isC_of_cell (w := w) c0)
 have hlen := h.len
 have hmul : row * wd ≤ 100 * 4096 := Nat.mul_le_mul (by omega) (by omega)
 obtain ⟨q, hq⟩ : ∃ q, row * wd = q := ⟨_, rfl⟩
 have hqi : (row : Int) * (wd : Int) = (q : Int) := by rw [← hq]; exact (Int.natCast_mul row wd).symm
 obtain ⟨ix, hix⟩ : ∃ ix, idx R wd row key = ix := ⟨_, rfl⟩
 have hsum : (q : Int) + (p : Int) = (ix : Int) := by rw [← hix, hidx, ← hq]; omega
 obtain ⟨m, hm⟩ : ∃ m, N.length = m := ⟨_, rfl⟩
 have hixm : ix < m := by rw [← hm, hlen, ← hix]; exact hi
 obtain ⟨u, hu⟩ : ∃ u, R.length = u := ⟨_, rfl⟩
 have hru : row < u := by rw [← hu]; exact hr
 have hu100 : u ≤ 100 := by rw [← hu]; exact hfew.2
 have hw2 : wd < 4096 := hw.2
 have hw1 : 1 ≤ wd := hw.1
 have hq0 : q ≤ 409600 := by omega
 have hm2 : m ≤ 409600 := by rw [← hm, hlen, hu]; exact (Nat.mul_le_mul (show u ≤ 100 from hu100) (show wd ≤ 4096 by omega))
 rw [hix]
 rw [hu] at c0
 rw [hm] at c2
 clear h hrr hok hw hfew hi hidx hp hlen hmul hq hix hm hu hr hl
 simp only at x0 x1 x2
 go_enter Try.func97, Try.ntmps97
 go_wp2_with fail
 refine Go.YtndekdafiaogmaaLex.wp_region_held [23] [3, 8] [] (by kernel_rfl) (by kernel_rfl) ?_
 simp only [wpCut, List.take_succ_cons, List.take_zero, List.drop_succ_cons, List.drop_zero, List.cons_append, List.nil_append]
 go_wp2_with fail
 refine (BK.out _).mono ?_
 rintro e1 w1 ⟨rfl, hM⟩
 have D1 := Lib.hid hM
 clear hM
 go_wp2_with fail
 refine ⟨D1.out, ?_⟩
 go_wp2_with fail
 refine ⟨by kernel_rfl, ⟨⟨by simp, IS.out⟩, ⟨by simp, IS.out⟩, trivial⟩, ?_⟩
 go_wp2_with fail
 go_ret
 exact ⟨rfl, (Mod.refl [] w).drew.trans D1.out⟩
set_option maxRecDepth 4000 in
theorem count_any (h : SlotAt w B R wd N) (row : Nat) (hr : row < R.length) (key : List UInt8) (hl : key.length ≤ 1000000) :
  Calls Try.prog 86 #[.pointer (some ⟨B.s, 0, none⟩), .int .i64 (row : Int), .string ⟨key.toArray⟩] w fun e w' => e = .returned (.int .i64 (cntS R wd N row key)) ∧ Mod [] w w' := by
 have AT := Lib.hid (at_any h row hr key hl)
 have G := Lib.hid (fun W (hm : Mod [] w W) => (h.mod hm (by simp) (by simp) (by simp)).get hr key)
 have c0 := h.blk.cell (i := 0) rfl
 have hfew := h.good.few
 obtain ⟨u, hu⟩ : ∃ u, R.length = u := ⟨_, rfl⟩
 rw [hu] at c0 hr hfew
 clear h hl hu
 go_enter Try.func86, Try.ntmps86
 go_wp2_with fail
 refine AT.out.mono ?_
 rintro e1 w1 ⟨rfl, hM⟩
 have M1 := Lib.hid hM
 have g := G.out w1 hM
 clear hM
 go_wp2_with fail
 go_ret
 exact ⟨rfl, M1.out⟩
set_option maxRecDepth 4000 in
theorem least_any (h : SlotAt w B R wd N) (key : List UInt8) (hl : key.length ≤ 1000000) :
  Calls Try.prog 95 #[.pointer (some ⟨B.s, 0, none⟩), .string ⟨key.toArray⟩] w fun e w' => e = .returned (.int .i64 (leastS R wd N key)) ∧ Mod [] w w' := by
 have hfew := h.good.few
 have AT : Hid (∀ W, Mod [] w W → ∀ row : Nat, row < R.length → Calls Try.prog 97 #[.pointer (some ⟨B.s, 0, none⟩), .int .i64 (row : Int), .string ⟨key.toArray⟩] W fun e w' => e = .returned (.pointer (some ⟨B.nb, idx R wd row key, none⟩)) ∧ Mod [] W w') := Lib.hid fun W hm row hr => at_any (h.mod hm (by simp) (by simp) (by simp)) row hr key hl
 have G := Lib.hid (fun (row : Nat) (hr : row < R.length) W (hm : Mod [] w W) => (h.mod hm (by simp) (by simp) (by simp)).get hr key)
 have C0 := Lib.hid (fun W (hm : Mod [] w W) => (hm.blk h.blk (by simp)).cell (i := 0) rfl)
 have hls : leastS R wd N key = leastTo R wd N key (R.length - 1) := rfl
 have A0 := Lib.hid (AT.out w (Mod.refl _ _) 0 (by omega))
 obtain ⟨u, hu⟩ : ∃ u, R.length = u := ⟨_, rfl⟩
 rw [hu] at AT G C0 hfew hls
 rw [hls]
 clear h hl hu hls
 go_enter Try.func95, Try.ntmps95
 go_wp2_with fail
 refine A0.out.mono ?_
 rintro e1 w1 ⟨rfl, hM⟩
 have M1 := Lib.hid hM
 have g := G.out 0 (by omega) w1 hM
 clear hM
 go_wp2_with fail
 go_loopw [5, 6] (fun v r W => ∃ k : Nat, k < u ∧ r = .int .i64 ((k : Int) + 1) ∧ v = .int .i64 (leastTo R wd N key k) ∧ Mod [] w W) (fun _ r _ => u - (intOf r).toNat)
 case atStart => exact ⟨0, by omega, rfl, rfl, M1.out⟩
 case round =>
  obtain ⟨k, hk, rfl, rfl, hM⟩ := hrel
  have MR := Lib.hid hM
  have c0 := C0.out wr hM
  by_cases hlt : k + 1 < u
  ·have A1 := Lib.hid (AT.out wr hM (k + 1) hlt)
   rw [show ((k + 1 : Nat) : Int) = (k : Int) + 1 by omega] at A1
   clear hM
   go_wp2_with fail
   refine A1.out.mono ?_
   rintro e2 w2 ⟨rfl, hM2⟩
   have M2 := Lib.hid (MR.out.trans hM2)
   have g2 := G.out (k + 1) hlt w2 M2.out
   obtain ⟨lk, hlk⟩ : ∃ lk, leastTo R wd N key k = lk := ⟨_, rfl⟩
   obtain ⟨ck, hck⟩ : ∃ ck, cntS R wd N (k + 1) key = ck := ⟨_, rfl⟩
   rw [hck] at g2
   rw [hlk]
   have hst : Hid (leastTo R wd N key (k + 1) = min lk ck) := Lib.hid (by rw [← hlk, ← hck]; rfl)
   obtain ⟨mn, hmn⟩ : ∃ mn, min lk ck = mn := ⟨_, rfl⟩
   have hmr : ∀ w : World, (Builtin.min_ #[2, 2] 2 #[.int .i64 lk, .int .i64 ck]).run Try.prog w = .ok (.int .i64 mn) w := fun w => by
    show Result.ok (Value.int .i64 (if ck < lk then ck else lk)) w = _
    congr 2; omega
   rw [hmn] at hst
   clear hM2 hlk hck hmn
   go_wp2_with fail
   go_roundw
   case rel => exact ⟨k + 1, by omega, by go_num, by rw [hst.out], M2.out⟩
   case measure => simp [intOf]; omega
  ·have hku : k = u - 1 := by omega
   have HK := Lib.hid hku
   clear hM hku
   go_wp2_with fail
   go_ret
   exact ⟨by rw [HK.out]; rfl, MR.out⟩
end
end Go.Proofs.Ytndekdafiaogmaa.Slot
end
section
namespace Go.Proofs.Ytndekdafiaogmaa.Slot
open Go Go.RowKit Go.YtndekdafiaogmaaMem Go.YtndekdafiaogmaaLex Go.Proofs.Ytndekdafiaogmaa.Hash Go.Proofs.Ytndekdafiaogmaa.Arith
open Go.Proofs.Ytndekdafiaogmaa.Sum (i64s i64s_get i64s_set)
section
variable {w : World} {B : SlB} {R : List Row} {wd : Nat} {N : List Int}
theorem SlotAt.put (h : SlotAt w B R wd N) (p : Nat) (z : Int) : SlotAt (w.setCell ⟨B.nb, p, none⟩ (.int .i64 z)) B R wd (N.set p z) := by
 have MS := (Mod.refl [B.nb] w).setCell (p := ⟨B.nb, p, none⟩) (.inl (by simp)) (.int .i64 z)
 have hne := h.ne
 refine ⟨?_, h.rows.mod MS (by simp; exact fun e => hne.2.2 e.symm), ?_, by rw [List.length_set]; exact h.len, h.good, h.ne⟩
 ·rw [List.length_set]; exact MS.blk h.blk (by simp; exact hne.1)
 ·have := h.cnt.set p (.int .i64 z)
  rw [i64s_set] at this
  exact this
def addC (R : List Row) (wd : Nat) (N : List Int) (key : List UInt8) (cost : Int) : List Int := if cost < 1 then N else addS R wd N key cost
def AddPost (B : SlB) (R : List Row) (wd : Nat) (N' : List Int) (w : World) (e : Ending) (w' : World) : Prop := (∃ v, e = .returned v) ∧ SlotAt w' B R wd N' ∧ Mod [B.nb] w w'
theorem cnt_i64 (hN : ∀ z ∈ N, I64 z) (row : Nat) (key : List UInt8) : I64 (cntS R wd N row key) := by
 unfold cntS
 rw [List.getD_eq_getElem?_getD]
 cases h : N[idx R wd row key]? with
 | none => simp [I64]
 | some z => exact hN z (List.mem_of_getElem? h)
theorem leastTo_i64 (hN : ∀ z ∈ N, I64 z) (key : List UInt8) : ∀ k, I64 (leastTo R wd N key k)
 | 0 => cnt_i64 hN 0 key
 | k + 1 => by
   have h1 := leastTo_i64 hN key k
   have h2 := cnt_i64 (R := R) (wd := wd) hN (k + 1) key
   unfold leastTo
   unfold I64 at *
   omega
set_option maxRecDepth 4000 in
theorem add_any (h : SlotAt w B R wd N) (hN : ∀ z ∈ N, I64 z) (key : List UInt8) (hl : key.length ≤ 1000000) (cost : Int) (hc : I64 cost) :
  Calls Try.prog 80 #[.pointer (some ⟨B.s, 0, none⟩), .string ⟨key.toArray⟩, .int .i64 cost] w (AddPost B R wd (addC R wd N key cost) w) := by
 have hc0 : I64 (leastS R wd N key) := leastTo_i64 hN key _
 by_cases h1 : cost < 1
 ·have d1 : decide (cost < 1) = true := by simp [h1]
  have he : addC R wd N key cost = N := by unfold addC; rw [if_pos h1]
  rw [he]
  have H := Lib.hid h
  clear h hN hl hc hc0 he h1
  go_enter Try.func80, Try.ntmps80
  go_wp2_with fail
  exact bodyPost_ret (results_none rfl _ _ _) rfl ⟨⟨_, rfl⟩, H.out, Mod.refl _ _⟩
 ·have d1 : decide (cost < 1) = false := by simp; omega
  obtain ⟨want, hw⟩ : ∃ want, sum (leastS R wd N key) cost = want := ⟨_, rfl⟩
  have he : addC R wd N key cost = addTo R wd key want R.length N := by unfold addC; rw [if_neg h1]; unfold addS; rw [hw]
  rw [he]
  have LS := Lib.hid (least_any h key hl)
  have SU := Lib.hid (fun W => sum_any (leastS R wd N key) cost hc0 hc W)
  rw [hw] at SU
  obtain ⟨ls, hls⟩ : ∃ ls, leastS R wd N key = ls := ⟨_, rfl⟩
  rw [hls] at LS SU
  have H := Lib.hid h
  have HL := Lib.hid hl
  have hfew := h.good.few
  obtain ⟨u, hu⟩ : ∃ u, R.length = u := ⟨_, rfl⟩
  have HU := Lib.hid hu
  rw [hu] at hfew ⊢
  clear h hN hl hc hc0 he h1 hls hw hu
  go_enter Try.func80, Try.ntmps80
  go_wp2_with fail
  refine LS.out.mono ?_
  rintro e1 w1 ⟨rfl, hM⟩
  have M1 := Lib.hid hM
  have A1 := Lib.hid (H.out.mod hM (by simp) (by simp) (by simp))
  have c0 := A1.out.blk.cell (i := 0) rfl
  rw [HU.out] at c0
  clear hM
  go_wp2_with fail
  refine (SU.out _).mono ?_
  rintro e2 w2 ⟨rfl, rfl⟩
  go_wp2_with fail
  go_loopw [25] (fun r W => ∃ k : Nat, k ≤ u ∧ r = .int .i64 (k : Int) ∧ SlotAt W B R wd (addTo R wd key want k N) ∧ Mod [B.nb] w W) (fun r _ => u - (intOf r).toNat)
  case atStart => exact ⟨0, Nat.zero_le _, rfl, A1.out, M1.out.mono (by simp)⟩
  case round =>
   obtain ⟨k, hk, rfl, hA, hM⟩ := hrel
   have MR := Lib.hid hM
   have AR := Lib.hid hA
   by_cases hlt : k < u
   ·have A2 := Lib.hid (at_any hA k (by rw [HU.out]; exact hlt) key HL.out)
    have G := Lib.hid (fun W (hm : Mod [] wr W) => (hA.mod hm (by simp) (by simp) (by simp)).get (row := k) (by rw [HU.out]; exact hlt) key)
    have F := Lib.hid (fun W (hm : Mod [] wr W) => (hm.blk hA.cnt (by simp)).free (idx R wd k key))
    have PT := Lib.hid (fun W (hm : Mod [] wr W) (z : Int) => (hA.mod hm (by simp) (by simp) (by simp)).put (idx R wd k key) z)
    have hst : Hid (addTo R wd key want (k + 1) N = (addTo R wd key want k N).set (idx R wd k key) (max (cntS R wd (addTo R wd key want k N) k key) want)) := Lib.hid rfl
    obtain ⟨N1, hN1⟩ : ∃ N1, addTo R wd key want k N = N1 := ⟨_, rfl⟩
    rw [hN1] at G PT hst AR
    clear hA hM hN1
    go_wp2_with fail
    refine A2.out.mono ?_
    rintro e3 w3 ⟨rfl, hM3⟩
    have g := G.out w3 hM3
    have f := F.out w3 hM3
    have P3 := Lib.hid (PT.out w3 hM3)
    have M3 := Lib.hid (MR.out.trans (hM3.mono (S' := [B.nb]) (by simp)))
    obtain ⟨ix, hix⟩ : ∃ ix, idx R wd k key = ix := ⟨_, rfl⟩
    obtain ⟨ck, hck⟩ : ∃ ck, cntS R wd N1 k key = ck := ⟨_, rfl⟩
    rw [hix, hck] at g
    rw [hix] at f P3
    rw [hix, hck] at hst
    rw [hix]
    obtain ⟨mx, hmx⟩ : ∃ mx, max ck want = mx := ⟨_, rfl⟩
    have hmr : ∀ w : World, (Builtin.max_ #[2, 2] 2 #[.int .i64 ck, .int .i64 want]).run Try.prog w = .ok (.int .i64 mx) w := fun w => by
     show Result.ok (Value.int .i64 (if ck < want then want else ck)) w = _
     congr 2; omega
    rw [hmx] at hst
    clear hM3 hix hck hmx
    go_wp2_with fail
    go_roundw
    case rel => exact ⟨k + 1, by omega, by go_num, by rw [hst.out]; exact P3.out _, M3.out.setCell (p := ⟨B.nb, ix, none⟩) (.inl (by simp)) _⟩
    case measure => simp [intOf]; omega
   ·obtain rfl : u = k := by omega
    clear hA hM
    go_wp2_with fail
    exact bodyPost_end (results_none rfl _ _ _) rfl ⟨⟨_, rfl⟩, AR.out, MR.out⟩
end
theorem blk_fill {b : Nat} {T : TypeId} : ∀ (vs : List Value) (o : Nat) (w : World) (cs : List Value), Blk w b T cs → o + vs.length ≤ cs.length → Blk (w.setCells b o vs) b T (cs.take o ++ vs ++ cs.drop (o + vs.length))
 | [], o, w, cs, h, hl => by
   show Blk w b T _
   simpa using h
 | v :: vs, o, w, cs, h, hl => by
   have h1 := blk_fill vs (o + 1) _ _ (h.set o v) (by rw [List.length_set]; simp at hl; omega)
   show Blk ((w.setCell ⟨b, o, none⟩ v).setCells b (o + 1) vs) b T _
   have e : (cs.set o v).take (o + 1) ++ vs ++ (cs.set o v).drop (o + 1 + vs.length) = cs.take o ++ (v :: vs) ++ cs.drop (o + (v :: vs).length) := by
    have ho : o < cs.length := by simp at hl; omega
    rw [List.drop_set_of_lt (by omega), List.take_add_one, List.getElem?_set_self ho, List.take_set_of_le (Nat.le_refl _)]
    simp
    congr 1
    omega
   rw [e] at h1
   exact h1
theorem mod_fill {b : Nat} : ∀ (vs : List Value) (o : Nat) (w : World), Mod [b] w (w.setCells b o vs)
 | [], o, w => Mod.refl _ _
 | v :: vs, o, w => ((Mod.refl [b] w).setCell (p := ⟨b, o, none⟩) (.inl (by simp)) v).trans (mod_fill vs (o + 1) _)
section
variable {w : World} {B : SlB} {R : List Row} {wd : Nat} {N : List Int}
set_option maxRecDepth 4000 in
theorem clear_any (h : SlotAt w B R wd N) : Calls Try.prog 79 #[.pointer (some ⟨B.s, 0, none⟩)] w (AddPost B R wd (List.replicate N.length 0) w) := by
 have c2 := h.blk.cell (i := 2) rfl
 have hn : 0 < N.length := by
  have h1 := h.good.few.1
  have h2 := h.good.wide.1
  rw [h.len]; exact Nat.mul_pos (by omega) (by omega)
 have hcl : ∀ w2 : World, w2 = w → (Builtin.clear_ #[121] 0 #[.slice (some ⟨B.nb, 0, none⟩) N.length N.length]).run Try.prog w2 = .ok (.tuple #[]) (w2.setCells B.nb 0 (List.replicate N.length (.int .i64 0))) := fun w2 e => by
  subst e
  exact Lib.run_clear_slice w2 _ 2 0 (.int .i64 0) rfl (fun _ => rfl) rfl rfl B.nb 0 N.length N.length hn (fun j hj => by rw [Nat.zero_add, h.cnt.cell (i64s_get (p := j) (List.getElem?_eq_getElem hj))]; rfl) (fun j _ => h.cnt.free _)
 have h2 := blk_fill (List.replicate N.length (.int .i64 0)) 0 w _ h.cnt (by simp)
 have MF := Lib.hid (mod_fill (b := B.nb) (List.replicate N.length (.int .i64 0)) 0 w)
 have HE := Lib.hid (show SlotAt (w.setCells B.nb 0 (List.replicate N.length (.int .i64 0))) B R wd (List.replicate N.length 0) from by
  have hne := h.ne
  refine ⟨?_, h.rows.mod MF.out (by simp; exact fun e => hne.2.2 e.symm), ?_, by rw [List.length_replicate]; exact h.len, h.good, h.ne⟩
  ·rw [List.length_replicate]; exact MF.out.blk h.blk (by simp; exact hne.1)
  ·have e : (i64s N).take 0 ++ List.replicate N.length (Value.int .i64 0) ++ (i64s N).drop (0 + (List.replicate N.length (Value.int .i64 0)).length) = i64s (List.replicate N.length 0) := by simp
   rw [e] at h2
   exact h2)
 have hcl2 := hcl w rfl
 clear h h2 hn hcl
 go_enter Try.func79, Try.ntmps79
 go_wp2_with fail
 exact bodyPost_end (results_none rfl _ _ _) rfl ⟨⟨_, rfl⟩, HE.out, MF.out⟩
end
theorem make_many (n : Nat) (hn : n ≤ 409600) (w : World) : (Instr.makeSlice 121 (.int .i64 (n : Int)) (.int .i64 (n : Int))).run Try.prog w = .ok (.slice (some ⟨w.heap.size, 0, none⟩) n n) (w.alloc (.cells (i64s (List.replicate n 0)).toArray 2)) := by
 have h := run_make_row' (P := Try.prog) 121 2 (.int .i64 0) 8 Try.underlying121 Sum.i64_info rfl .i64 .i64 n (by omega) (by omega)
 have e : madeCells #[.int .i64 0] n = (i64s (List.replicate n 0)).toArray := by
  rw [← Array.toArray_toList (xs := madeCells _ _), toList_madeCells_one]; unfold i64s; rw [List.map_replicate]
 rw [e] at h
 exact h w
def NewPost (rb rc : Nat) (R : List Row) (wd : Nat) (w : World) (e : Ending) (w' : World) : Prop :=
 ∃ s nb, e = .returned (.pointer (some ⟨s, 0, none⟩)) ∧ SlotAt w' ⟨s, nb, rb, rc⟩ R wd (List.replicate (R.length * wd) 0) ∧ w.heap.size ≤ s ∧ w.heap.size ≤ nb ∧ Mod [] w w'
set_option maxRecDepth 4000 in
theorem new_any {w : World} {rb rc : Nat} {R : List Row} {wd : Nat} (hr : RowsAt w rb R) (hg : Good R wd) :
  Calls Try.prog 63 #[.slice (some ⟨rb, 0, none⟩) R.length rc, .int .i64 (wd : Int)] w (NewPost rb rc R wd w) := by
 have h1 := hg.few
 have h2 := hg.wide
 have hm : R.length * wd ≤ 409600 := Nat.mul_le_mul (show R.length ≤ 100 from h1.2) (show wd ≤ 4096 by omega)
 have MK := make_many (R.length * wd) hm w
 obtain ⟨m, hm'⟩ : ∃ m, R.length * wd = m := ⟨_, rfl⟩
 have hmi : (R.length : Int) * (wd : Int) = (m : Int) := by rw [← hm']; exact (Int.natCast_mul _ _).symm
 have X1 := Lib.hid (Blk.new w (i64s (List.replicate m 0)) 2)
 have X2 := Lib.hid (Blk.new (w.alloc (.cells (i64s (List.replicate m 0)).toArray 2)) [.slice (some ⟨rb, 0, none⟩) R.length rc, .int .i64 (wd : Int), .slice (some ⟨w.heap.size, 0, none⟩) m m] 148)
 have HM := Lib.hid hm'
 have HR := Lib.hid hr
 have HG := Lib.hid hg
 rw [hm'] at MK hm
 have hlt := hr.1
 obtain ⟨u, hu⟩ : ∃ u, R.length = u := ⟨_, rfl⟩
 have HU := Lib.hid hu
 rw [hu] at hmi h1 X2 ⊢
 have d1 : decide ((wd : Int) < 1) = false := by simp; omega
 have d2 : decide ((u : Int) = 0) = false := by simp; omega
 have d3 : decide (wd < 1) = false := by simp; omega
 clear hr hg hm' hu
 go_enter Try.func63, Try.ntmps63
 go_wp2_with fail
 go_ret
 have hs : (w.alloc (.cells (i64s (List.replicate m 0)).toArray 2)).heap.size = w.heap.size + 1 := by simp
 have B2 := X2.out
 rw [hs] at B2
 have MM := ((Mod.refl [] w).alloc (.cells (i64s (List.replicate m 0)).toArray 2)).alloc (.cells #[.slice (some ⟨rb, 0, none⟩) u rc, .int .i64 (wd : Int), .slice (some ⟨w.heap.size, 0, none⟩) m m] 148)
 rw [show Array.replicate m (Value.int .i64 0) = (i64s (List.replicate m 0)).toArray by simp]
 refine ⟨w.heap.size + 1, w.heap.size, rfl, ⟨?_, HR.out.mod MM (fun h => nomatch h), ?_, by rw [List.length_replicate], HG.out, ?_⟩, by omega, by omega, MM⟩
 ·rw [List.length_replicate, HM.out, HU.out]; exact B2
 ·rw [HM.out]; exact X1.out.alloc _
 ·exact ⟨by simp, by simp; omega, by simp; omega⟩
end Go.Proofs.Ytndekdafiaogmaa.Slot
end
section
namespace Go.Proofs.Ytndekdafiaogmaa.Slot
open Go Go.RowKit Go.YtndekdafiaogmaaMem Go.YtndekdafiaogmaaLex Go.Proofs.Ytndekdafiaogmaa.Hash Go.Proofs.Ytndekdafiaogmaa.Arith
def rowAt (l : List Nat) (k : Nat) : Row := ⟨wholeN l (3 * k), wholeN l (3 * k + 1), l.getD (3 * k + 2) 0 % 2305843009213693951⟩
def rowsOf (l : List Nat) (n : Nat) : List Row := (List.range n).map (rowAt l)
theorem rowsOf_succ (l : List Nat) (n : Nat) : rowsOf l (n + 1) = rowsOf l n ++ [rowAt l n] := by unfold rowsOf; rw [List.range_succ, List.map_append]; rfl
theorem rowsOf_length (l : List Nat) (n : Nat) : (rowsOf l n).length = n := by simp [rowsOf]
theorem rowAt_ok (l : List Nat) (k : Nat) : (rowAt l k).ok := by
 refine ⟨?_, ?_, ?_⟩
 ·have := wholeN_lt l (3 * k); show wholeN l (3 * k) < _; omega
 ·have := wholeN_lt l (3 * k + 1); show wholeN l (3 * k + 1) < _; omega
 ·show l.getD (3 * k + 2) 0 % _ < _; omega
theorem rowsOf_ok (l : List Nat) (n : Nat) : ∀ r ∈ rowsOf l n, r.ok := by
 intro r hr
 unfold rowsOf at hr
 obtain ⟨k, _, rfl⟩ := List.mem_map.1 hr
 exact rowAt_ok l k
def flatR : List Row → List Value
 | [] => []
 | r :: R => .int .u64 (r.x : Int) :: .int .u64 (r.a : Int) :: .int .u64 (r.b : Int) :: flatR R
theorem flatR_append : ∀ (R S : List Row), flatR (R ++ S) = flatR R ++ flatR S
 | [], S => rfl
 | r :: R, S => by simp [flatR, flatR_append R S]
theorem flatR_get : ∀ (R : List Row) (i : Nat) (r : Row), R[i]? = some r → (flatR R)[i * 3]? = some (.int .u64 (r.x : Int)) ∧ (flatR R)[i * 3 + 1]? = some (.int .u64 (r.a : Int)) ∧ (flatR R)[i * 3 + 2]? = some (.int .u64 (r.b : Int))
 | [], i, r, h => by simp at h
 | q :: R, 0, r, h => by
   simp at h; subst h
   exact ⟨rfl, rfl, rfl⟩
 | q :: R, i + 1, r, h => by
   simp at h
   obtain ⟨h1, h2, h3⟩ := flatR_get R i r h
   rw [show (i + 1) * 3 = i * 3 + 1 + 1 + 1 by omega]
   exact ⟨h1, h2, h3⟩
def RowsNPost (l : List Nat) (n : Nat) (w : World) (e : Ending) (w' : World) : Prop :=
 ∃ g cap, e = .returned (.slice (some ⟨g, 0, none⟩) n cap) ∧ w.heap.size ≤ g ∧ n ≤ cap ∧ cap ≤ maxLen ∧ RowsAt w' g (rowsOf l n) ∧ Mod [] w w'
set_option maxRecDepth 4000 in
set_option maxHeartbeats 1600000 in
theorem rows_any {w : World} {v : Value} {l : List Nat} (hv : Sl w v (v64 l)) (hx : ∀ x, x ∈ l → x < 18446744073709551616) (n : Nat) (h1 : 1 ≤ n) (h9 : n ≤ 9) :
  Calls Try.prog 29 #[v, .int .i64 (n : Int)] w (RowsNPost l n w) := by
 obtain ⟨i0, hi, hz0, hz1, hz2⟩ := row_info
 have W := Lib.hid (fun (W : World) (hM : Mod [] w W) (i : Nat) (hi : i < 1000000) => whole_any (hv.mod hM (by simp)) i hi)
 have D := Lib.hid (fun (W : World) (hM : Mod [] w W) (i : Nat) (hi : i < 1000000) => draw_any (hv.mod hM (by simp)) i hi)
 have O := Lib.hid (fun (i : Nat) (W : World) => of_any (l.getD i 0) (by
  rw [List.getD_eq_getElem?_getD]
  cases h : l[i]? with
  | none => simp
  | some x => exact hx x (List.mem_of_getElem? h)) W)
 have hmm : min (max n 0) 9 = n := by omega
 have hmx : ∀ w : World, (Builtin.max_ #[3, 3] 3 #[.int .i64 (n : Int), .int .i64 0]).run Try.prog w = .ok (.int .i64 (n : Int)) w := fun w => by
  show Result.ok (Value.int .i64 (if (n : Int) < 0 then 0 else (n : Int))) w = _
  congr 2
 have hmn : ∀ w : World, (Builtin.min_ #[3, 3] 3 #[.int .i64 (n : Int), .int .i64 9]).run Try.prog w = .ok (.int .i64 (n : Int)) w := fun w => by
  show Result.ok (Value.int .i64 (if 9 < (n : Int) then 9 else (n : Int))) w = _
  congr 2; omega
 clear hv hx hmm
 go_enter Try.func29, Try.ntmps29
 go_wp2_with fail
 go_loopw [5, 10] (fun x i wr => ∃ k : Nat, k ≤ n ∧ i = .int .i64 (k : Int) ∧ wr.ownsRow w.heap.size 75 3 x k (flatR (rowsOf l k)) ∧ Mod [] w wr) (fun _ i _ => n - (intOf i).toNat)
 case atStart => exact ⟨0, Nat.zero_le _, rfl, World.ownsRow_nil _ _ _ _, Mod.refl _ _⟩
 case round =>
  obtain ⟨k, hk, rfl, hO, hM⟩ := hrel
  have HO := Lib.hid hO
  have MR := Lib.hid hM
  by_cases hlt : k < n
  ·have W0 := Lib.hid (W.out wr hM (3 * k) (by omega))
   have W1 := Lib.hid (W.out wr hM (3 * k + 1) (by omega))
   have D2 := Lib.hid (D.out wr hM (3 * k + 2) (by omega))
   have O2 := Lib.hid (O.out (3 * k + 2) wr)
   have hc : Hid (flatR (rowsOf l k) ++ [.int .u64 ((wholeN l (3 * k) : Nat) : Int), .int .u64 ((wholeN l (3 * k + 1) : Nat) : Int), .int .u64 ((l.getD (3 * k + 2) 0 % 2305843009213693951 : Nat) : Int)] = flatR (rowsOf l (k + 1))) := Lib.hid (by rw [rowsOf_succ, flatR_append]; rfl)
   rw [show ((3 * k : Nat) : Int) = 3 * (k : Int) by omega] at W0
   rw [show ((3 * k + 1 : Nat) : Int) = 3 * (k : Int) + 1 by omega] at W1
   rw [show ((3 * k + 2 : Nat) : Int) = 3 * (k : Int) + 2 by omega] at D2
   generalize wholeN l (3 * k) = q0 at *
   generalize wholeN l (3 * k + 1) = q1 at *
   generalize hq3 : l.getD (3 * k + 2) 0 % 2305843009213693951 = q2 at *
   generalize l.getD (3 * k + 2) 0 = d2 at *
   have hsz := hM.size
   have HB := Lib.hid (Blk.new wr [.int .u64 (q0 : Int), .int .u64 (q1 : Int), .int .u64 (q2 : Int)] 75)
   have MA := Lib.hid ((Mod.refl [] wr).alloc (.cells #[.int .u64 (q0 : Int), .int .u64 (q1 : Int), .int .u64 (q2 : Int)] 75))
   have HO2 := Lib.hid (MA.out.own hO (by simp))
   have HBO := Lib.hid (own_block hO)
   have hsz2 : w.heap.size ≤ (wr.alloc (.cells #[.int .u64 (q0 : Int), .int .u64 (q1 : Int), .int .u64 (q2 : Int)] 75)).heap.size := by simp; omega
   clear hO hM hq3 hsz
   go_wp2_with fail
   refine W0.out.mono ?_
   rintro e w1 ⟨rfl, rfl⟩
   go_wp2_with fail
   refine W1.out.mono ?_
   rintro e w1 ⟨rfl, rfl⟩
   go_wp2_with fail
   refine D2.out.mono ?_
   rintro e w1 ⟨rfl, rfl⟩
   go_wp2_with fail
   refine O2.out.mono ?_
   rintro e w1 ⟨rfl, rfl⟩
   go_wp2_with (at_builtin; go_must (refine wpList_append_own_at _ rfl _ _ 72 rfl w.heap.size 75 i0 _ 3 24 Try.underlying72 hi hz0 hz1 hz2 rfl (by decide) u5 k _ rfl HO2.out ⟨wr.heap.size, 0, none⟩ 1 1 [.int .u64 (q0 : Int), .int .u64 (q1 : Int), .int .u64 (q2 : Int)] rfl rfl (fun j u hu => by rw [add_eq, Nat.zero_add]; exact HB.out.cell hu) (fun u hu => by simp at hu; rcases hu with rfl | rfl | rfl <;> rfl) (by unfold maxLen; omega) (by omega) hsz2 ?_; intro v3 w3 ho3 hg3 hn3 hat3; have O3 := Lib.hid (hc.out ▸ ho3); have M3 := Lib.hid ((MR.out.trans MA.out).trans' (grown_mod (Mod.refl [] _) hg3) (fun b hb => .inr (HBO.out b (by simpa using hb)))); clear ho3 hg3 hn3 hat3))
   go_wp2_with fail
   go_roundw
   case rel => exact ⟨k + 1, by omega, by go_num, O3.out, M3.out⟩
   case measure => simp [intOf]; omega
  ·obtain rfl : n = k := by omega
   clear hO hM
   go_wp2_with fail
   go_ret
   rcases HO.out.2 with ⟨_, h0⟩ | ⟨g, cap, cur, rfl, h1', h2, h3, h4, h5, h6⟩
   ·omega
   ·refine ⟨g, cap, rfl, h1', h3, h4, ⟨lt_of_some h2, fun i r hr => ?_⟩, MR.out⟩
    have hcell : ∀ (i : Nat) (u : Value), (flatR (rowsOf l n))[i]? = some u → wr.cell? ⟨g, i, none⟩ = some u := fun i u hu => by
     have := HO.out.cells (g := g) rfl i u hu
     rw [add_eq, Nat.zero_add] at this; exact this
    obtain ⟨f1, f2, f3⟩ := flatR_get _ i r hr
    exact ⟨hcell _ _ f1, hcell _ _ f2, hcell _ _ f3⟩
end Go.Proofs.Ytndekdafiaogmaa.Slot
end
