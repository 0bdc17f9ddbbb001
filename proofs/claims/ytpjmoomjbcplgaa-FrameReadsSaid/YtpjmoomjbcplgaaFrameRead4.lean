/- frame.Read. -/
import Derived.Test.YtpjmoomjbcplgaaFrameRead3
namespace Go.Proofs.Ytpjmoomjbcplgaa.Frame
open Go Go.RowKit Go.YtpjmoomjbcplgaaMem Go.YtpjmoomjbcplgaaLex
set_option linter.unusedVariables false
set_option linter.unusedSimpArgs false

/-- How many bytes the frame says that it has. -/
def sz (bs : List UInt8) : Nat := 4 + numOf ((bs.drop 2).take 2)
def readF (bs : List UInt8) : Option (Said × List Cnt × Nat) :=
  if 6 ≤ bs.length ∧ nb bs 0 = 168 ∧ nb bs 1 = 1 ∧ 6 ≤ sz bs ∧ sz bs ≤ bs.length ∧ 128 ≤ nb bs 4 then (saidOf (nb bs 4 - 128) ((bs.drop 5).take (sz bs - 5))).map fun p => (p.1, p.2, sz bs) else none
def ReadAll (w : World) (bs : List UInt8) (e : Ending) (w' : World) : Prop :=
  Mod [] w w' ∧ ((readF bs = none ∧ e = .returned (.tuple #[.agg ((Said.zero 0).cells (.slice none 0 0)).toArray, .int .i64 0, .bool false])) ∨
    ∃ s l x n, readF bs = some (s, l, n) ∧ e = .returned (.tuple #[.agg (s.cells x).toArray, .int .i64 (n : Nat), .bool true]) ∧ OwnC w' w.heap.size x l)

theorem said_cells {w : World} {g : Nat} {s : Said} {x : Value} (h : Blk w g 55 (s.cells x)) : w.cell? ⟨g, 0, none⟩ = some (.int .i64 s.op) ∧ w.cell? ⟨g, 1, none⟩ = some (.int .i64 s.rule) ∧ w.cell? ⟨g, 2, none⟩ = some (.int .i64 s.v) ∧ w.cell? ⟨g, 3, none⟩ = some (.int .i64 s.r) ∧ w.cell? ⟨g, 4, none⟩ = some (.int .i64 s.t) ∧ w.cell? ⟨g, 5, none⟩ = some (.int .i64 s.a) ∧ w.cell? ⟨g, 6, none⟩ = some (.int .i64 s.b) ∧ w.cell? ⟨g, 7, none⟩ = some (.int .i64 s.c) ∧ w.cell? ⟨g, 8, none⟩ = some (.int .i64 s.d) ∧ w.cell? ⟨g, 9, none⟩ = some (.int .i64 s.e) ∧ w.cell? ⟨g, 10, none⟩ = some (x) ∧ w.cell? ⟨g, 11, none⟩ = some (.int .i64 s.er) :=
  ⟨h.cell rfl, h.cell rfl, h.cell rfl, h.cell rfl, h.cell rfl, h.cell rfl, h.cell rfl, h.cell rfl, h.cell rfl, h.cell rfl, h.cell rfl, h.cell rfl⟩
theorem said_free {w : World} {g : Nat} {cs : List Value} (h : Blk w g 55 cs) : w.frozen? ⟨g, 0, none⟩ = false ∧ w.frozen? ⟨g, 1, none⟩ = false ∧ w.frozen? ⟨g, 2, none⟩ = false ∧ w.frozen? ⟨g, 3, none⟩ = false ∧ w.frozen? ⟨g, 4, none⟩ = false ∧ w.frozen? ⟨g, 5, none⟩ = false ∧ w.frozen? ⟨g, 6, none⟩ = false ∧ w.frozen? ⟨g, 7, none⟩ = false ∧ w.frozen? ⟨g, 8, none⟩ = false ∧ w.frozen? ⟨g, 9, none⟩ = false ∧ w.frozen? ⟨g, 10, none⟩ = false ∧ w.frozen? ⟨g, 11, none⟩ = false :=
  ⟨h.free _, h.free _, h.free _, h.free _, h.free _, h.free _, h.free _, h.free _, h.free _, h.free _, h.free _, h.free _⟩
theorem and_127 {x : Nat} (h1 : 128 ≤ x) (h : x < 256) : bits .and .u8 (x : Int) 127 = ((x - 128 : Nat) : Int) := by
  have hc : (127 : Int) = ((127 : Nat) : Int) := rfl
  rw [hc]
  simp only [bits, BitVec.ofInt_natCast, BitVec.toNat_and, BitVec.toNat_ofNat]
  simp only [show IntKind.u8.bits = 8 from rfl]
  rw [Nat.mod_eq_of_lt (show x < 2 ^ 8 by omega), Nat.mod_eq_of_lt (show 127 < 2 ^ 8 by omega), show (127 : Nat) = 2 ^ 7 - 1 from rfl, Nat.and_two_pow_sub_one_eq_mod]
  have e : x % 2 ^ 7 = x - 128 := by omega
  rw [e]
  have h1 : (2 : Int) ^ IntKind.u8.bits = 256 := by decide
  have h2 : IntKind.u8.signed = false := rfl
  unfold IntKind.wrap
  simp only [h1, h2, Bool.false_and, Bool.false_eq_true, if_false]
  omega

set_option maxRecDepth 4000 in
set_option maxHeartbeats 3200000 in
theorem read_none {w : World} {v : Value} {bs : List UInt8} (hv : Sl w v (vb bs)) (hbl : bs.length ≤ 60000) (h : bs.length < 6 ∨ nb bs 0 ≠ 168 ∨ nb bs 1 ≠ 1) :
    Calls Try.prog 24 #[v] w (ReadAll w bs) := by
  have HN : Hid (readF bs = none) := Lib.hid (by unfold readF; rw [if_neg (by omega)])
  obtain ⟨a, c, rfl, hl, hA⟩ := hv.open
  rw [vb_length] at *
  by_cases h6 : bs.length < 6
  · clear h hA hv hl
    go_enter Try.func24, Try.ntmps24
    go_wp2_with fail
    refine bodyPost_ret (v := .tuple #[.agg ((Said.zero 0).cells (.slice none 0 0)).toArray, .int .i64 0, .bool false]) (by simp [results, Try.results24, go_sem, Said.zero, Said.cells]) rfl ⟨(Mod.refl [] w).alloc _, .inl ⟨HN.out, rfl⟩⟩
  · rcases hv with ⟨hn, av, capv, hq⟩ | ⟨b, off, cap, hq, hc1, hc2, hc3, hcell⟩
    · have : (vb bs).length = 0 := by rw [hn]; rfl
      rw [vb_length] at this; omega
    · injection hq with q1 q2 q3
      subst q1; subst q3
      have c0 := (((Mod.refl [] w).alloc (.cells ((Said.zero 0).cells (.slice none 0 0)).toArray 55)).cell (a := ⟨b, off, none⟩) hc3 (by simp)).trans (hcell 0 _ (nb_get (by omega)))
      have c1 := (((Mod.refl [] w).alloc (.cells ((Said.zero 0).cells (.slice none 0 0)).toArray 55)).cell (a := ⟨b, off + 1, none⟩) hc3 (by simp)).trans (hcell 1 _ (nb_get (by omega)))
      rw [vb_length] at *
      unfold maxLen at hc2
      simp only [Said.zero, Said.cells] at c0 c1
      have n0 := nb_lt bs 0
      have n1 := nb_lt bs 1
      by_cases h0 : nb bs 0 = 168
      · have e0 : ((nb bs 0 : Int) != 168) = false := by simp; omega
        have e1 : ((nb bs 1 : Int) != 1) = true := by simp; omega
        clear hA hcell h h0 hl q2
        go_enter Try.func24, Try.ntmps24
        go_wp2_with fail
        refine bodyPost_ret (v := .tuple #[.agg ((Said.zero 0).cells (.slice none 0 0)).toArray, .int .i64 0, .bool false]) (by simp [results, Try.results24, go_sem, Said.zero, Said.cells]) rfl ⟨(Mod.refl [] w).alloc _, .inl ⟨HN.out, rfl⟩⟩
      · have e0 : ((nb bs 0 : Int) != 168) = true := by simp; omega
        clear hA hcell h h0 hl q2
        go_enter Try.func24, Try.ntmps24
        go_wp2_with fail
        refine bodyPost_ret (v := .tuple #[.agg ((Said.zero 0).cells (.slice none 0 0)).toArray, .int .i64 0, .bool false]) (by simp [results, Try.results24, go_sem, Said.zero, Said.cells]) rfl ⟨(Mod.refl [] w).alloc _, .inl ⟨HN.out, rfl⟩⟩

set_option maxRecDepth 4000 in
set_option maxHeartbeats 6400000 in
theorem read_main {w : World} {b off cap : Nat} {bs : List UInt8} (hc1 : bs.length ≤ cap) (hc2 : cap ≤ 9223372036854775807) (hb : b < w.heap.size) (hcell : ∀ i u, (vb bs)[i]? = some u → w.cell? ⟨b, off + i, none⟩ = some u) (hbl : bs.length ≤ 60000) (h6 : 6 ≤ bs.length) (h0 : nb bs 0 = 168) (h1 : nb bs 1 = 1) :
    Calls Try.prog 24 #[.slice (some ⟨b, off, none⟩) bs.length cap] w (ReadAll w bs) := by
  have c0 := (((Mod.refl [] w).alloc (.cells ((Said.zero 0).cells (.slice none 0 0)).toArray 55)).cell (a := ⟨b, off, none⟩) hb (by simp)).trans (hcell 0 _ (nb_get (by omega)))
  have c1 := (((Mod.refl [] w).alloc (.cells ((Said.zero 0).cells (.slice none 0 0)).toArray 55)).cell (a := ⟨b, off + 1, none⟩) hb (by simp)).trans (hcell 1 _ (nb_get (by omega)))
  have c4 := (((Mod.refl [] w).alloc (.cells ((Said.zero 0).cells (.slice none 0 0)).toArray 55)).cell (a := ⟨b, off + 4, none⟩) hb (by simp)).trans (hcell 4 _ (nb_get (by omega)))
  rw [h0] at c0
  rw [h1] at c1
  have E : Hid (((bs.drop 2).take 2).length = 2) := Lib.hid (by simp; omega)
  have D : Hid (∀ j u, (vb ((bs.drop 2).take 2))[j]? = some u → (w.alloc (.cells ((Said.zero 0).cells (.slice none 0 0)).toArray 55)).cell? ⟨b, off + 2 + j, none⟩ = some u) := Lib.hid fun j u hu => (((Mod.refl [] w).alloc _).cell (by show b < _; omega) (by simp)).trans (drop_cells hcell j u hu)
  have HC := Lib.hid hcell
  have HS : Hid (sz bs = 4 + numOf ((bs.drop 2).take 2)) := Lib.hid rfl
  have H0 := Lib.hid h0
  have H1 := Lib.hid h1
  have hnl : numOf ((bs.drop 2).take 2) < 65536 := by have := numOf_lt ((bs.drop 2).take 2); rw [E.out] at this; exact this
  have n4 := nb_lt bs 4
  generalize hq : numOf ((bs.drop 2).take 2) = q at *
  have HQ := Lib.hid hq
  clear hcell h0 h1 hq
  simp only [Said.zero, Said.cells] at c0 c1 c4 D
  by_cases hsz : 2 ≤ q ∧ q + 4 ≤ bs.length ∧ 128 ≤ nb bs 4
  · obtain ⟨g1, g2, g3⟩ := hsz
    have eb := and_127 g3 n4
    have ew : wrap64 ((nb bs 4 - 128 : Nat) : Int) = ((nb bs 4 - 128 : Nat) : Int) := by unfold wrap64; omega
    have EN : Hid (((bs.drop 5).take (q - 1)).length = q - 1) := Lib.hid (by simp; omega)
    have HR : Hid (readF bs = (saidOf (nb bs 4 - 128) ((bs.drop 5).take (q - 1))).map fun p => (p.1, p.2, q + 4)) := Lib.hid (by unfold readF; rw [if_pos (by rw [HS.out, H0.out, H1.out]; omega), HS.out, show 4 + q - 5 = q - 1 by omega, Nat.add_comm 4 q])
    generalize ho : nb bs 4 - 128 = o at *
    generalize hbd : (bs.drop 5).take (q - 1) = bd at *
    have B2 := Lib.hid (Blk.new (w.alloc (.cells ((Said.zero 0).cells (.slice none 0 0)).toArray 55)) ((Said.zero o).cells (.slice none 0 0)) 55)
    have D5 : Hid (∀ j u, (vb bd)[j]? = some u → ((w.alloc (.cells ((Said.zero 0).cells (.slice none 0 0)).toArray 55)).alloc (.cells ((Said.zero o).cells (.slice none 0 0)).toArray 55)).cell? ⟨b, off + 5 + j, none⟩ = some u) := Lib.hid fun j u hu => ((((Mod.refl [] w).alloc _).alloc _).cell (by show b < _; omega) (by simp)).trans (drop_cells HC.out j u (by rw [hbd]; exact hu))
    clear ho hbd
    go_enter Try.func24, Try.ntmps24
    go_wp2_with fail
    refine (num_at (bs := (bs.drop 2).take 2) E.out (by omega) D.out).mono ?_
    rintro e w2 ⟨rfl, rfl⟩
    rw [HQ.out]
    go_wp2_with fail
    rw [show 4 + q - 5 = bd.length by rw [EN.out]; omega]
    refine (read_any (w := ((w.alloc (.cells ((Said.zero 0).cells (.slice none 0 0)).toArray 55)).alloc (.cells ((Said.zero o).cells (.slice none 0 0)).toArray 55))) (gs := w.heap.size + 1) (off := off + 5) (cap := cap - 5) (op := o) (bs := bd) (by rw [EN.out]; omega) (by rw [EN.out]; omega) (by rw [EN.out]; omega) (by omega) (by have := B2.out; simpa using this) (by omega) D5.out).mono ?_
    rintro e w2 ⟨hM, hcase⟩
    have BT := Lib.hid (hM.blk ((Blk.new w ((Said.zero 0).cells (.slice none 0 0)) 55).alloc (.cells ((Said.zero o).cells (.slice none 0 0)).toArray 55)) (by simp))
    have MW := Lib.hid ((((Mod.refl [] w).alloc (.cells ((Said.zero 0).cells (.slice none 0 0)).toArray 55)).alloc (.cells ((Said.zero o).cells (.slice none 0 0)).toArray 55)).trans' hM (by simp))
    obtain ⟨a0, a1, a2, a3, a4, a5, a6, a7, a8, a9, a10, a11⟩ := said_cells BT.out
    obtain ⟨f0, f1, f2, f3, f4, f5, f6, f7, f8, f9, f10, f11⟩ := said_free BT.out
    simp only [Said.zero] at a0 a1 a2 a3 a4 a5 a6 a7 a8 a9 a10 a11
    clear hM
    rcases hcase with ⟨hn, rfl⟩ | ⟨s, l, x, hs, rfl, hB, hO⟩
    · have HN : Hid (readF bs = none) := Lib.hid (by rw [HR.out, hn]; rfl)
      clear hn
      go_wp2_with fail
      have RB : Blk _ w.heap.size 55 ((Said.zero 0).cells (.slice none 0 0)) := ((((((((((((BT.out.set 0 _).set 1 _).set 2 _).set 3 _).set 4 _).set 5 _).set 6 _).set 7 _).set 8 _).set 9 _).set 10 _).set 11 _)
      obtain ⟨r0, r1, r2, r3, r4, r5, r6, r7, r8, r9, r10, r11⟩ := said_cells RB
      simp only [Said.zero] at r0 r1 r2 r3 r4 r5 r6 r7 r8 r9 r10 r11
      refine bodyPost_ret (v := .tuple #[.agg ((Said.zero 0).cells (.slice none 0 0)).toArray, .int .i64 0, .bool false]) (by simp [results, Try.results24, go_sem, Said.zero, Said.cells, r0, r1, r2, r3, r4, r5, r6, r7, r8, r9, r10, r11]) rfl ⟨((((((((((((MW.out.setCell (p := ⟨w.heap.size, 0, none⟩) (by simp) _).setCell (p := ⟨w.heap.size, 1, none⟩) (by simp) _).setCell (p := ⟨w.heap.size, 2, none⟩) (by simp) _).setCell (p := ⟨w.heap.size, 3, none⟩) (by simp) _).setCell (p := ⟨w.heap.size, 4, none⟩) (by simp) _).setCell (p := ⟨w.heap.size, 5, none⟩) (by simp) _).setCell (p := ⟨w.heap.size, 6, none⟩) (by simp) _).setCell (p := ⟨w.heap.size, 7, none⟩) (by simp) _).setCell (p := ⟨w.heap.size, 8, none⟩) (by simp) _).setCell (p := ⟨w.heap.size, 9, none⟩) (by simp) _).setCell (p := ⟨w.heap.size, 10, none⟩) (by simp) _).setCell (p := ⟨w.heap.size, 11, none⟩) (by simp) _), .inl ⟨HN.out, rfl⟩⟩
    · have HN : Hid (readF bs = some (s, l, q + 4)) := Lib.hid (by rw [HR.out, hs]; rfl)
      obtain ⟨xa, xc, rfl⟩ := own_slice hO
      have HO := Lib.hid hO
      have e4 : (4 : Int) + (q : Int) = ((q + 4 : Nat) : Int) := by omega
      obtain ⟨k0, k1, k2, k3, k4, k5, k6, k7, k8, k9, k10, k11⟩ := said_cells hB
      clear hs hO
      go_wp2_with fail
      have RB : Blk _ w.heap.size 55 (s.cells (.slice xa l.length xc)) := ((((((((((((BT.out.set 0 _).set 1 _).set 2 _).set 3 _).set 4 _).set 5 _).set 6 _).set 7 _).set 8 _).set 9 _).set 10 _).set 11 _)
      obtain ⟨r0, r1, r2, r3, r4, r5, r6, r7, r8, r9, r10, r11⟩ := said_cells RB
      refine bodyPost_ret (v := .tuple #[.agg (s.cells (.slice xa l.length xc)).toArray, .int .i64 (q + 4 : Nat), .bool true]) (by simp [results, Try.results24, go_sem, Said.cells, r0, r1, r2, r3, r4, r5, r6, r7, r8, r9, r10, r11]) rfl ⟨((((((((((((MW.out.setCell (p := ⟨w.heap.size, 0, none⟩) (by simp) _).setCell (p := ⟨w.heap.size, 1, none⟩) (by simp) _).setCell (p := ⟨w.heap.size, 2, none⟩) (by simp) _).setCell (p := ⟨w.heap.size, 3, none⟩) (by simp) _).setCell (p := ⟨w.heap.size, 4, none⟩) (by simp) _).setCell (p := ⟨w.heap.size, 5, none⟩) (by simp) _).setCell (p := ⟨w.heap.size, 6, none⟩) (by simp) _).setCell (p := ⟨w.heap.size, 7, none⟩) (by simp) _).setCell (p := ⟨w.heap.size, 8, none⟩) (by simp) _).setCell (p := ⟨w.heap.size, 9, none⟩) (by simp) _).setCell (p := ⟨w.heap.size, 10, none⟩) (by simp) _).setCell (p := ⟨w.heap.size, 11, none⟩) (by simp) _), .inr ⟨s, l, _, _, HN.out, rfl, ?_⟩⟩
      exact own_base (HO.out.mod ((((((((((((((Mod.refl [w.heap.size] w2).setCell (p := ⟨w.heap.size, 0, none⟩) (by simp) _).setCell (p := ⟨w.heap.size, 1, none⟩) (by simp) _).setCell (p := ⟨w.heap.size, 2, none⟩) (by simp) _).setCell (p := ⟨w.heap.size, 3, none⟩) (by simp) _).setCell (p := ⟨w.heap.size, 4, none⟩) (by simp) _).setCell (p := ⟨w.heap.size, 5, none⟩) (by simp) _).setCell (p := ⟨w.heap.size, 6, none⟩) (by simp) _).setCell (p := ⟨w.heap.size, 7, none⟩) (by simp) _).setCell (p := ⟨w.heap.size, 8, none⟩) (by simp) _).setCell (p := ⟨w.heap.size, 9, none⟩) (by simp) _).setCell (p := ⟨w.heap.size, 10, none⟩) (by simp) _).setCell (p := ⟨w.heap.size, 11, none⟩) (by simp) _)) (by simp; omega)) (by simp; omega)
  · have HN : Hid (readF bs = none) := Lib.hid (by unfold readF; rw [if_neg (by rw [HS.out]; omega)])
    go_enter Try.func24, Try.ntmps24
    go_wp2_with fail
    refine (num_at (bs := (bs.drop 2).take 2) E.out (by omega) D.out).mono ?_
    rintro e w2 ⟨rfl, rfl⟩
    rw [HQ.out]
    by_cases g1 : 2 ≤ q
    · by_cases g2 : q + 4 ≤ bs.length
      · have g3 : ¬ 128 ≤ nb bs 4 := fun h => hsz ⟨g1, g2, h⟩
        clear hsz
        go_wp2_with fail
        refine bodyPost_ret (v := .tuple #[.agg ((Said.zero 0).cells (.slice none 0 0)).toArray, .int .i64 0, .bool false]) (by simp [results, Try.results24, go_sem, Said.zero, Said.cells]) rfl ⟨(Mod.refl [] w).alloc _, .inl ⟨HN.out, rfl⟩⟩
      · clear hsz
        go_wp2_with fail
        refine bodyPost_ret (v := .tuple #[.agg ((Said.zero 0).cells (.slice none 0 0)).toArray, .int .i64 0, .bool false]) (by simp [results, Try.results24, go_sem, Said.zero, Said.cells]) rfl ⟨(Mod.refl [] w).alloc _, .inl ⟨HN.out, rfl⟩⟩
    · clear hsz
      go_wp2_with fail
      refine bodyPost_ret (v := .tuple #[.agg ((Said.zero 0).cells (.slice none 0 0)).toArray, .int .i64 0, .bool false]) (by simp [results, Try.results24, go_sem, Said.zero, Said.cells]) rfl ⟨(Mod.refl [] w).alloc _, .inl ⟨HN.out, rfl⟩⟩

theorem readFrame {w : World} {v : Value} {bs : List UInt8} (hv : Sl w v (vb bs)) (hbl : bs.length ≤ 60000) :
    Calls Try.prog 24 #[v] w (ReadAll w bs) := by
  by_cases h : bs.length < 6 ∨ nb bs 0 ≠ 168 ∨ nb bs 1 ≠ 1
  · exact read_none hv hbl h
  · rcases hv with ⟨hn, av, capv, rfl⟩ | ⟨b, off, cap, rfl, hc1, hc2, hc3, hcell⟩
    · have : (vb bs).length = 0 := by rw [hn]; rfl
      rw [vb_length] at this; omega
    · rw [vb_length] at *
      exact read_main hc1 (by unfold maxLen at hc2; omega) hc3 hcell hbl (by omega) (by omega) (by omega)
end Go.Proofs.Ytpjmoomjbcplgaa.Frame
