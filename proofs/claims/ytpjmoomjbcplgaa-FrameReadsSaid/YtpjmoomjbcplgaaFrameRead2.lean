/- frame: (*Said).read: what stands behind the sign of an answer. -/
import Derived.Test.YtpjmoomjbcplgaaFrameRead
namespace Go.Proofs.Ytpjmoomjbcplgaa.Frame
open Go Go.RowKit Go.YtpjmoomjbcplgaaMem Go.YtpjmoomjbcplgaaLex
set_option linter.unusedVariables false
set_option linter.unusedSimpArgs false

def Said.zero (op : Int) : Said := ⟨op, 0, 0, 0, 0, 0, 0, 0, 0, 0, 0⟩
/-- A signed number of eight bytes at a place. -/
def at8 (bs : List UInt8) (m : Nat) : Int := s64 (numOf ((bs.drop m).take 8))
def saidOf (op : Nat) (bs : List UInt8) : Option (Said × List Cnt) :=
  if (op = 1 ∨ op = 2) ∧ bs.length = 17 ∧ 1 ≤ nb bs 0 ∧ nb bs 0 ≤ 3 then some (⟨op, 0, nb bs 0, at8 bs 1, at8 bs 9, 0, 0, 0, 0, 0, 0⟩, [])
  else if op = 3 ∧ bs.length = 41 then some (⟨op, nb bs 0, 0, 0, 0, at8 bs 1, at8 bs 9, at8 bs 17, at8 bs 25, at8 bs 33, 0⟩, [])
  else if op = 4 ∧ 2 ≤ bs.length then (listOf (bs.drop 2) (nb bs 1)).map fun l => (⟨op, nb bs 0, 0, 0, 0, 0, 0, 0, 0, 0, 0⟩, l)
  else if op = 127 ∧ bs.length = 1 ∧ 0 < nb bs 0 then some (⟨op, 0, 0, 0, 0, 0, 0, 0, 0, 0, nb bs 0⟩, [])
  else none
def ReadPost (w : World) (gs op : Nat) (bs : List UInt8) (e : Ending) (w' : World) : Prop :=
  Mod [gs] w w' ∧ ((saidOf op bs = none ∧ e = .returned (.bool false)) ∨ ∃ s l x, saidOf op bs = some (s, l) ∧ e = .returned (.bool true) ∧ Blk w' gs 55 (s.cells x) ∧ OwnC w' w.heap.size x l)

set_option maxRecDepth 4000 in
theorem n_0 {w : World} {p b off cap n : Nat} {bs : List UInt8} (hn : bs.length = n) (hp : w.cell? ⟨p, 0, none⟩ = some (.slice (some ⟨b, off, none⟩) n cap)) (hi : 9 ≤ n) (hbl : n ≤ 60000) (hc1 : n ≤ cap) (hc2 : cap ≤ 9223372036854775807)
    (hcell : ∀ i u, (vb bs)[i]? = some u → w.cell? ⟨b, off + i, none⟩ = some u) :
    Calls Try.prog 38 #[.int .i64 0, .pointer (some ⟨p, 0, none⟩)] w fun e w' => e = .returned (.int .i64 (at8 bs 1)) ∧ w = w' := by
  have E : Hid (((bs.drop 1).take 8).length = 8) := Lib.hid (by simp; omega)
  have D : Hid (∀ j u, (vb ((bs.drop 1).take 8))[j]? = some u → w.cell? ⟨b, off + 1 + j, none⟩ = some u) := Lib.hid fun j u hu => drop_cells hcell j u hu
  clear hcell hn
  go_enter Try.func38, Try.ntmps38
  go_wp2_with fail
  refine (num_at (bs := (bs.drop 1).take 8) E.out (by omega) D.out).mono ?_
  rintro e w2 ⟨rfl, rfl⟩
  go_wp2_with fail
  go_ret
  exact ⟨by simp only [at8, s64, List.drop_one]; rfl, rfl⟩
set_option maxRecDepth 4000 in
theorem n_1 {w : World} {p b off cap n : Nat} {bs : List UInt8} (hn : bs.length = n) (hp : w.cell? ⟨p, 0, none⟩ = some (.slice (some ⟨b, off, none⟩) n cap)) (hi : 17 ≤ n) (hbl : n ≤ 60000) (hc1 : n ≤ cap) (hc2 : cap ≤ 9223372036854775807)
    (hcell : ∀ i u, (vb bs)[i]? = some u → w.cell? ⟨b, off + i, none⟩ = some u) :
    Calls Try.prog 38 #[.int .i64 1, .pointer (some ⟨p, 0, none⟩)] w fun e w' => e = .returned (.int .i64 (at8 bs 9)) ∧ w = w' := by
  have E : Hid (((bs.drop 9).take 8).length = 8) := Lib.hid (by simp; omega)
  have D : Hid (∀ j u, (vb ((bs.drop 9).take 8))[j]? = some u → w.cell? ⟨b, off + 9 + j, none⟩ = some u) := Lib.hid fun j u hu => drop_cells hcell j u hu
  clear hcell hn
  go_enter Try.func38, Try.ntmps38
  go_wp2_with fail
  refine (num_at (bs := (bs.drop 9).take 8) E.out (by omega) D.out).mono ?_
  rintro e w2 ⟨rfl, rfl⟩
  go_wp2_with fail
  go_ret
  exact ⟨rfl, rfl⟩
set_option maxRecDepth 4000 in
theorem n_2 {w : World} {p b off cap n : Nat} {bs : List UInt8} (hn : bs.length = n) (hp : w.cell? ⟨p, 0, none⟩ = some (.slice (some ⟨b, off, none⟩) n cap)) (hi : 25 ≤ n) (hbl : n ≤ 60000) (hc1 : n ≤ cap) (hc2 : cap ≤ 9223372036854775807)
    (hcell : ∀ i u, (vb bs)[i]? = some u → w.cell? ⟨b, off + i, none⟩ = some u) :
    Calls Try.prog 38 #[.int .i64 2, .pointer (some ⟨p, 0, none⟩)] w fun e w' => e = .returned (.int .i64 (at8 bs 17)) ∧ w = w' := by
  have E : Hid (((bs.drop 17).take 8).length = 8) := Lib.hid (by simp; omega)
  have D : Hid (∀ j u, (vb ((bs.drop 17).take 8))[j]? = some u → w.cell? ⟨b, off + 17 + j, none⟩ = some u) := Lib.hid fun j u hu => drop_cells hcell j u hu
  clear hcell hn
  go_enter Try.func38, Try.ntmps38
  go_wp2_with fail
  refine (num_at (bs := (bs.drop 17).take 8) E.out (by omega) D.out).mono ?_
  rintro e w2 ⟨rfl, rfl⟩
  go_wp2_with fail
  go_ret
  exact ⟨rfl, rfl⟩
set_option maxRecDepth 4000 in
theorem n_3 {w : World} {p b off cap n : Nat} {bs : List UInt8} (hn : bs.length = n) (hp : w.cell? ⟨p, 0, none⟩ = some (.slice (some ⟨b, off, none⟩) n cap)) (hi : 33 ≤ n) (hbl : n ≤ 60000) (hc1 : n ≤ cap) (hc2 : cap ≤ 9223372036854775807)
    (hcell : ∀ i u, (vb bs)[i]? = some u → w.cell? ⟨b, off + i, none⟩ = some u) :
    Calls Try.prog 38 #[.int .i64 3, .pointer (some ⟨p, 0, none⟩)] w fun e w' => e = .returned (.int .i64 (at8 bs 25)) ∧ w = w' := by
  have E : Hid (((bs.drop 25).take 8).length = 8) := Lib.hid (by simp; omega)
  have D : Hid (∀ j u, (vb ((bs.drop 25).take 8))[j]? = some u → w.cell? ⟨b, off + 25 + j, none⟩ = some u) := Lib.hid fun j u hu => drop_cells hcell j u hu
  clear hcell hn
  go_enter Try.func38, Try.ntmps38
  go_wp2_with fail
  refine (num_at (bs := (bs.drop 25).take 8) E.out (by omega) D.out).mono ?_
  rintro e w2 ⟨rfl, rfl⟩
  go_wp2_with fail
  go_ret
  exact ⟨rfl, rfl⟩
set_option maxRecDepth 4000 in
theorem n_4 {w : World} {p b off cap n : Nat} {bs : List UInt8} (hn : bs.length = n) (hp : w.cell? ⟨p, 0, none⟩ = some (.slice (some ⟨b, off, none⟩) n cap)) (hi : 41 ≤ n) (hbl : n ≤ 60000) (hc1 : n ≤ cap) (hc2 : cap ≤ 9223372036854775807)
    (hcell : ∀ i u, (vb bs)[i]? = some u → w.cell? ⟨b, off + i, none⟩ = some u) :
    Calls Try.prog 38 #[.int .i64 4, .pointer (some ⟨p, 0, none⟩)] w fun e w' => e = .returned (.int .i64 (at8 bs 33)) ∧ w = w' := by
  have E : Hid (((bs.drop 33).take 8).length = 8) := Lib.hid (by simp; omega)
  have D : Hid (∀ j u, (vb ((bs.drop 33).take 8))[j]? = some u → w.cell? ⟨b, off + 33 + j, none⟩ = some u) := Lib.hid fun j u hu => drop_cells hcell j u hu
  clear hcell hn
  go_enter Try.func38, Try.ntmps38
  go_wp2_with fail
  refine (num_at (bs := (bs.drop 33).take 8) E.out (by omega) D.out).mono ?_
  rintro e w2 ⟨rfl, rfl⟩
  go_wp2_with fail
  go_ret
  exact ⟨rfl, rfl⟩

set_option maxRecDepth 4000 in
set_option maxHeartbeats 3200000 in
theorem read_fault {w : World} {gs b off cap op : Nat} {bs : List UInt8} (hop : op = 127) (hb1 : 1 ≤ bs.length) (hbl : bs.length ≤ 60000) (hc1 : bs.length ≤ cap) (hc2 : cap ≤ 9223372036854775807) (hbox : Blk w gs 55 ((Said.zero op).cells (.slice none 0 0))) (hb : b < gs)
    (hcell : ∀ i u, (vb bs)[i]? = some u → w.cell? ⟨b, off + i, none⟩ = some u) :
    Calls Try.prog 35 #[.pointer (some ⟨gs, 0, none⟩), .slice (some ⟨b, off, none⟩) bs.length cap] w (ReadPost w gs op bs) := by
  have hgl := hbox.lt
  have HB := Lib.hid hbox
  have B := Lib.hid (hbox.alloc (.cells #[.slice (some ⟨b, off, none⟩) bs.length cap] 28))
  have g0 := B.out.cell (i := 0) rfl
  have g11 := B.out.cell (i := 11) rfl
  have f11 := B.out.free 11
  have c0 : (w.alloc (.cells #[.slice (some ⟨b, off, none⟩) bs.length cap] 28)).cell? ⟨b, off, none⟩ = some (.int .u8 (nb bs 0)) := ((Mod.refl [] w).alloc _).cell (by show b < _; omega) (by simp) |>.trans (hcell 0 _ (nb_get (by omega)))
  have ew : wrap64 (nb bs 0) = nb bs 0 := by unfold wrap64; have := nb_lt bs 0; omega
  subst hop
  clear hbox hcell
  simp only [Said.zero] at g0
  go_enter Try.func35, Try.ntmps35
  by_cases h1 : bs.length = 1
  · have e1 : ((bs.length : Int) == 1) = true := by simp; omega
    by_cases h0 : 0 < nb bs 0
    · have S : Hid (saidOf 127 bs = some (⟨127, 0, 0, 0, 0, 0, 0, 0, 0, 0, nb bs 0⟩, [])) := Lib.hid (by unfold saidOf; rw [if_neg (by omega), if_neg (by omega), if_neg (by omega), if_pos ⟨rfl, h1, h0⟩]; rfl)
      clear h1
      go_wp2_with fail
      go_ret
      exact ⟨((Mod.refl [gs] w).setCell (p := ⟨gs, 11, none⟩) (by simp) _).alloc _, .inr ⟨_, _, _, S.out, rfl, (HB.out.set 11 _).alloc _, OwnC.nil _ _⟩⟩
    · have S : Hid (saidOf 127 bs = none) := Lib.hid (by unfold saidOf; rw [if_neg (by omega), if_neg (by omega), if_neg (by omega), if_neg (by omega)])
      clear h1
      go_wp2_with fail
      go_ret
      exact ⟨(Mod.refl [gs] w).alloc _, .inl ⟨S.out, rfl⟩⟩
  · have S : Hid (saidOf 127 bs = none) := Lib.hid (by unfold saidOf; rw [if_neg (by omega), if_neg (by omega), if_neg (by omega), if_neg (by omega)])
    have e1 : ((bs.length : Int) == 1) = false := by simp; omega
    go_wp2_with fail
    go_ret
    exact ⟨(Mod.refl [gs] w).alloc _, .inl ⟨S.out, rfl⟩⟩

set_option maxRecDepth 4000 in
set_option maxHeartbeats 3200000 in
theorem read_other {w : World} {gs b off cap op : Nat} {bs : List UInt8} (hop : op ≠ 1 ∧ op ≠ 2 ∧ op ≠ 3 ∧ op ≠ 4 ∧ op ≠ 127) (hbox : Blk w gs 55 ((Said.zero op).cells (.slice none 0 0))) :
    Calls Try.prog 35 #[.pointer (some ⟨gs, 0, none⟩), .slice (some ⟨b, off, none⟩) bs.length cap] w (ReadPost w gs op bs) := by
  have B := Lib.hid (hbox.alloc (.cells #[.slice (some ⟨b, off, none⟩) bs.length cap] 28))
  have g0 := B.out.cell (i := 0) rfl
  obtain ⟨o1, o2, o3, o4, o5⟩ := hop
  have e1 : ((op : Int) == 1) = false := by simp; omega
  have e2 : ((op : Int) == 2) = false := by simp; omega
  have e3 : ((op : Int) == 3) = false := by simp; omega
  have e4 : ((op : Int) == 4) = false := by simp; omega
  have e5 : ((op : Int) == 127) = false := by simp; omega
  have S : Hid (saidOf op bs = none) := Lib.hid (by unfold saidOf; rw [if_neg (by omega), if_neg (by omega), if_neg (by omega), if_neg (by omega)])
  clear hbox o1 o2 o3 o4 o5
  simp only [Said.zero] at g0
  go_enter Try.func35, Try.ntmps35
  go_wp2_with fail
  go_ret
  exact ⟨(Mod.refl [gs] w).alloc _, .inl ⟨S.out, rfl⟩⟩

set_option maxRecDepth 4000 in
set_option maxHeartbeats 3200000 in
theorem read_check {w : World} {gs b off cap op : Nat} {bs : List UInt8} (hop : op = 1 ∨ op = 2) (hb1 : 1 ≤ bs.length) (hbl : bs.length ≤ 60000) (hc1 : bs.length ≤ cap) (hc2 : cap ≤ 9223372036854775807) (hbox : Blk w gs 55 ((Said.zero op).cells (.slice none 0 0))) (hb : b < gs)
    (hcell : ∀ i u, (vb bs)[i]? = some u → w.cell? ⟨b, off + i, none⟩ = some u) :
    Calls Try.prog 35 #[.pointer (some ⟨gs, 0, none⟩), .slice (some ⟨b, off, none⟩) bs.length cap] w (ReadPost w gs op bs) := by
  have hgl := hbox.lt
  have HB := Lib.hid hbox
  have B := Lib.hid (hbox.alloc (.cells #[.slice (some ⟨b, off, none⟩) bs.length cap] 28))
  have g0 := B.out.cell (i := 0) rfl
  have c0 : (w.alloc (.cells #[.slice (some ⟨b, off, none⟩) bs.length cap] 28)).cell? ⟨b, off, none⟩ = some (.int .u8 (nb bs 0)) := ((Mod.refl [] w).alloc _).cell (by show b < _; omega) (by simp) |>.trans (hcell 0 _ (nb_get (by omega)))
  have o3 : op ≠ 3 ∧ op ≠ 4 ∧ op ≠ 127 := by omega
  have e3 : ((op : Int) == 3) = false := by simp; omega
  have e4 : ((op : Int) == 4) = false := by simp; omega
  have e5 : ((op : Int) == 127) = false := by simp; omega
  have e12 : (((op : Int) == 1) || ((op : Int) == 2)) = true := by simp; omega
  have HC := Lib.hid hcell
  have HO := Lib.hid hop
  clear hbox hcell o3 hop
  simp only [Said.zero] at g0
  by_cases hgood : bs.length = 17 ∧ 1 ≤ nb bs 0 ∧ nb bs 0 ≤ 3
  · obtain ⟨h17, h1, h3⟩ := hgood
    have S : Hid (saidOf op bs = some (⟨op, 0, nb bs 0, at8 bs 1, at8 bs 9, 0, 0, 0, 0, 0, 0⟩, [])) := Lib.hid (by unfold saidOf; rw [if_pos ⟨HO.out, h17, h1, h3⟩])
    have e17 : ((bs.length : Int) == 17) = true := by simp; omega
    have HCW : Hid (∀ i u, (vb bs)[i]? = some u → (w.alloc (.cells #[.slice (some ⟨b, off, none⟩) bs.length cap] 28)).cell? ⟨b, off + i, none⟩ = some u) := Lib.hid fun i u hu => (((Mod.refl [] w).alloc _).cell (by show b < _; omega) (by simp)).trans (HC.out i u hu)
    have E1 : Hid (((bs.drop 1).take 8).length = 8) := Lib.hid (by simp; omega)
    have D1 : Hid (∀ j u, (vb ((bs.drop 1).take 8))[j]? = some u → (w.alloc (.cells #[.slice (some ⟨b, off, none⟩) bs.length cap] 28)).cell? ⟨b, off + 1 + j, none⟩ = some u) := Lib.hid fun j u hu => drop_cells HCW.out j u hu
    have E2 : Hid (((bs.drop 9).take 8).length = 8) := Lib.hid (by simp; omega)
    have D2 : Hid (∀ j u, (vb ((bs.drop 9).take 8))[j]? = some u → (w.alloc (.cells #[.slice (some ⟨b, off, none⟩) bs.length cap] 28)).cell? ⟨b, off + 9 + j, none⟩ = some u) := Lib.hid fun j u hu => drop_cells HCW.out j u hu
    have g2 := B.out.cell (i := 2) rfl
    have g3 := B.out.cell (i := 3) rfl
    have g4 := B.out.cell (i := 4) rfl
    have f2 := B.out.free 2
    have f3 := B.out.free 3
    have f4 := B.out.free 4
    have k2 := HB.out.cell (i := 2) rfl
    have k3 := HB.out.cell (i := 3) rfl
    have k4 := HB.out.cell (i := 4) rfl
    have l2 := HB.out.free 2
    have l3 := HB.out.free 3
    have l4 := HB.out.free 4
    have pc : (w.alloc (.cells #[.slice (some ⟨b, off, none⟩) bs.length cap] 28)).cell? ⟨w.heap.size, 0, none⟩ = some (.slice (some ⟨b, off, none⟩) bs.length cap) := World.cell?_alloc_at _ _ _ _ (by simp)
    have iscp : IsC (w.alloc (.cells #[.slice (some ⟨b, off, none⟩) bs.length cap] 28)).drew w.heap.size := isC_of_cell (w := (w.alloc (.cells #[.slice (some ⟨b, off, none⟩) bs.length cap] 28)).drew) pc
    have iscb : IsC (w.alloc (.cells #[.slice (some ⟨b, off, none⟩) bs.length cap] 28)).drew b := isC_of_cell (w := (w.alloc (.cells #[.slice (some ⟨b, off, none⟩) bs.length cap] 28)).drew) c0
    have e8 : bs.length - 9 = 8 := by omega
    have l9 : 17 ≤ bs.length := by omega
    clear h17
    rcases HO.out with rfl | rfl
    all_goals go_enter Try.func35, Try.ntmps35
    all_goals go_wp2_with fail
    all_goals refine wp_region_held [8, 4] [1, 3, 9] [] (by kernel_rfl) (by kernel_rfl) ?_
    all_goals simp only [wpCut, List.take_succ_cons, List.take_zero, List.drop_succ_cons, List.drop_zero]
    all_goals go_wp2_with fail
    all_goals refine (num_at (w := (w.alloc (.cells #[.slice (some ⟨b, off, none⟩) bs.length cap] 28)).drew) (bs := (bs.drop 1).take 8) E1.out (by omega) D1.out).mono ?_
    all_goals rintro e w2 ⟨rfl, rfl⟩
    all_goals go_wp2_with fail
    all_goals refine ⟨Mod.refl _ _, ?_⟩
    all_goals go_wp2_with fail
    all_goals refine (num_at (w := (w.alloc (.cells #[.slice (some ⟨b, off, none⟩) bs.length cap] 28)).drew) (bs := (bs.drop 9).take 8) E2.out (by omega) D2.out).mono ?_
    all_goals rintro e w2 ⟨rfl, rfl⟩
    all_goals go_wp2_with fail
    all_goals refine ⟨Mod.refl _ _, ?_⟩
    all_goals go_wp2_with fail
    all_goals refine ⟨by kernel_rfl, ⟨⟨by simp, iscp⟩, ⟨by simp, iscb⟩, ⟨by simp, iscp⟩, trivial⟩, ?_⟩
    all_goals go_wp2_with fail
    all_goals go_ret
    all_goals rw [← List.drop_one]
    all_goals exact ⟨((((((Mod.refl [gs] w).setCell (p := ⟨gs, 2, none⟩) (by simp) _).setCell (p := ⟨gs, 3, none⟩) (by simp) _).setCell (p := ⟨gs, 4, none⟩) (by simp) _).alloc _).drew), .inr ⟨_, _, _, S.out, rfl, ((((HB.out.set 2 _).set 3 _).set 4 _).alloc _).drew, OwnC.nil _ _⟩⟩
  · have S : Hid (saidOf op bs = none) := Lib.hid (by have := HO.out; unfold saidOf; rw [if_neg (by omega), if_neg (by omega), if_neg (by omega), if_neg (by omega)])
    by_cases h17 : bs.length = 17
    · have e17 : ((bs.length : Int) == 17) = true := by simp; omega
      by_cases h1 : 1 ≤ nb bs 0
      · have h3 : ¬ nb bs 0 ≤ 3 := fun h => hgood ⟨h17, h1, h⟩
        clear hgood h17
        rcases HO.out with rfl | rfl
        all_goals go_enter Try.func35, Try.ntmps35
        all_goals go_wp2_with fail
        all_goals go_ret
        all_goals exact ⟨(Mod.refl [gs] w).alloc _, .inl ⟨S.out, rfl⟩⟩
      · clear hgood h17
        rcases HO.out with rfl | rfl
        all_goals go_enter Try.func35, Try.ntmps35
        all_goals go_wp2_with fail
        all_goals go_ret
        all_goals exact ⟨(Mod.refl [gs] w).alloc _, .inl ⟨S.out, rfl⟩⟩
    · have e17 : ((bs.length : Int) == 17) = false := by simp; omega
      clear hgood h17
      rcases HO.out with rfl | rfl
      all_goals go_enter Try.func35, Try.ntmps35
      all_goals go_wp2_with fail
      all_goals go_ret
      all_goals exact ⟨(Mod.refl [gs] w).alloc _, .inl ⟨S.out, rfl⟩⟩

set_option maxRecDepth 4000 in
set_option maxHeartbeats 3200000 in
theorem read_stats {w : World} {gs b off cap op : Nat} {bs : List UInt8} (hop : op = 3) (hb1 : 1 ≤ bs.length) (hbl : bs.length ≤ 60000) (hc1 : bs.length ≤ cap) (hc2 : cap ≤ 9223372036854775807) (hbox : Blk w gs 55 ((Said.zero op).cells (.slice none 0 0))) (hb : b < gs)
    (hcell : ∀ i u, (vb bs)[i]? = some u → w.cell? ⟨b, off + i, none⟩ = some u) :
    Calls Try.prog 35 #[.pointer (some ⟨gs, 0, none⟩), .slice (some ⟨b, off, none⟩) bs.length cap] w (ReadPost w gs op bs) := by
  have hgl := hbox.lt
  have HB := Lib.hid hbox
  have B := Lib.hid (hbox.alloc (.cells #[.slice (some ⟨b, off, none⟩) bs.length cap] 28))
  have g0 := B.out.cell (i := 0) rfl
  have c0 : (w.alloc (.cells #[.slice (some ⟨b, off, none⟩) bs.length cap] 28)).cell? ⟨b, off, none⟩ = some (.int .u8 (nb bs 0)) := ((Mod.refl [] w).alloc _).cell (by show b < _; omega) (by simp) |>.trans (hcell 0 _ (nb_get (by omega)))
  have HC := Lib.hid hcell
  subst hop
  clear hbox hcell
  simp only [Said.zero] at g0
  by_cases h41 : bs.length = 41
  · have S : Hid (saidOf 3 bs = some (⟨3, nb bs 0, 0, 0, 0, at8 bs 1, at8 bs 9, at8 bs 17, at8 bs 25, at8 bs 33, 0⟩, [])) := Lib.hid (by unfold saidOf; rw [if_neg (by omega), if_pos ⟨rfl, h41⟩]; rfl)
    have e41 : ((bs.length : Int) == 41) = true := by simp; omega
    have k0 := HB.out.cell (i := 0) rfl
    have k1 := HB.out.cell (i := 1) rfl
    have k5 := HB.out.cell (i := 5) rfl
    have k6 := HB.out.cell (i := 6) rfl
    have k7 := HB.out.cell (i := 7) rfl
    have k8 := HB.out.cell (i := 8) rfl
    have k9 := HB.out.cell (i := 9) rfl
    have l1 := HB.out.free 1
    have l5 := HB.out.free 5
    have l6 := HB.out.free 6
    have l7 := HB.out.free 7
    have l8 := HB.out.free 8
    have l9 := HB.out.free 9
    have g1 := B.out.cell (i := 1) rfl
    have f1 := B.out.free 1
    have h41' : 41 ≤ bs.length := by omega
    have hmf : ∀ (fn : Fn) (first cap : Array Value) (w : World), (Instr.makeFunc fn first cap).run Try.prog w = .ok (.func fn first cap) w := fun _ _ _ _ => rfl
    clear h41
    have ew : wrap64 (nb bs 0) = nb bs 0 := by unfold wrap64; have := nb_lt bs 0; omega
    have W1 : Hid (∀ i u, (vb bs)[i]? = some u → ((w.setCell ⟨gs, 1, none⟩ (.int .i64 (nb bs 0))).alloc (.cells #[.slice (some ⟨b, off, none⟩) bs.length cap] 28)).cell? ⟨b, off + i, none⟩ = some u) := Lib.hid fun i u hu => ((((Mod.refl [gs] w).setCell (p := ⟨gs, 1, none⟩) (by simp) _).alloc _).cell (by show b < _; omega) (by simp; omega)).trans (HC.out i u hu)
    have pc : ((w.setCell ⟨gs, 1, none⟩ (.int .i64 (nb bs 0))).alloc (.cells #[.slice (some ⟨b, off, none⟩) bs.length cap] 28)).cell? ⟨w.heap.size, 0, none⟩ = some (.slice (some ⟨b, off, none⟩) bs.length cap) := World.cell?_alloc_at _ _ _ _ (by simp)
    have PC := Lib.hid pc
    clear pc
    go_enter Try.func35, Try.ntmps35
    go_wp2_with fail
    refine (n_0 rfl PC.out (by omega) hbl hc1 hc2 W1.out).mono ?_
    rintro e w2 ⟨rfl, rfl⟩
    go_wp2_with fail
    refine (n_1 rfl PC.out (by omega) hbl hc1 hc2 W1.out).mono ?_
    rintro e w2 ⟨rfl, rfl⟩
    go_wp2_with fail
    refine (n_2 rfl PC.out (by omega) hbl hc1 hc2 W1.out).mono ?_
    rintro e w2 ⟨rfl, rfl⟩
    go_wp2_with fail
    refine (n_3 rfl PC.out (by omega) hbl hc1 hc2 W1.out).mono ?_
    rintro e w2 ⟨rfl, rfl⟩
    go_wp2_with fail
    refine (n_4 rfl PC.out (by omega) hbl hc1 hc2 W1.out).mono ?_
    rintro e w2 ⟨rfl, rfl⟩
    go_wp2_with fail
    go_ret
    exact ⟨(((((((Mod.refl [gs] w).setCell (p := ⟨gs, 1, none⟩) (by simp) _).setCell (p := ⟨gs, 5, none⟩) (by simp) _).setCell (p := ⟨gs, 6, none⟩) (by simp) _).setCell (p := ⟨gs, 7, none⟩) (by simp) _).setCell (p := ⟨gs, 8, none⟩) (by simp) _).setCell (p := ⟨gs, 9, none⟩) (by simp) _).alloc _, .inr ⟨_, _, _, S.out, rfl, ((((((HB.out.set 1 _).set 5 _).set 6 _).set 7 _).set 8 _).set 9 _).alloc _, OwnC.nil _ _⟩⟩
  · have S : Hid (saidOf 3 bs = none) := Lib.hid (by unfold saidOf; rw [if_neg (by omega), if_neg (by omega), if_neg (by omega), if_neg (by omega)])
    have e41 : ((bs.length : Int) == 41) = false := by simp; omega
    clear h41
    go_enter Try.func35, Try.ntmps35
    go_wp2_with fail
    go_ret
    exact ⟨(Mod.refl [gs] w).alloc _, .inl ⟨S.out, rfl⟩⟩
end Go.Proofs.Ytpjmoomjbcplgaa.Frame
