/- ring.Ring: what it holds; Number, To, of, eldest, from, Estimate, Mass. | ring.Ring: eldest, from, Estimate, Mass. | ring.Ring: Estimate, Mass, Add. | ring.Ring: Add. -/
import Derived.Test.YtndekdafiaogmaaZSlot
import Derived.Test.YtndekdafiaogmaaZArith2
set_option linter.unusedSimpArgs false
set_option linter.unusedVariables false
section
namespace Go.Proofs.Ytndekdafiaogmaa.Ring
open Go Go.RowKit Go.YtndekdafiaogmaaMem Go.YtndekdafiaogmaaLex Go.Proofs.Ytndekdafiaogmaa.Hash Go.Proofs.Ytndekdafiaogmaa.Arith Go.Proofs.Ytndekdafiaogmaa.Slot
open Go.Proofs.Ytndekdafiaogmaa.Sum (i64s i64s_get i64s_set)
structure RiB where
 p : Nat
 sb : Nat
 tb : Nat
 rb : Nat
 rc : Nat
 S : List (Nat × Nat)
def RiB.sl (B : RiB) (i : Nat) : SlB := ⟨(B.S.getD i (0, 0)).1, (B.S.getD i (0, 0)).2, B.rb, B.rc⟩
def RiB.own (B : RiB) : List Nat := B.p :: B.sb :: B.tb :: B.S.flatMap fun q => [q.1, q.2]
structure Rs where
 width : Nat
 lim : Int
 part : Bool
 now : Nat
 st : List Int
 N : List (List Int)
structure RingAt (w : World) (B : RiB) (R : List Row) (wd : Nat) (x : Rs) : Prop where
 blk : Blk w B.p 123 [.slice (some ⟨B.sb, 0, none⟩) x.st.length x.st.length, .slice (some ⟨B.tb, 0, none⟩) x.st.length x.st.length, .int .i64 (x.width : Int), .int .i64 (R.length : Int), .int .i64 x.lim, .bool x.part, .int .i64 (x.now : Int)]
 slots : Blk w B.sb 124 (B.S.map fun q => Value.pointer (some ⟨q.1, 0, none⟩))
 stamp : Blk w B.tb 2 (i64s x.st)
 lenS : B.S.length = x.st.length
 lenN : x.N.length = x.st.length
 each : ∀ i, i < x.st.length → SlotAt w (B.sl i) R wd (x.N.getD i [])
 nd : B.own.Nodup
 nr : B.rb ∉ B.own
 few : 1 ≤ x.st.length ∧ x.st.length ≤ 65
 wide : 1 ≤ x.width ∧ x.width ≤ 1099511627776
 lims : 0 ≤ x.lim ∧ x.lim ≤ 4294967296
 early : x.now < 4611686018427387904
theorem sl_mem {B : RiB} {i : Nat} (h : i < B.S.length) : (B.sl i).s ∈ B.own ∧ (B.sl i).nb ∈ B.own := by
 have hm : B.S[i] ∈ B.S := List.getElem_mem h
 have e : B.S.getD i (0, 0) = B.S[i] := by rw [List.getD_eq_getElem?_getD, List.getElem?_eq_getElem h]; rfl
 unfold RiB.sl RiB.own
 rw [e]
 constructor
 all_goals
  refine List.mem_cons_of_mem _ (List.mem_cons_of_mem _ (List.mem_cons_of_mem _ (List.mem_flatMap.2 ⟨_, hm, ?_⟩)))
  simp
theorem RingAt.mod {S : List Nat} {w w' : World} {B : RiB} {R : List Row} {wd : Nat} {x : Rs} (h : RingAt w B R wd x) (hm : Mod S w w') (h1 : ∀ b ∈ B.own, b ∉ S) (h2 : B.rb ∉ S) : RingAt w' B R wd x :=
 ⟨hm.blk h.blk (h1 _ (by simp [RiB.own])), hm.blk h.slots (h1 _ (by simp [RiB.own])), hm.blk h.stamp (h1 _ (by simp [RiB.own])), h.lenS, h.lenN,
  fun i hi => (h.each i hi).mod hm (h1 _ (sl_mem (by rw [h.lenS]; exact hi)).1) (h1 _ (sl_mem (by rw [h.lenS]; exact hi)).2) h2, h.nd, h.nr, h.few, h.wide, h.lims, h.early⟩
def slotNo (x : Rs) (n : Int) : Option Nat := if 0 ≤ n ∧ x.st.getD (n.toNat % x.st.length) 0 = n + 1 then some (n.toNat % x.st.length) else none
def ofVal (B : RiB) : Option Nat → Value
 | none => .pointer none
 | some i => .pointer (some ⟨(B.sl i).s, 0, none⟩)
section
variable {w : World} {B : RiB} {R : List Row} {wd : Nat} {x : Rs}
theorem number_any (h : RingAt w B R wd x) (t : Nat) (ht : t < 9223372036854775808) :
  Calls Try.prog 78 #[.pointer (some ⟨B.p, 0, none⟩), .int .i64 (t : Int)] w fun e w' => e = .returned (.int .i64 ((t / x.width : Nat) : Int)) ∧ w = w' := by
 have c2 := h.blk.cell (i := 2) rfl
 have hw := h.wide.1
 have hd : (t : Int).tdiv (x.width : Int) = ((t / x.width : Nat) : Int) := rfl
 have hle : t / x.width ≤ t := Nat.div_le_self _ _
 generalize t / x.width = q at *
 generalize x.width = m at *
 have hm0 : ¬ (m : Int) = 0 := by omega
 have hm2 : ¬ m = 0 := by omega
 have hm1 : ¬ (m : Int) = -1 := by omega
 clear h
 go_enter Try.func78, Try.ntmps78
 go_wp2_with fail
 go_ret
 exact ⟨rfl, rfl⟩
def to (x : Rs) (t : Nat) : Rs := { x with now := max x.now t }
def ToPost (B : RiB) (R : List Row) (wd : Nat) (x : Rs) (w : World) (e : Ending) (w' : World) : Prop := (∃ v, e = .returned v) ∧ RingAt w' B R wd x ∧ Mod [B.p] w w'
theorem RingAt.notp (h : RingAt w B R wd x) {i : Nat} (hi : i < x.st.length) : (B.sl i).s ≠ B.p ∧ (B.sl i).nb ≠ B.p ∧ B.sb ≠ B.p ∧ B.tb ≠ B.p := by
 have hn := h.nd
 have hm : B.S[i]'(by rw [h.lenS]; exact hi) ∈ B.S := List.getElem_mem _
 have e : B.S.getD i (0, 0) = B.S[i]'(by rw [h.lenS]; exact hi) := by rw [List.getD_eq_getElem?_getD, List.getElem?_eq_getElem (by rw [h.lenS]; exact hi)]; rfl
 unfold RiB.own at hn
 rw [List.nodup_cons] at hn
 unfold RiB.sl
 rw [e]
 refine ⟨fun hh => hn.1 ?_, fun hh => hn.1 ?_, fun hh => hn.1 ?_, fun hh => hn.1 ?_⟩
 ·rw [← hh]; exact List.mem_cons_of_mem _ (List.mem_cons_of_mem _ (List.mem_flatMap.2 ⟨_, hm, by simp⟩))
 ·rw [← hh]; exact List.mem_cons_of_mem _ (List.mem_cons_of_mem _ (List.mem_flatMap.2 ⟨_, hm, by simp⟩))
 ·rw [← hh]; simp
 ·rw [← hh]; simp
theorem to_any (h : RingAt w B R wd x) (t : Nat) (ht : t < 4611686018427387904) :
  Calls Try.prog 36 #[.pointer (some ⟨B.p, 0, none⟩), .int .i64 (t : Int)] w (ToPost B R wd (to x t) w) := by
 have c6 := h.blk.cell (i := 6) rfl
 have f6 := h.blk.free 6
 have hr : B.rb ≠ B.p := fun e => h.nr (by rw [e]; simp [RiB.own])
 have HE := Lib.hid (show RingAt (w.setCell ⟨B.p, 6, none⟩ (.int .i64 ((max x.now t : Nat) : Int))) B R wd (to x t) from by
  have MS := (Mod.refl [B.p] w).setCell (p := ⟨B.p, 6, none⟩) (.inl (by simp)) (.int .i64 ((max x.now t : Nat) : Int))
  have h0 : 0 < x.st.length := h.few.1
  refine ⟨h.blk.set 6 _, MS.blk h.slots (by simpa using (h.notp h0).2.2.1), MS.blk h.stamp (by simpa using (h.notp h0).2.2.2), h.lenS, h.lenN, fun i hi => (h.each i hi).mod MS (by simpa using (h.notp hi).1) (by simpa using (h.notp hi).2.1) (by show B.rb ∉ [B.p]; simpa using hr), h.nd, h.nr, h.few, h.wide, h.lims, ?_⟩
  have := h.early
  show max x.now t < _
  omega)
 obtain ⟨a, ha⟩ : ∃ a, x.now = a := ⟨_, rfl⟩
 rw [ha] at c6 HE
 have hmx : ∀ w : World, (Builtin.max_ #[2, 2] 2 #[.int .i64 (a : Int), .int .i64 (t : Int)]).run Try.prog w = .ok (.int .i64 ((max a t : Nat) : Int)) w := fun w => by
  show Result.ok (Value.int .i64 (if (a : Int) < (t : Int) then (t : Int) else (a : Int))) w = _
  congr 2; omega
 obtain ⟨m, hm⟩ : ∃ m, max a t = m := ⟨_, rfl⟩
 rw [hm] at hmx HE
 clear h ha hm hr
 go_enter Try.func36, Try.ntmps36
 go_wp2_with fail
 exact bodyPost_end (results_none rfl _ _ _) rfl ⟨⟨_, rfl⟩, HE.out, (Mod.refl [B.p] w).setCell (p := ⟨B.p, 6, none⟩) (.inl (by simp)) _⟩
theorem of_any (h : RingAt w B R wd x) (n : Int) (hn : -4611686018427387904 ≤ n ∧ n ≤ 4611686018427400000) :
  Calls Try.prog 85 #[.pointer (some ⟨B.p, 0, none⟩), .int .i64 n] w fun e w' => e = .returned (ofVal B (slotNo x n)) ∧ w = w' := by
 have hfew := h.few
 by_cases h0 : 0 ≤ n
 ·obtain ⟨k, rfl⟩ : ∃ k : Nat, n = (k : Int) := ⟨n.toNat, by omega⟩
  have c0 := h.blk.cell (i := 0) rfl
  have c1 := h.blk.cell (i := 1) rfl
  have hi : k % x.st.length < x.st.length := Nat.mod_lt _ hfew.1
  obtain ⟨i, hie⟩ : ∃ i, k % x.st.length = i := ⟨_, rfl⟩
  rw [hie] at hi
  obtain ⟨z, hz⟩ : ∃ z, x.st[i]? = some z := ⟨_, List.getElem?_eq_getElem hi⟩
  obtain ⟨q, hq⟩ : ∃ q, B.S[i]? = some q := ⟨_, List.getElem?_eq_getElem (by rw [h.lenS]; exact hi)⟩
  have cz := h.stamp.cell (i64s_get (p := i) hz)
  have cq := h.slots.cell (i := i) (v := .pointer (some ⟨q.1, 0, none⟩)) (by rw [List.getElem?_map, hq]; rfl)
  have hgd : x.st.getD i 0 = z := by rw [List.getD_eq_getElem?_getD, hz]; rfl
  have hsn : slotNo x (k : Int) = if z = (k : Int) + 1 then some i else none := by
   unfold slotNo
   simp only [Int.toNat_natCast, hie, hgd]
   by_cases hz1 : z = (k : Int) + 1
   ·rw [if_pos ⟨h0, hz1⟩, if_pos hz1]
   ·rw [if_neg (fun h => hz1 h.2), if_neg hz1]
  have hq1 : (B.sl i).s = q.1 := by unfold RiB.sl; rw [List.getD_eq_getElem?_getD, hq]; rfl
  rw [hsn]
  obtain ⟨m, hm⟩ : ∃ m, x.st.length = m := ⟨_, rfl⟩
  rw [hm] at c0 c1 hi hie hfew
  have hti : (k : Int).tmod (m : Int) = (i : Int) := by rw [← hie]; rfl
  have hmi : (k : Int) % (m : Int) = (i : Int) := by rw [← hie]; rfl
  have dm0 : decide ((m : Int) = 0) = false := by simp; omega
  have hm0 : ¬ (m : Int) = 0 := by omega
  have hm2 : ¬ m = 0 := by omega
  have dn : decide ((k : Int) < 0) = false := by simp
  by_cases hz1 : z = (k : Int) + 1
  ·rw [if_pos hz1]
   show Calls _ _ _ w fun e w' => e = .returned (Value.pointer (some ⟨(B.sl i).s, 0, none⟩)) ∧ w = w'
   rw [hq1]
   subst hz1
   clear h hq hz hgd hsn hm hie hq1
   go_enter Try.func85, Try.ntmps85
   go_wp2_with fail
   go_ret
   exact ⟨rfl, rfl⟩
  ·rw [if_neg hz1]
   show Calls _ _ _ w fun e w' => e = .returned (Value.pointer none) ∧ w = w'
   have dz : decide (z = (k : Int) + 1) = false := by simp [hz1]
   clear h hq hz hgd hsn hm hie hq1
   go_enter Try.func85, Try.ntmps85
   go_wp2_with fail
   go_ret
   exact ⟨rfl, rfl⟩
 ·have hsn : slotNo x n = none := by unfold slotNo; rw [if_neg (fun h => h0 h.1)]
  rw [hsn]
  show Calls _ _ _ w fun e w' => e = .returned (Value.pointer none) ∧ w = w'
  have dn : decide (n < 0) = true := by simp; omega
  clear h hsn
  go_enter Try.func85, Try.ntmps85
  go_wp2_with fail
  go_ret
  exact ⟨rfl, rfl⟩
end
end Go.Proofs.Ytndekdafiaogmaa.Ring
end
section
namespace Go.Proofs.Ytndekdafiaogmaa.Ring
open Go Go.RowKit Go.YtndekdafiaogmaaMem Go.YtndekdafiaogmaaLex Go.Proofs.Ytndekdafiaogmaa.Hash Go.Proofs.Ytndekdafiaogmaa.Arith Go.Proofs.Ytndekdafiaogmaa.Slot
open Go.Proofs.Ytndekdafiaogmaa.Sum (i64s i64s_get i64s_set)
def Small (x : Rs) : Prop := ∀ N ∈ x.N, ∀ z ∈ N, (0 : Int) ≤ z ∧ z ≤ 4194304
theorem cntS_small {R : List Row} {wd : Nat} {N : List Int} (hN : ∀ z ∈ N, (0 : Int) ≤ z ∧ z ≤ 4194304) (row : Nat) (key : List UInt8) : 0 ≤ cntS R wd N row key ∧ cntS R wd N row key ≤ 4194304 := by
 unfold cntS
 rw [List.getD_eq_getElem?_getD]
 cases h : N[idx R wd row key]? with
 | none => simp
 | some z => exact hN z (List.mem_of_getElem? h)
theorem leastTo_small {R : List Row} {wd : Nat} {N : List Int} (hN : ∀ z ∈ N, (0 : Int) ≤ z ∧ z ≤ 4194304) (key : List UInt8) : ∀ k, 0 ≤ leastTo R wd N key k ∧ leastTo R wd N key k ≤ 4194304
 | 0 => cntS_small hN 0 key
 | k + 1 => by
   have h1 := leastTo_small (R := R) (wd := wd) hN key k
   have h2 := cntS_small (R := R) (wd := wd) hN (k + 1) key
   unfold leastTo
   omega
def leastV (R : List Row) (wd : Nat) (x : Rs) (key : List UInt8) : Option Nat → Int
 | none => 0
 | some i => leastS R wd (x.N.getD i []) key
def countV (R : List Row) (wd : Nat) (x : Rs) (row : Nat) (key : List UInt8) : Option Nat → Int
 | none => 0
 | some i => cntS R wd (x.N.getD i []) row key
theorem small_get {x : Rs} (h : Small x) (i : Nat) : ∀ z ∈ x.N.getD i [], (0 : Int) ≤ z ∧ z ≤ 4194304 := by
 rw [List.getD_eq_getElem?_getD]
 cases hN : x.N[i]? with
 | none => simp
 | some N => exact h N (List.mem_of_getElem? hN)
theorem leastV_small {R : List Row} {wd : Nat} {x : Rs} (h : Small x) (key : List UInt8) (o : Option Nat) : 0 ≤ leastV R wd x key o ∧ leastV R wd x key o ≤ 4194304 := by
 cases o with
 | none => simp [leastV]
 | some i => exact leastTo_small (small_get h i) key _
theorem slotNo_lt {x : Rs} {n : Int} (h0 : 1 ≤ x.st.length) {i : Nat} (h : slotNo x n = some i) : i < x.st.length := by
 unfold slotNo at h
 split at h
 ·cases h; exact Nat.mod_lt _ h0
 ·cases h
def eldestS (x : Rs) (m : Int) (into : Nat) : Int := if x.part then ((up (m.toNat * (x.width - into)) x.width : Nat) : Int) else m
def fromTo (R : List Row) (wd : Nat) (x : Rs) (key : List UInt8) (n into : Nat) : Nat → Int
 | 0 => 0
 | k + 1 => sum (fromTo R wd x key n into k) (let q := leastV R wd x key (slotNo x ((n : Int) - (x.st.length : Int) + 1 + (k : Int))); if k = 0 then eldestS x q into else q)
def fromS (R : List Row) (wd : Nat) (x : Rs) (key : List UInt8) (n into : Nat) : Int := fromTo R wd x key n into x.st.length
theorem fromTo_i64 (R : List Row) (wd : Nat) (x : Rs) (key : List UInt8) (n into : Nat) : ∀ k, I64 (fromTo R wd x key n into k)
 | 0 => by unfold fromTo I64; omega
 | k + 1 => sum_i64 _ _
def massTo (R : List Row) (wd : Nat) (x : Rs) (row : Nat) (key : List UInt8) (n : Nat) : Nat → Int
 | 0 => 0
 | k + 1 => sum (massTo R wd x row key n k) (countV R wd x row key (slotNo x ((n : Int) - (x.st.length : Int) + 1 + (k : Int))))
def massS (R : List Row) (wd : Nat) (x : Rs) (row : Nat) (key : List UInt8) : Int := massTo R wd x row key (x.now / x.width) x.st.length
theorem up_le (m c : Nat) : up m c ≤ m + 1 := by
 unfold up
 have := Nat.div_le_self m c
 split <;> omega
theorem least_nil (key : List UInt8) (w : World) : Calls Try.prog 95 #[.pointer none, .string ⟨key.toArray⟩] w fun e w' => e = .returned (.int .i64 0) ∧ Mod [] w w' := by
 go_enter Try.func95, Try.ntmps95
 go_wp2_with fail
 go_ret
 exact ⟨rfl, Mod.refl _ _⟩
section
variable {w : World} {B : RiB} {R : List Row} {wd : Nat} {x : Rs}
theorem least_o (h : RingAt w B R wd x) (o : Option Nat) (ho : ∀ i, o = some i → i < x.st.length) (key : List UInt8) (hl : key.length ≤ 1000000) :
  Calls Try.prog 95 #[ofVal B o, .string ⟨key.toArray⟩] w fun e w' => e = .returned (.int .i64 (leastV R wd x key o)) ∧ Mod [] w w' := by
 cases o with
 | none => exact least_nil key w
 | some i => exact least_any (h.each i (ho i rfl)) key hl
set_option maxRecDepth 8000 in
theorem eldest_any (h : RingAt w B R wd x) (m : Int) (hm : 0 ≤ m ∧ m ≤ 4194304) (into : Nat) (hi : into < x.width) :
  Calls Try.prog 96 #[.pointer (some ⟨B.p, 0, none⟩), .int .i64 m, .int .i64 (into : Int)] w fun e w' => e = .returned (.int .i64 (eldestS x m into)) ∧ Mod [] w w' := by
 have c2 := h.blk.cell (i := 2) rfl
 have c5 := h.blk.cell (i := 5) rfl
 cases hp : x.part with
 | false =>
   have he : eldestS x m into = m := by unfold eldestS; rw [hp]; rfl
   rw [he]
   rw [hp] at c5
   clear h he hp hi
   go_enter Try.func96, Try.ntmps96
   go_wp2_with fail
   go_ret
   exact ⟨rfl, Mod.refl _ _⟩
 | true =>
   obtain ⟨k, rfl⟩ : ∃ k : Nat, m = (k : Int) := ⟨m.toNat, by omega⟩
   obtain ⟨d, hd⟩ : ∃ d, x.width - into = d := ⟨_, rfl⟩
   have hw := h.wide
   have hdi : (x.width : Int) - (into : Int) = (d : Int) := by omega
   have he : eldestS x (k : Int) into = ((up (k * d) x.width : Nat) : Int) := by unfold eldestS; rw [hp, if_pos rfl, Int.toNat_natCast, hd]
   have hkd : k * d ≤ 4194304 * 1099511627776 := Nat.mul_le_mul (by omega) (by omega)
   have U := Lib.hid (fun W : World => up_small k d x.width (by omega) (by omega) (by omega) (by omega) (by omega) W)
   have hu := up_le (k * d) x.width
   rw [he]
   rw [hp] at c5
   obtain ⟨q, hq⟩ : ∃ q, up (k * d) x.width = q := ⟨_, rfl⟩
   rw [hq] at U hu ⊢
   have hq2 : q ≤ 4611686018427387905 := by omega
   obtain ⟨wi, hwi⟩ : ∃ wi, x.width = wi := ⟨_, rfl⟩
   rw [hwi] at U c2 hdi hw
   have hw2 : wi ≤ 1099511627776 := hw.2
   have hd2 : d ≤ 1099511627776 := by omega
   have hw3 : wrap64 ((wi : Int) - (into : Int)) = (d : Int) := by rw [hdi]; unfold wrap64; omega
   have hw4 : IntKind.u64.wrap (d : Int) = (d : Int) := by rw [IntKind.wrap_u64]; omega
   have hw5 : IntKind.u64.wrap (wi : Int) = (wi : Int) := by rw [IntKind.wrap_u64]; omega
   have hw6 : IntKind.u64.wrap (k : Int) = (k : Int) := by rw [IntKind.wrap_u64]; omega
   have hw7 : wrap64 (q : Int) = (q : Int) := by unfold wrap64; omega
   have IS := Lib.hid (show IsC w.drew B.p from isC_of_cell (w := w) c2)
   have hin : (into : Int) ≤ 1099511627776 := by omega
   clear h he hp hi hkd hu hq hd hwi hm
   go_enter Try.func96, Try.ntmps96
   go_wp2_with fail
   refine wp_region_lex (by kernel_rfl) (by kernel_rfl) ?_
   go_wp2_with fail
   refine (U.out _).mono ?_
   rintro e1 w1 ⟨rfl, hM⟩
   go_wp2_with fail
   refine ⟨by kernel_rfl, ?_⟩
   go_wp2_with fail
   go_ret
   exact ⟨rfl, (Mod.refl [] w).drew.trans hM⟩
set_option maxRecDepth 8000 in
theorem from_any (h : RingAt w B R wd x) (hs : Small x) (key : List UInt8) (hl : key.length ≤ 1000000) (n : Nat) (hn : n ≤ 4611686018427400000) (into : Nat) (hi : into < x.width) :
  Calls Try.prog 77 #[.pointer (some ⟨B.p, 0, none⟩), .string ⟨key.toArray⟩, .int .i64 (n : Int), .int .i64 (into : Int)] w fun e w' => e = .returned (.int .i64 (fromS R wd x key n into)) ∧ Mod [] w w' := by
 have hfew := h.few
 have OF := Lib.hid (fun W (hM : Mod [] w W) (i : Int) hi => of_any (h.mod hM (by simp) (by simp)) i hi)
 have LO := Lib.hid (fun W (hM : Mod [] w W) (i : Int) => least_o (h.mod hM (by simp) (by simp)) (slotNo x i) (fun j hj => slotNo_lt hfew.1 hj) key hl)
 have EL := Lib.hid (fun W (hM : Mod [] w W) (m : Int) hm => eldest_any (h.mod hM (by simp) (by simp)) m hm into hi)
 have LS := Lib.hid (fun i : Int => leastV_small (R := R) (wd := wd) hs key (slotNo x i))
 have FI := Lib.hid (fromTo_i64 R wd x key n into)
 have C0 := Lib.hid (fun W (hM : Mod [] w W) => (hM.blk h.blk (by simp)).cell (i := 0) rfl)
 have ST : Hid (∀ k, fromTo R wd x key n into (k + 1) = sum (fromTo R wd x key n into k) (if k = 0 then eldestS x (leastV R wd x key (slotNo x ((n : Int) - (x.st.length : Int) + 1 + (k : Int)))) into else leastV R wd x key (slotNo x ((n : Int) - (x.st.length : Int) + 1 + (k : Int))))) := Lib.hid fun k => rfl
 have EI : Hid (∀ m : Int, 0 ≤ m → m ≤ 4194304 → I64 (eldestS x m into)) := Lib.hid fun m h0 h1 => by
  unfold eldestS
  split
  ·have h2 := up_le (m.toNat * (x.width - into)) x.width
   have h3 : m.toNat * (x.width - into) ≤ 4194304 * 1099511627776 := Nat.mul_le_mul (by omega) (by have := h.wide.2; omega)
   unfold I64; omega
  ·unfold I64; omega
 have c0 := h.blk.cell (i := 0) rfl
 have hF : fromS R wd x key n into = fromTo R wd x key n into x.st.length := rfl
 rw [hF]
 obtain ⟨m, hm⟩ : ∃ m, x.st.length = m := ⟨_, rfl⟩
 rw [hm] at hfew c0 C0 ST ⊢
 clear h hs hl hm hF hi
 go_enter Try.func77, Try.ntmps77
 go_wp2_with fail
 go_loopw [9, 10] (fun s i W => ∃ k : Nat, k ≤ m ∧ i = .int .i64 ((n : Int) - (m : Int) + 1 + (k : Int)) ∧ s = .int .i64 (fromTo R wd x key n into k) ∧ Mod [] w W) (fun _ i _ => ((n : Int) + 1 - intOf i).toNat)
 case atStart => exact ⟨0, Nat.zero_le _, by go_num, rfl, Mod.refl _ _⟩
 case round =>
  obtain ⟨k, hk, rfl, rfl, hM⟩ := hrel
  have MR := Lib.hid hM
  have c0r := C0.out wr hM
  have F0 := FI.out k
  obtain ⟨f, hf⟩ : ∃ f, fromTo R wd x key n into k = f := ⟨_, rfl⟩
  rw [hf] at F0
  by_cases hlt : k < m
  ·have O1 := Lib.hid (OF.out wr hM ((n : Int) - (m : Int) + 1 + (k : Int)) (by omega))
   have L1 := Lib.hid (LO.out wr hM ((n : Int) - (m : Int) + 1 + (k : Int)))
   have B1 := LS.out ((n : Int) - (m : Int) + 1 + (k : Int))
   have S1 := Lib.hid (ST.out k)
   obtain ⟨o, ho⟩ : ∃ o, slotNo x ((n : Int) - (m : Int) + 1 + (k : Int)) = o := ⟨_, rfl⟩
   rw [ho] at O1 L1 B1 S1
   rw [hf] at S1
   obtain ⟨i, hi⟩ : ∃ i : Int, (n : Int) - (m : Int) + 1 + (k : Int) = i := ⟨_, rfl⟩
   rw [hi] at O1 ⊢
   obtain ⟨q, hq⟩ : ∃ q, leastV R wd x key o = q := ⟨_, rfl⟩
   rw [hq] at L1 B1 S1
   have d1 : decide (i ≤ (n : Int)) = true := by simp; omega
   have HI := Lib.hid hi
   have hib : -100 ≤ i ∧ i ≤ 4611686018427400000 := by omega
   obtain ⟨hib1, hib2⟩ := hib
   rw [hf]
   obtain ⟨hm1, hm65⟩ := hfew
   by_cases hk0 : k = 0
   ·have d2 : (i == (n : Int) - (m : Int) + 1) = true := by simp; omega
    have E1 := Lib.hid (fun W hM => EL.out W hM q B1)
    have EB := EI.out q B1.1 B1.2
    obtain ⟨z, hz⟩ : ∃ z, eldestS x q into = z := ⟨_, rfl⟩
    rw [hz] at E1 EB
    have S2 : Hid (fromTo R wd x key n into (k + 1) = sum f z) := Lib.hid (by rw [S1.out, if_pos hk0, hz])
    have SU := Lib.hid (fun W => sum_any f z F0 EB W)
    obtain ⟨s, hs⟩ : ∃ s, sum f z = s := ⟨_, rfl⟩
    rw [hs] at SU S2
    clear hM hf hi hq hz hs ho F0 EB B1
    go_wp2_with fail
    refine O1.out.mono ?_
    rintro e1 w1 ⟨rfl, rfl⟩
    go_wp2_with fail
    refine L1.out.mono ?_
    rintro e2 w2 ⟨rfl, hM2⟩
    have M2 := Lib.hid (MR.out.trans hM2)
    have c02 := C0.out w2 M2.out
    clear hM2
    go_wp2_with fail
    refine (E1.out _ M2.out).mono ?_
    rintro e3 w3 ⟨rfl, hM3⟩
    have M3 := Lib.hid (M2.out.trans hM3)
    clear hM3
    go_wp2_with fail
    refine (SU.out _).mono ?_
    rintro e4 w4 ⟨rfl, rfl⟩
    go_wp2_with fail
    go_roundw
    case rel => exact ⟨k + 1, by omega, by have := HI.out; congr 1; omega, by rw [S2.out], M3.out⟩
    case measure => have := HI.out; simp [intOf]; omega
   ·have d2 : (i == (n : Int) - (m : Int) + 1) = false := by simp; omega
    have S2 : Hid (fromTo R wd x key n into (k + 1) = sum f q) := Lib.hid (by rw [S1.out, if_neg hk0])
    have QB : I64 q := by unfold I64; omega
    have SU := Lib.hid (fun W => sum_any f q F0 QB W)
    obtain ⟨s, hs⟩ : ∃ s, sum f q = s := ⟨_, rfl⟩
    rw [hs] at SU S2
    clear hM hf hi hq hs ho F0 QB B1
    go_wp2_with fail
    refine O1.out.mono ?_
    rintro e1 w1 ⟨rfl, rfl⟩
    go_wp2_with fail
    refine L1.out.mono ?_
    rintro e2 w2 ⟨rfl, hM2⟩
    have M2 := Lib.hid (MR.out.trans hM2)
    have c02 := C0.out w2 M2.out
    clear hM2
    go_wp2_with fail
    refine (SU.out _).mono ?_
    rintro e4 w4 ⟨rfl, rfl⟩
    go_wp2_with fail
    go_roundw
    case rel => exact ⟨k + 1, by omega, by have := HI.out; congr 1; omega, by rw [S2.out], M2.out⟩
    case measure => have := HI.out; simp [intOf]; omega
  ·obtain rfl : m = k := by omega
   have d1 : decide ((n : Int) - (m : Int) + 1 + (m : Int) ≤ (n : Int)) = false := by simp; omega
   have HF := Lib.hid hf
   rw [hf]
   clear hM hf
   go_wp2_with fail
   go_ret
   exact ⟨by rw [HF.out]; rfl, MR.out⟩
end
end Go.Proofs.Ytndekdafiaogmaa.Ring
end
section
namespace Go.Proofs.Ytndekdafiaogmaa.Ring
open Go Go.RowKit Go.YtndekdafiaogmaaMem Go.YtndekdafiaogmaaLex Go.Proofs.Ytndekdafiaogmaa.Hash Go.Proofs.Ytndekdafiaogmaa.Arith Go.Proofs.Ytndekdafiaogmaa.Slot
open Go.Proofs.Ytndekdafiaogmaa.Sum (i64s i64s_get i64s_set)
section
variable {w : World} {B : RiB} {R : List Row} {wd : Nat} {x : Rs}
def estS (R : List Row) (wd : Nat) (x : Rs) (key : List UInt8) : Int := fromS R wd x key (x.now / x.width) (x.now % x.width)
theorem estS_i64 (R : List Row) (wd : Nat) (x : Rs) (key : List UInt8) : I64 (estS R wd x key) := fromTo_i64 _ _ _ _ _ _ _
set_option maxRecDepth 8000 in
theorem estimate_any (h : RingAt w B R wd x) (hs : Small x) (key : List UInt8) (hl : key.length ≤ 1000000) :
  Calls Try.prog 43 #[.pointer (some ⟨B.p, 0, none⟩), .string ⟨key.toArray⟩] w fun e w' => e = .returned (.int .i64 (estS R wd x key)) ∧ Mod [] w w' := by
 have hle : x.now / x.width ≤ x.now := Nat.div_le_self _ _
 have hea := h.early
 have hlt : x.now % x.width < x.width := Nat.mod_lt _ (by have := h.wide.1; omega)
 have NU := Lib.hid (fun W (hM : Mod [] w W) => number_any (h.mod hM (by simp) (by simp)) x.now (by have := h.early; omega))
 have FR := Lib.hid (fun W (hM : Mod [] w W) => from_any (h.mod hM (by simp) (by simp)) hs key hl (x.now / x.width) (by omega) (x.now % x.width) hlt)
 have he : estS R wd x key = fromS R wd x key (x.now / x.width) (x.now % x.width) := rfl
 rw [he]
 have c2 := h.blk.cell (i := 2) rfl
 have c6 := h.blk.cell (i := 6) rfl
 have hti : (x.now : Int).tmod (x.width : Int) = ((x.now % x.width : Nat) : Int) := rfl
 have hmi : (x.now : Int) % (x.width : Int) = ((x.now % x.width : Nat) : Int) := rfl
 have hw1 := h.wide.1
 obtain ⟨f, hf⟩ : ∃ f, fromS R wd x key (x.now / x.width) (x.now % x.width) = f := ⟨_, rfl⟩
 rw [hf] at FR ⊢
 generalize x.now % x.width = i at *
 generalize x.now / x.width = q at *
 generalize x.now = t at *
 generalize x.width = m at *
 have IS := Lib.hid (show IsC w.drew B.p from isC_of_cell (w := w) c2)
 have hm0 : ¬ (m : Int) = 0 := by omega
 have hm2 : ¬ m = 0 := by omega
 have hm1 : ¬ (m : Int) = -1 := by omega
 clear h hs hl he hf hlt
 go_enter Try.func43, Try.ntmps43
 go_wp2_with fail
 refine Go.YtndekdafiaogmaaLex.wp_region_held [8] [11, 15] [] (by kernel_rfl) (by kernel_rfl) ?_
 simp only [wpCut, List.take_succ_cons, List.take_zero, List.drop_succ_cons, List.drop_zero, List.cons_append, List.nil_append]
 go_wp2_with fail
 refine (NU.out _ (Mod.refl [] w).drew).mono ?_
 rintro e1 w1 ⟨rfl, rfl⟩
 go_wp2_with fail
 refine ⟨Mod.refl _ _, ?_⟩
 go_wp2_with fail
 refine (FR.out _ (Mod.refl [] w).drew).mono ?_
 rintro e2 w2 ⟨rfl, hM2⟩
 have M2 := Lib.hid ((Mod.refl [] w).drew.trans hM2)
 clear hM2
 go_wp2_with fail
 refine ⟨by kernel_rfl, ⟨⟨by simp, IS.out⟩, ⟨by simp, IS.out⟩, trivial⟩, ?_⟩
 go_wp2_with fail
 go_ret
 exact ⟨rfl, M2.out⟩
def addR (R : List Row) (wd : Nat) (x : Rs) (key : List UInt8) (cost : Int) : Rs :=
 let n := x.now / x.width
 let i := n % x.st.length
 if x.st.getD i 0 = (n : Int) + 1 then { x with N := x.N.set i (addC R wd (x.N.getD i []) key cost) }
 else { x with st := x.st.set i ((n : Int) + 1), N := x.N.set i (addC R wd (List.replicate (x.N.getD i []).length 0) key cost) }
def RAddPost (B : RiB) (R : List Row) (wd : Nat) (x : Rs) (w : World) (e : Ending) (w' : World) : Prop := (∃ v, e = .returned v) ∧ RingAt w' B R wd x ∧ Mod B.own w w'
end
end Go.Proofs.Ytndekdafiaogmaa.Ring
end
section
namespace Go.Proofs.Ytndekdafiaogmaa.Ring
open Go Go.RowKit Go.YtndekdafiaogmaaMem Go.YtndekdafiaogmaaLex Go.Proofs.Ytndekdafiaogmaa.Hash Go.Proofs.Ytndekdafiaogmaa.Arith Go.Proofs.Ytndekdafiaogmaa.Slot
open Go.Proofs.Ytndekdafiaogmaa.Sum (i64s i64s_get i64s_set)
theorem apart_list {S : List (Nat × Nat)} (h : (S.flatMap fun q => [q.1, q.2]).Nodup) {i j : Nat} (hi : i < S.length) (hj : j < S.length) : S[i].2 ≠ S[j].1 ∧ (i ≠ j → S[i].2 ≠ S[j].2) := by
 obtain ⟨h1, h2⟩ := List.pairwise_flatMap.1 h
 rw [List.pairwise_iff_getElem] at h2
 rcases Nat.lt_trichotomy i j with hl | rfl | hl
 ·have := h2 i j hi hj hl
  exact ⟨this _ (by simp) _ (by simp), fun _ => this _ (by simp) _ (by simp)⟩
 ·have := h1 _ (List.getElem_mem hi)
  simp at this
  exact ⟨fun e => this e.symm, fun e => absurd rfl e⟩
 ·have := h2 j i hj hi hl
  exact ⟨fun e => this _ (by simp) _ (by simp) e.symm, fun _ e => this _ (by simp) _ (by simp) e.symm⟩
section
variable {w : World} {B : RiB} {R : List Row} {wd : Nat} {x : Rs}
theorem sl_get {i : Nat} {q : Nat × Nat} (h : B.S[i]? = some q) : B.sl i = ⟨q.1, q.2, B.rb, B.rc⟩ := by
 unfold RiB.sl; rw [List.getD_eq_getElem?_getD, h]; rfl
theorem RingAt.apart (h : RingAt w B R wd x) {i : Nat} (hi : i < x.st.length) :
  (B.sl i).nb ≠ B.p ∧ (B.sl i).nb ≠ B.sb ∧ (B.sl i).nb ≠ B.tb ∧ (B.sl i).nb ≠ B.rb ∧ B.tb ≠ B.p ∧ B.tb ≠ B.sb ∧ B.tb ≠ B.rb ∧
  ∀ j, j < x.st.length → (B.sl i).nb ≠ (B.sl j).s ∧ (i ≠ j → (B.sl i).nb ≠ (B.sl j).nb) ∧ B.tb ≠ (B.sl j).s ∧ B.tb ≠ (B.sl j).nb := by
 have hn := h.nd
 have hr := h.nr
 have hl := h.lenS
 unfold RiB.own at hn hr
 simp only [List.nodup_cons, List.mem_cons, not_or] at hn hr
 obtain ⟨⟨n1, n2, n3⟩, ⟨n4, n5⟩, n6, n7⟩ := hn
 obtain ⟨r1, r2, r3, r4⟩ := hr
 have hm : ∀ j, j < x.st.length → (B.sl j).s ∈ B.S.flatMap (fun q => [q.1, q.2]) ∧ (B.sl j).nb ∈ B.S.flatMap (fun q => [q.1, q.2]) := fun j hj => by
  have hj' : j < B.S.length := by omega
  rw [sl_get (List.getElem?_eq_getElem hj')]
  exact ⟨List.mem_flatMap.2 ⟨_, List.getElem_mem hj', by simp⟩, List.mem_flatMap.2 ⟨_, List.getElem_mem hj', by simp⟩⟩
 have hmi := (hm i hi).2
 refine ⟨fun e => n3 (e ▸ hmi), fun e => n5 (e ▸ hmi), fun e => n6 (e ▸ hmi), fun e => r4 (e ▸ hmi), fun e => n2 e.symm, fun e => n4 e.symm, fun e => r3 e.symm, fun j hj => ⟨?_, ?_, fun e => n6 (e ▸ (hm j hj).1), fun e => n6 (e ▸ (hm j hj).2)⟩⟩
 ·rw [sl_get (List.getElem?_eq_getElem (show i < B.S.length by omega)), sl_get (List.getElem?_eq_getElem (show j < B.S.length by omega))]
  exact (apart_list n7 _ _).1
 ·rw [sl_get (List.getElem?_eq_getElem (show i < B.S.length by omega)), sl_get (List.getElem?_eq_getElem (show j < B.S.length by omega))]
  exact (apart_list n7 _ _).2
theorem RingAt.put (h : RingAt w B R wd x) {i : Nat} (hi : i < x.st.length) {w' : World} {N' : List Int} (hs : SlotAt w' (B.sl i) R wd N') (hm : Mod [(B.sl i).nb] w w') : RingAt w' B R wd { x with N := x.N.set i N' } := by
 obtain ⟨a1, a2, a3, a4, a5, a6, a7, a8⟩ := h.apart hi
 refine ⟨hm.blk h.blk (by simpa using a1.symm), hm.blk h.slots (by simpa using a2.symm), hm.blk h.stamp (by simpa using a3.symm), h.lenS, by show (x.N.set i N').length = _; rw [List.length_set]; exact h.lenN, fun j hj => ?_, h.nd, h.nr, h.few, h.wide, h.lims, h.early⟩
 show SlotAt w' (B.sl j) R wd ((x.N.set i N').getD j [])
 have hj' : j < x.st.length := hj
 by_cases hij : i = j
 ·subst hij
  rw [List.getD_eq_getElem?_getD, List.getElem?_set_self (by rw [h.lenN]; exact hi)]
  exact hs
 ·rw [List.getD_eq_getElem?_getD, List.getElem?_set_ne hij, ← List.getD_eq_getElem?_getD]
  obtain ⟨b1, b2, b3, b4⟩ := a8 j hj'
  exact (h.each j hj').mod hm (by simpa using b1.symm) (by simpa using (b2 hij).symm) (by show B.rb ∉ _; simpa using a4.symm)
theorem RingAt.mark (h : RingAt w B R wd x) {i : Nat} (hi : i < x.st.length) (z : Int) : RingAt (w.setCell ⟨B.tb, i, none⟩ (.int .i64 z)) B R wd { x with st := x.st.set i z } := by
 obtain ⟨a1, a2, a3, a4, a5, a6, a7, a8⟩ := h.apart hi
 have MS := (Mod.refl [B.tb] w).setCell (p := ⟨B.tb, i, none⟩) (.inl (by simp)) (.int .i64 z)
 refine ⟨?_, MS.blk h.slots (by simpa using a6.symm), ?_, ?_, ?_, fun j hj => ?_, h.nd, h.nr, ?_, h.wide, h.lims, h.early⟩
 ·show Blk _ B.p _ [.slice (some ⟨B.sb, 0, none⟩) (x.st.set i z).length (x.st.set i z).length, .slice (some ⟨B.tb, 0, none⟩) (x.st.set i z).length (x.st.set i z).length, _, _, _, _, _]
  rw [List.length_set]
  exact MS.blk h.blk (by simpa using a5.symm)
 ·have := h.stamp.set i (.int .i64 z)
  rw [i64s_set] at this
  exact this
 ·show _ = (x.st.set i z).length; rw [List.length_set]; exact h.lenS
 ·show _ = (x.st.set i z).length; rw [List.length_set]; exact h.lenN
 ·have hj' : j < x.st.length := by have : j < (x.st.set i z).length := hj; rwa [List.length_set] at this
  obtain ⟨b1, b2, b3, b4⟩ := a8 j hj'
  exact (h.each j hj').mod MS (by simpa using b3.symm) (by simpa using b4.symm) (by show B.rb ∉ _; simpa using a7.symm)
 ·show 1 ≤ (x.st.set i z).length ∧ (x.st.set i z).length ≤ 65; rw [List.length_set]; exact h.few
set_option maxRecDepth 8000 in
theorem add_any (h : RingAt w B R wd x) (hs : Small x) (key : List UInt8) (hl : key.length ≤ 1000000) (cost : Int) (hc : I64 cost) :
  Calls Try.prog 44 #[.pointer (some ⟨B.p, 0, none⟩), .string ⟨key.toArray⟩, .int .i64 cost] w (RAddPost B R wd (addR R wd x key cost) w) := by
 have hfew := h.few
 have hle : x.now / x.width ≤ x.now := Nat.div_le_self _ _
 have hea := h.early
 have NU := Lib.hid (number_any h x.now (by omega))
 have c0 := h.blk.cell (i := 0) rfl
 have c1 := h.blk.cell (i := 1) rfl
 have c6 := h.blk.cell (i := 6) rfl
 have hi : x.now / x.width % x.st.length < x.st.length := Nat.mod_lt _ (by omega)
 have hadd : addR R wd x key cost = if x.st.getD (x.now / x.width % x.st.length) 0 = ((x.now / x.width : Nat) : Int) + 1 then { x with N := x.N.set (x.now / x.width % x.st.length) (addC R wd (x.N.getD (x.now / x.width % x.st.length) []) key cost) } else { x with st := x.st.set (x.now / x.width % x.st.length) (((x.now / x.width : Nat) : Int) + 1), N := x.N.set (x.now / x.width % x.st.length) (addC R wd (List.replicate (x.N.getD (x.now / x.width % x.st.length) []).length 0) key cost) } := rfl
 rw [hadd]
 obtain ⟨n, hn⟩ : ∃ n, x.now / x.width = n := ⟨_, rfl⟩
 rw [hn] at NU hi hle hadd ⊢
 obtain ⟨i, hie⟩ : ∃ i, n % x.st.length = i := ⟨_, rfl⟩
 rw [hie] at hi ⊢
 have hn2 : n ≤ 4611686018427387904 := by omega
 obtain ⟨z, hz⟩ : ∃ z, x.st[i]? = some z := ⟨_, List.getElem?_eq_getElem hi⟩
 obtain ⟨q, hq⟩ : ∃ q, B.S[i]? = some q := ⟨_, List.getElem?_eq_getElem (by rw [h.lenS]; exact hi)⟩
 have hsl := sl_get hq
 have hiS : i < B.S.length := by rw [h.lenS]; exact hi
 have hown := sl_mem (B := B) hiS
 have cz := h.stamp.cell (i64s_get (p := i) hz)
 have hgd : x.st.getD i 0 = z := by rw [List.getD_eq_getElem?_getD, hz]; rfl
 have hti : (n : Int).tmod (x.st.length : Int) = (i : Int) := by rw [← hie]; rfl
 have hmi : (n : Int) % (x.st.length : Int) = (i : Int) := by rw [← hie]; rfl
 have SI : ∀ z ∈ x.N.getD i [], I64 z := fun z hz => by have := small_get hs i z hz; unfold I64; omega
 have AP := Lib.hid (h.apart hi)
 have HH := Lib.hid h
 have CQ : Hid (∀ W, Mod [(B.sl i).nb, B.tb] w W → W.cell? ⟨B.sb, i, none⟩ = some (.pointer (some ⟨q.1, 0, none⟩)) ∧ W.cell? ⟨B.p, 0, none⟩ = some (.slice (some ⟨B.sb, 0, none⟩) x.st.length x.st.length) ∧ W.cell? ⟨B.p, 1, none⟩ = some (.slice (some ⟨B.tb, 0, none⟩) x.st.length x.st.length)) := Lib.hid fun W hM => by
  obtain ⟨a1, a2, a3, a4, a5, a6, a7, a8⟩ := AP.out
  have hp := hM.blk HH.out.blk (by simp; exact ⟨a1.symm, a5.symm⟩)
  exact ⟨(hM.blk HH.out.slots (by simp; exact ⟨a2.symm, a6.symm⟩)).cell (by rw [List.getElem?_map, hq]; rfl), hp.cell (i := 0) rfl, hp.cell (i := 1) rfl⟩
 have cq := (CQ.out w (Mod.refl _ _)).1
 rw [hgd]
 by_cases hz1 : z = (n : Int) + 1
 ·rw [if_pos hz1]
  have hres := Lib.hid (fun w' (hs' : SlotAt w' (B.sl i) R wd (addC R wd (x.N.getD i []) key cost)) hm => HH.out.put hi hs' hm)
  have AD := Lib.hid (Slot.add_any (h.each i hi) SI key hl cost hc)
  have HO := Lib.hid hown
  have HSL := Lib.hid hsl
  have AD2 := AD.out
  rw [HSL.out] at AD2
  simp only at AD2
  have AD3 := Lib.hid AD2
  subst hz1
  obtain ⟨m, hm⟩ : ∃ m, x.st.length = m := ⟨_, rfl⟩
  rw [hm] at c0 c1 hi hfew hti hmi
  have hm0 : ¬ (m : Int) = 0 := by omega
  have hm2 : ¬ m = 0 := by omega
  clear h hs hl hc hadd hie hz hq hsl hown hgd SI AD2 AD hn hm
  go_enter Try.func44, Try.ntmps44
  go_wp2_with fail
  refine NU.out.mono ?_
  rintro e1 w1 ⟨rfl, rfl⟩
  go_wp2_with fail
  refine AD3.out.mono ?_
  rintro e2 w2 ⟨⟨v, rfl⟩, hS2, hM2⟩
  have S2 := Lib.hid hS2
  have M2 := Lib.hid hM2
  clear hS2 hM2
  go_wp2_with fail
  have hmm : Mod [(B.sl i).nb] w w2 := by rw [HSL.out]; exact M2.out
  exact bodyPost_end (results_none rfl _ _ _) rfl ⟨⟨_, rfl⟩, hres.out w2 (by rw [HSL.out]; exact S2.out) hmm, hmm.mono (fun b hb => .inl (by simp at hb; subst hb; exact HO.out.2))⟩
 ·rw [if_neg hz1]
  have CL := Lib.hid (Slot.clear_any (h.each i hi))
  have HO := Lib.hid hown
  have HSL := Lib.hid hsl
  have CL2 := CL.out
  rw [HSL.out] at CL2
  simp only at CL2
  have CL3 := Lib.hid CL2
  have HI := Lib.hid hi
  have HN := Lib.hid h.lenN
  have NX : Hid (∀ w1, SlotAt w1 (B.sl i) R wd (List.replicate (x.N.getD i []).length 0) → Mod [(B.sl i).nb] w w1 →
    w1.cell? ⟨B.tb, i, none⟩ = some (.int .i64 z) ∧ w1.frozen? ⟨B.tb, i, none⟩ = false ∧
    RingAt (w1.setCell ⟨B.tb, i, none⟩ (.int .i64 ((n : Int) + 1))) B R wd { x with N := x.N.set i (List.replicate (x.N.getD i []).length 0), st := x.st.set i ((n : Int) + 1) }) := Lib.hid fun w1 hs1 hm1 => by
   obtain ⟨a1, a2, a3, a4, a5, a6, a7, a8⟩ := AP.out
   have hb := hm1.blk HH.out.stamp (by simpa using a3.symm)
   exact ⟨hb.cell (i64s_get (p := i) hz), hb.free i, (HH.out.put HI.out hs1 hm1).mark HI.out _⟩
  have dz : (z == (n : Int) + 1) = false := by simp [hz1]
  have HL := Lib.hid hl
  have HC := Lib.hid hc
  obtain ⟨m, hm⟩ : ∃ m, x.st.length = m := ⟨_, rfl⟩
  rw [hm] at c0 c1 hi hfew hti hmi CQ
  have hm0 : ¬ (m : Int) = 0 := by omega
  have hm2 : ¬ m = 0 := by omega
  clear h hs hl hc hadd hie hz hq hsl hown hgd SI CL2 CL hn hm
  go_enter Try.func44, Try.ntmps44
  go_wp2_with fail
  refine NU.out.mono ?_
  rintro e1 w1 ⟨rfl, rfl⟩
  go_wp2_with fail
  refine CL3.out.mono ?_
  rintro e2 w2 ⟨⟨v, rfl⟩, hS2, hM2⟩
  have M2 : Hid (Mod [(B.sl i).nb] w w2) := Lib.hid (by rw [HSL.out]; exact hM2)
  obtain ⟨cz2, fz2, hR2⟩ := NX.out w2 (by rw [HSL.out]; exact hS2) M2.out
  have R2 := Lib.hid hR2
  have M2' : Hid (Mod [(B.sl i).nb, B.tb] w w2) := Lib.hid (M2.out.mono (fun b hb => .inl (by simp at hb; simp [hb])))
  have M3 : Hid (Mod [(B.sl i).nb, B.tb] w (w2.setCell ⟨B.tb, i, none⟩ (.int .i64 ((n : Int) + 1)))) := Lib.hid (M2'.out.setCell (p := ⟨B.tb, i, none⟩) (.inl (by simp)) _)
  obtain ⟨cq2, cs2, ct2⟩ := CQ.out w2 M2'.out
  obtain ⟨cq3, cs3, ct3⟩ := CQ.out _ M3.out
  have hi3 : i < (x.st.set i ((n : Int) + 1)).length := by rw [List.length_set]; exact HI.out
  have AD : Hid (Calls Try.prog 80 #[.pointer (some ⟨q.1, 0, none⟩), .string ⟨key.toArray⟩, .int .i64 cost] (w2.setCell ⟨B.tb, i, none⟩ (.int .i64 ((n : Int) + 1))) (AddPost (B.sl i) R wd (addC R wd (List.replicate (x.N.getD i []).length 0) key cost) (w2.setCell ⟨B.tb, i, none⟩ (.int .i64 ((n : Int) + 1))))) := Lib.hid (by
   have h1 := R2.out.each i hi3
   have e : ({ x with N := x.N.set i (List.replicate (x.N.getD i []).length 0), st := x.st.set i ((n : Int) + 1) } : Rs).N.getD i [] = List.replicate (x.N.getD i []).length 0 := by
    show (x.N.set i _).getD i [] = _
    rw [List.getD_eq_getElem?_getD, List.getElem?_set_self (by rw [HN.out]; exact HI.out)]; rfl
   rw [e] at h1
   have h2 := Slot.add_any h1 (fun z hz => by rw [List.eq_of_mem_replicate hz]; unfold I64; omega) key HL.out cost HC.out
   have e2 : (B.sl i).s = q.1 := by rw [HSL.out]
   rw [e2] at h2
   exact h2)
  obtain ⟨w3, hw3⟩ : ∃ w3, w2.setCell ⟨B.tb, i, none⟩ (.int .i64 ((n : Int) + 1)) = w3 := ⟨_, rfl⟩
  have HW := Lib.hid hw3
  clear hS2 hM2 hR2 hw3
  go_wp2_with fail
  refine AD.out.mono ?_
  rintro e4 w4 ⟨⟨v, rfl⟩, hS4, hM4⟩
  have S4 := Lib.hid hS4
  have M4 := Lib.hid hM4
  clear hS4 hM4
  go_wp2_with fail
  have hput := R2.out.put hi3 S4.out M4.out
  simp only [List.set_set] at hput
  refine bodyPost_end (results_none rfl _ _ _) rfl ⟨⟨_, rfl⟩, hput, (M3.out.trans (M4.out.mono (S' := [(B.sl i).nb, B.tb]) (fun b hb => .inl (by simp at hb; simp [hb])))).mono (fun b hb => .inl ?_)⟩
  simp at hb
  rcases hb with rfl | rfl
  ·exact HO.out.2
  ·simp [RiB.own]
end
end Go.Proofs.Ytndekdafiaogmaa.Ring
end
