/- hash functions of draws: Rows. -/
import Derived.Test.YtajadfoannmaiaaHash5
namespace Go.Proofs.Ytajadfoannmaiaa.Hash
open Go Go.RowKit Go.YtajadfoannmaiaaMem Go.YtajadfoannmaiaaLex
set_option linter.unusedVariables false
set_option linter.unusedSimpArgs false

def v64 (l : List Nat) : List Value := l.map fun (x : Nat) => .int .u64 (x : Int)
theorem v64_length (l : List Nat) : (v64 l).length = l.length := by simp [v64]
theorem v64_get {l : List Nat} {i x : Nat} (h : l[i]? = some x) : (v64 l)[i]? = some (.int .u64 (x : Int)) := by simp [v64, h]

set_option maxRecDepth 4000 in
theorem draw_any {w : World} {v : Value} {l : List Nat} (hv : Sl w v (v64 l)) (i : Nat) (hi : i < 1000000) :
    Calls Try.prog 27 #[v, .int .i64 i] w fun e w' => e = .returned (.int .u64 ((l.getD i 0 : Nat) : Int)) ∧ w = w' := by
  obtain ⟨a, cp, rfl, hm, hA⟩ := hv.open
  rw [v64_length] at *
  by_cases h : i < l.length
  · obtain ⟨b, off, rfl, hb, hc⟩ := hA i h
    have ck := hc i _ (v64_get (List.getElem?_eq_getElem h))
    have hd : l.getD i 0 = l[i] := by rw [List.getD_eq_getElem?_getD, List.getElem?_eq_getElem h]; rfl
    rw [hd]
    generalize l[i] = x at *
    have dl : decide ((l.length : Int) ≤ i) = false := by simp; omega
    clear hv hA hc hd
    go_enter Try.func27, Try.ntmps27
    go_wp2_with fail
    go_ret
    exact ⟨rfl, rfl⟩
  · have hd : l.getD i 0 = 0 := by rw [List.getD_eq_getElem?_getD, List.getElem?_eq_none (by omega)]; rfl
    rw [hd]
    have dl : decide ((l.length : Int) ≤ i) = true := by simp; omega
    clear hv hA hd
    go_enter Try.func27, Try.ntmps27
    go_wp2_with fail
    go_ret
    exact ⟨rfl, rfl⟩
/-- One from 1 on, below the prime. -/
def wholeN (l : List Nat) (i : Nat) : Nat := l.getD i 0 % 2305843009213693950 + 1
theorem wholeN_lt (l : List Nat) (i : Nat) : wholeN l i < 2305843009213693951 := by unfold wholeN; omega
set_option maxRecDepth 4000 in
theorem whole_any {w : World} {v : Value} {l : List Nat} (hv : Sl w v (v64 l)) (i : Nat) (hi : i < 1000000) :
    Calls Try.prog 25 #[v, .int .i64 i] w fun e w' => e = .returned (.int .u64 ((wholeN l i : Nat) : Int)) ∧ w = w' := by
  have D := Lib.hid (draw_any hv i hi)
  have hw := wholeN_lt l i
  have he : wholeN l i = l.getD i 0 % 2305843009213693950 + 1 := rfl
  generalize wholeN l i = q at *
  generalize l.getD i 0 = x at *
  obtain ⟨y, hy⟩ : ∃ y, x % 2305843009213693950 = y := ⟨_, rfl⟩
  have hx : (x : Int).tmod 2305843009213693950 = (y : Int) := by rw [Int.tmod_eq_emod_of_nonneg (by omega)]; omega
  have hx2 : (x : Int) % 2305843009213693950 = (y : Int) := by omega
  have hq : q = y + 1 := by omega
  have hy1 : y < 2305843009213693950 := by omega
  clear hv he hy
  subst hq
  go_enter Try.func25, Try.ntmps25
  go_wp2_with fail
  refine D.out.mono ?_
  rintro e w' ⟨rfl, rfl⟩
  go_wp2_with fail
  go_ret
  exact ⟨rfl, rfl⟩

/-- The one function that three draws give. -/
def rowOf (l : List Nat) : Row := ⟨wholeN l 0, wholeN l 1, l.getD 2 0 % 2305843009213693951⟩
theorem rowOf_ok (l : List Nat) : (rowOf l).ok := by
  refine ⟨?_, ?_, ?_⟩
  · have := wholeN_lt l 0; show wholeN l 0 < _; omega
  · have := wholeN_lt l 1; show wholeN l 1 < _; omega
  · show l.getD 2 0 % _ < _; omega
def RowsPost (l : List Nat) (w : World) (e : Ending) (w' : World) : Prop :=
  ∃ g cap, e = .returned (.slice (some ⟨g, 0, none⟩) 1 cap) ∧ w.heap.size ≤ g ∧ g < w'.heap.size ∧ 1 ≤ cap ∧ cap ≤ maxLen ∧ (∀ i u, (rowOf l).cells[i]? = some u → w'.cell? ⟨g, i, none⟩ = some u) ∧ Mod [] w w'
theorem row_info : ∃ i, Try.prog.info? 27 = some i ∧ i.zero = some (.agg #[.int .u64 0, .int .u64 0, .int .u64 0]) ∧ i.size = 3 ∧ i.bytes = 24 := info_parts (show (Try.prog.info? 27).map (fun i => (i.zero, i.size, i.bytes)) = some (some ((.agg #[.int .u64 0, .int .u64 0, .int .u64 0])), 3, 24) by kernel_rfl)

set_option maxRecDepth 4000 in
set_option maxHeartbeats 1600000 in
theorem rows_one {w : World} {v : Value} {l : List Nat} (hv : Sl w v (v64 l)) (hx : ∀ x, x ∈ l → x < 18446744073709551616) :
    Calls Try.prog 13 #[v, .int .i64 1] w (RowsPost l w) := by
  obtain ⟨i0, hi, hz0, hz1, hz2⟩ := row_info
  have h2 : l.getD 2 0 < 18446744073709551616 := by
    rw [List.getD_eq_getElem?_getD]
    cases h : l[2]? with
    | none => simp
    | some x => exact hx x (List.mem_of_getElem? h)
  have W0 := Lib.hid (fun (W : World) (hM : Mod [] w W) => whole_any (hv.mod hM (by simp)) 0 (by omega))
  have W1 := Lib.hid (fun (W : World) (hM : Mod [] w W) => whole_any (hv.mod hM (by simp)) 1 (by omega))
  have D2 := Lib.hid (fun (W : World) (hM : Mod [] w W) => draw_any (hv.mod hM (by simp)) 2 (by omega))
  have O2 := Lib.hid (fun (W : World) => of_any (l.getD 2 0) h2 W)
  have hc : (rowOf l).cells = [.int .u64 (wholeN l 0 : Nat), .int .u64 (wholeN l 1 : Nat), .int .u64 (l.getD 2 0 % 2305843009213693951 : Nat)] := rfl
  unfold RowsPost
  rw [hc]
  generalize wholeN l 0 = q0 at *
  generalize wholeN l 1 = q1 at *
  generalize hq3 : l.getD 2 0 % 2305843009213693951 = q2 at *
  generalize l.getD 2 0 = d2 at *
  clear hv hx hc hq3
  go_enter Try.func13, Try.ntmps13
  go_wp2_with fail
  go_loopw [5, 10] (fun x i wr => (x = .slice none 0 0 ∧ i = .int .i64 0 ∧ w = wr) ∨ (i = .int .i64 1 ∧ wr.ownsRow w.heap.size 27 3 x 1 [.int .u64 (q0 : Int), .int .u64 (q1 : Int), .int .u64 (q2 : Int)] ∧ Mod [] w wr)) (fun _ i _ => 1 - (intOf i).toNat)
  case atStart => exact .inl ⟨rfl, rfl, rfl⟩
  case round =>
    rcases hrel with ⟨rfl, rfl, rfl⟩ | ⟨rfl, hO, hM⟩
    · go_wp2_with fail
      refine (W0.out _ (Mod.refl [] _)).mono ?_
      rintro e w1 ⟨rfl, rfl⟩
      go_wp2_with fail
      refine (W1.out _ (Mod.refl [] _)).mono ?_
      rintro e w1 ⟨rfl, rfl⟩
      go_wp2_with fail
      refine (D2.out _ (Mod.refl [] _)).mono ?_
      rintro e w1 ⟨rfl, rfl⟩
      go_wp2_with fail
      refine (O2.out _).mono ?_
      rintro e w1 ⟨rfl, rfl⟩
      have HB := Lib.hid (Blk.new w [.int .u64 (q0 : Int), .int .u64 (q1 : Int), .int .u64 (q2 : Int)] 27)
      go_wp2_with (at_builtin; go_must (refine wpList_append_own_at _ rfl _ _ 40 rfl w.heap.size 27 i0 _ 3 24 Try.underlying40 hi hz0 hz1 hz2 rfl (by decide) (.slice none 0 0) 0 [] rfl (World.ownsRow_nil _ _ _ _) ⟨w.heap.size, 0, none⟩ 1 1 [.int .u64 (q0 : Int), .int .u64 (q1 : Int), .int .u64 (q2 : Int)] rfl rfl (fun j u hu => by rw [add_eq, Nat.zero_add]; exact HB.out.cell hu) (fun u hu => by simp at hu; rcases hu with rfl | rfl | rfl <;> rfl) (by unfold maxLen; omega) (by omega) (by simp) ?_; intro v3 w3 ho3 hg3 hn3 hat3; have O3 := Lib.hid ho3; have M3 := Lib.hid (((Mod.refl [] w).alloc (.cells #[.int .u64 (q0 : Int), .int .u64 (q1 : Int), .int .u64 (q2 : Int)] 27)).trans' (grown_mod (Mod.refl [] _) hg3) (by simp [Value.ownBlock])); clear ho3 hg3 hn3 hat3))
      go_wp2_with fail
      go_roundw
      case rel => exact .inr ⟨by go_num, O3.out, M3.out⟩
      case measure => simp [intOf]
    · have HO := Lib.hid hO
      have MR := Lib.hid hM
      clear hO hM
      go_wp2_with fail
      go_ret
      rcases HO.out.2 with ⟨_, h0⟩ | ⟨g, cap, cur, rfl, h1, h2, h3, h4, h5, h6⟩
      · omega
      · refine ⟨g, cap, rfl, h1, lt_of_some h2, h3, h4, fun i u hu => ?_, MR.out⟩
        have := HO.out.cells (g := g) rfl i u hu
        rw [add_eq, Nat.zero_add] at this; exact this
end Go.Proofs.Ytajadfoannmaiaa.Hash
