/- pool.Pool: Put and Remove as functions of the state; a nil pool; Bytes. -/
import Derived.Test.YtajadfoannmaiaaPoolIdle
namespace Go.Proofs.Ytajadfoannmaiaa.Pool
open Go Go.RowKit Go.YtajadfoannmaiaaMem Go.YtajadfoannmaiaaLex Go.YtajadfoannmaiaaRange Go.Proofs.Ytajadfoannmaiaa.Hash Go.Proofs.Ytajadfoannmaiaa.Keys Go.Proofs.Ytajadfoannmaiaa.Index Go.Proofs.Ytajadfoannmaiaa.Cell Go.Proofs.Ytajadfoannmaiaa.Arith
set_option linter.unusedVariables false
set_option linter.unusedSimpArgs false

/-- A pool's state: the keys, the free places, the cells. -/
structure PS where
  S : List (Option (List UInt8))
  fl : List Nat
  C : List Cell
abbrev At (w : World) (B : PB) (s : PS) : Prop := PoolAt w B s.S s.fl s.C
def putP (s : PS) (key : List UInt8) (c : Cell) : Option Nat × PS :=
  match placeOf s.S key, s.fl with
  | none, j :: fl' => if key.length ≤ 64 then (some j, ⟨s.S.set j (some key), fl', s.C.set j c⟩) else (none, s)
  | _, _ => (none, s)
def remP (s : PS) (key : List UInt8) : Cell × Bool × PS :=
  match placeOf s.S key with
  | some i => (s.C.getD i .zero, true, ⟨s.S.set i none, i :: s.fl, s.C⟩)
  | none => (.zero, false, s)
def PutPost (B : PB) (r : Option Nat × PS) (w : World) (e : Ending) (w' : World) : Prop := e = .returned (cellAt B r.1) ∧ At w' B r.2 ∧ Mod B.all w w'
theorem put_at {w : World} {B : PB} {s : PS} (h : At w B s) (key : List UInt8) (hl : key.length ≤ 1000000) (c : Cell) (hc : c.ok) :
    Calls Try.prog 9 #[.pointer (some ⟨B.p, 0, none⟩), .string ⟨key.toArray⟩, c.val] w (PutPost B (putP s key c) w) := by
  obtain ⟨S, fl, C⟩ := s
  cases hp : placeOf S key with
  | some p =>
    have e : putP ⟨S, fl, C⟩ key c = (none, ⟨S, fl, C⟩) := by unfold putP; simp only [hp]
    rw [e]
    exact put_no h key hl (putS_there hp) c
  | none =>
    cases fl with
    | nil =>
      have e : putP ⟨S, [], C⟩ key c = (none, ⟨S, [], C⟩) := by unfold putP; simp only [hp]
      rw [e]
      exact put_no h key hl (putS_no hp (.inl rfl)) c
    | cons j fl' =>
      by_cases h64 : key.length ≤ 64
      · have e : putP ⟨S, j :: fl', C⟩ key c = (some j, ⟨S.set j (some key), fl', C.set j c⟩) := by unfold putP; simp only [hp]; rw [if_pos h64]
        rw [e]
        exact put_yes h key h64 hp c hc
      · have e : putP ⟨S, j :: fl', C⟩ key c = (none, ⟨S, j :: fl', C⟩) := by unfold putP; simp only [hp]; rw [if_neg h64]
        rw [e]
        exact put_no h key hl (putS_no hp (.inr (by omega))) c
def RemovePost (B : PB) (r : Cell × Bool × PS) (w : World) (e : Ending) (w' : World) : Prop := e = .returned (.tuple #[r.1.val, .bool r.2.1]) ∧ At w' B r.2.2 ∧ Mod B.all w w'
theorem rem_at {w : World} {B : PB} {s : PS} (h : At w B s) (key : List UInt8) (hl : key.length ≤ 1000000) :
    Calls Try.prog 14 #[.pointer (some ⟨B.p, 0, none⟩), .string ⟨key.toArray⟩] w (RemovePost B (remP s key) w) := by
  obtain ⟨S, fl, C⟩ := s
  cases hp : placeOf S key with
  | some i =>
    have hi : i < S.length := (List.getElem?_eq_some_iff.1 (placeOf_get hp)).1
    have hlen := h.len
    simp only at hlen
    have hc : C[i]? = some (C.getD i .zero) := by rw [List.getD_eq_getElem?_getD, List.getElem?_eq_getElem (show i < C.length by omega)]; rfl
    have e : remP ⟨S, fl, C⟩ key = (C.getD i .zero, true, ⟨S.set i none, i :: fl, C⟩) := by unfold remP; simp only [hp]
    rw [e]
    exact rem_yes h key hl i hp _ hc
  | none =>
    have e : remP ⟨S, fl, C⟩ key = (.zero, false, ⟨S, fl, C⟩) := by unfold remP; simp only [hp]
    rw [e]
    exact rem_no h key hl hp
/-! A nil pool. -/
theorem len_nil (w : World) : Calls Try.prog 16 #[.pointer none] w fun e w' => e = .returned (.int .i64 0) ∧ w = w' := by
  go_enter Try.func16, Try.ntmps16
  go_wp2_with fail
  go_ret
  exact ⟨rfl, rfl⟩
theorem full_nil (w : World) : Calls Try.prog 17 #[.pointer none] w fun e w' => e = .returned (.bool true) ∧ Mod [] w w' := by
  go_enter Try.func17, Try.ntmps17
  go_wp2_with fail
  go_quiet (fail)
  go_wp2_with fail
  go_ret
  exact ⟨rfl, (Mod.refl [] w).drewN _⟩
theorem find_nil (key : List UInt8) (w : World) : Calls Try.prog 12 #[.pointer none, .string ⟨key.toArray⟩] w fun e w' => e = .returned (.pointer none) ∧ w = w' := by
  go_enter Try.func12, Try.ntmps12
  go_wp2_with fail
  go_ret
  exact ⟨rfl, rfl⟩
theorem put_nil (key : List UInt8) (c : Cell) (w : World) : Calls Try.prog 9 #[.pointer none, .string ⟨key.toArray⟩, c.val] w fun e w' => e = .returned (.pointer none) ∧ Mod [] w w' := by
  obtain ⟨c0, c1, c2, c3⟩ := c
  simp only [Cell.val]
  go_enter Try.func9, Try.ntmps9
  go_wp2_with fail
  go_ret
  exact ⟨rfl, (Mod.refl [] w).alloc _⟩
theorem rem_nil (key : List UInt8) (w : World) : Calls Try.prog 14 #[.pointer none, .string ⟨key.toArray⟩] w fun e w' => e = .returned (.tuple #[Cell.zero.val, .bool false]) ∧ Mod [] w w' := by
  have Z0 := Lib.hid (Blk.new w [.int .i64 0, .int .i64 0, .int .i64 0, .int .i64 0] 32)
  go_enter Try.func14, Try.ntmps14
  go_wp2_with fail
  exact bodyPost_ret (v := .tuple #[.agg #[.int .i64 0, .int .i64 0, .int .i64 0, .int .i64 0], .bool false]) (results_row_tmp (p := 4) (u := 5) (ty := 32) rfl _ _ w.heap.size 32 #[.int .i64 0, .int .i64 0, .int .i64 0, .int .i64 0] (0, 0) _ rfl Z0.out Try.underlying32 rfl (four_size cell_info)) rfl ⟨rfl, (Mod.refl [] w).alloc _⟩
theorem new_none (n : Int) (hn : n < 1 ∨ 1024 < n) (r : Row) (w : World) : Calls Try.prog 8 #[.int .i64 n, .agg #[.int .u64 (r.x : Int), .int .u64 (r.a : Int), .int .u64 (r.b : Int)]] w fun e w' => e = .returned (.pointer none) ∧ Mod [] w w' := by
  by_cases h1 : n < 1
  · have d1 : decide (n < 1) = true := by simp; omega
    clear hn
    go_enter Try.func8, Try.ntmps8
    go_wp2_with fail
    go_ret
    exact ⟨rfl, (Mod.refl [] w).alloc _⟩
  · have d1 : decide (n < 1) = false := by simp; omega
    have d2 : decide ((1024 : Int) < n) = true := by simp; omega
    clear hn
    go_enter Try.func8, Try.ntmps8
    go_wp2_with fail
    go_ret
    exact ⟨rfl, (Mod.refl [] w).alloc _⟩
theorem bytes_index (n : Nat) (hn : n ≤ 100000) (w : World) : Calls Try.prog 30 #[.int .i64 n] w fun e w' => e = .returned (.int .i64 (4 * (2 * (n : Int) + 1))) ∧ w = w' := by
  have K := Lib.hid (fun W : World => size_any n (by omega) W)
  obtain ⟨m, hm⟩ : ∃ m, 2 * n + 1 = m := ⟨_, rfl⟩
  rw [hm] at K
  rw [show 4 * (2 * (n : Int) + 1) = 4 * (m : Int) by omega]
  have hm2 : m ≤ 200001 := by omega
  clear hm
  go_enter Try.func30, Try.ntmps30
  go_wp2_with fail
  refine (K.out _).mono ?_
  rintro e1 w1 ⟨rfl, rfl⟩
  go_wp2_with fail
  go_ret
  exact ⟨rfl, rfl⟩
theorem bytes_keys (n : Nat) (hn : n ≤ 100000) (w : World) : Calls Try.prog 29 #[.int .i64 n] w fun e w' => e = .returned (.int .i64 ((n : Int) * 69)) ∧ w = w' := by
  go_enter Try.func29, Try.ntmps29
  go_wp2_with fail
  go_ret
  exact ⟨rfl, rfl⟩
theorem bytes_any (n : Nat) (hn : n ≤ 100000) (w : World) : Calls Try.prog 15 #[.int .i64 n] w fun e w' => e = .returned (.int .i64 ((n : Int) * 69 + 4 * (2 * (n : Int) + 1) + 32 * n)) ∧ w = w' := by
  have K := Lib.hid (fun W : World => bytes_keys n hn W)
  have I := Lib.hid (fun W : World => bytes_index n hn W)
  go_enter Try.func15, Try.ntmps15
  go_wp2_with fail
  refine (K.out _).mono ?_
  rintro e1 w1 ⟨rfl, rfl⟩
  go_wp2_with fail
  refine (I.out _).mono ?_
  rintro e1 w1 ⟨rfl, rfl⟩
  go_wp2_with fail
  go_ret
  exact ⟨rfl, rfl⟩
end Go.Proofs.Ytajadfoannmaiaa.Pool
