/- a key's number by a row: Row.Of; Bucket. -/
import Derived.Test.YtajadfoannmaiaaHash4
import Derived.Deep.QuietTactic
import Derived.BigQuiet
import Derived.Laws.Strings2
namespace Go.Proofs.Ytajadfoannmaiaa.Hash
open Go Go.RowKit Go.YtajadfoannmaiaaMem Go.YtajadfoannmaiaaLex
set_option linter.unusedVariables false
set_option linter.unusedSimpArgs false

structure Row where
  x : Nat
  a : Nat
  b : Nat
def Row.ok (r : Row) : Prop := r.x < 2305843009213693952 ∧ r.a < 2305843009213693952 ∧ r.b < 2305843009213693952
def Row.cells (r : Row) : List Value := [.int .u64 (r.x : Int), .int .u64 (r.a : Int), .int .u64 (r.b : Int)]
def chunks (x : Nat) : Nat → Nat → List UInt8 → Nat
  | 0, h, _ => h
  | f + 1, h, s => if s = [] then h else chunks x f ((h * x % 2305843009213693951 + num (s.take 7)) % 2305843009213693951) (s.drop 7)
/-- A key's number. -/
def Row.of (r : Row) (key : List UInt8) : Nat := (chunks r.x key.length (key.length + 1) key * r.a % 2305843009213693951 + r.b) % 2305843009213693951
theorem Row.of_lt (r : Row) (key : List UInt8) : r.of key < 2305843009213693951 := Nat.mod_lt _ (by decide)
theorem same_mul {x y : Nat} {w : World} {n : Nat} (hx : x < 2305843009213693952) (hy : y < 2305843009213693952) : Calls Try.prog 51 #[.int .u64 x, .int .u64 y] (w.drewN n) fun e w'' => e = .returned (.int .u64 ((x * y % 2305843009213693951 : Nat) : Int)) ∧ ∃ m, w'' = w.drewN m :=
  Calls.quiet_of_same ((mul_any x y hx hy _).mono fun e w' h => ⟨h.1, h.2.symm⟩)
theorem same_add {x y : Nat} {w : World} {n : Nat} (h : x + y < 18446744073709551616) : Calls Try.prog 50 #[.int .u64 x, .int .u64 y] (w.drewN n) fun e w'' => e = .returned (.int .u64 (((x + y) % 2305843009213693951 : Nat) : Int)) ∧ ∃ m, w'' = w.drewN m :=
  Calls.quiet_of_same ((add_any x y h _).mono fun e w' h => ⟨h.1, h.2.symm⟩)
theorem same_word {s : List UInt8} {w : World} {n : Nat} (hs : s.length ≤ 7) : Calls Try.prog 52 #[.string ⟨s.toArray⟩] (w.drewN n) fun e w'' => e = .returned (.int .u64 ((num s : Nat) : Int)) ∧ ∃ m, w'' = w.drewN m :=
  Calls.quiet_of_same ((word_any s hs _).mono fun e w' h => ⟨h.1, h.2.symm⟩)

set_option maxRecDepth 4000 in
set_option maxHeartbeats 1600000 in
theorem of_key (r : Row) (key : List UInt8) (hr : r.ok) (hl : key.length ≤ 1000000) (w : World) :
    Calls Try.prog 46 #[.agg #[.int .u64 (r.x : Int), .int .u64 (r.a : Int), .int .u64 (r.b : Int)], .string ⟨key.toArray⟩] w fun e w' => e = .returned (.int .u64 ((r.of key : Nat) : Int)) ∧ Mod [] w w' := by
  have hsz : (ByteArray.mk key.toArray).size = key.length := by simp [ByteArray.size]
  obtain ⟨x, a, b⟩ := r
  obtain ⟨hx, ha, hb⟩ := hr
  simp only at hx ha hb
  have HBX := Lib.hid (Blk.new w [.int .u64 (x : Int), .int .u64 (a : Int), .int .u64 (b : Int)] 27)
  go_enter Try.func46, Try.ntmps46
  go_wp2_with fail
  go_loopw [5, 6] (fun u i wr => ∃ (j h f : Nat), j ≤ key.length + 6 ∧ h < 2305843009213693951 ∧ (key.drop j).length ≤ f ∧ chunks x f h (key.drop j) = chunks x key.length (key.length + 1) key ∧ u = .int .u64 h ∧ i = .int .i64 j ∧ Blk wr w.heap.size 27 [.int .u64 (x : Int), .int .u64 (a : Int), .int .u64 (b : Int)] ∧ Mod [] w wr) (fun _ i _ => key.length + 7 - (intOf i).toNat)
  case atStart => exact ⟨0, key.length + 1, key.length, by omega, by omega, by simp, rfl, by simp, rfl, HBX.out, (Mod.refl [] w).alloc _⟩
  case round =>
    obtain ⟨j, h, f, hj, hh, hf, hch, rfl, rfl, hB, hM⟩ := hrel
    have c0 := hB.cell (i := 0) rfl
    have c1 := hB.cell (i := 1) rfl
    have c2 := hB.cell (i := 2) rfl
    have HC := Lib.hid hch
    have B2 := Lib.hid hB
    have MR := Lib.hid hM
    clear hch hB hM HBX
    by_cases hlt : j < key.length
    · obtain ⟨m, hm⟩ : ∃ m, m = min (j + 7) key.length := ⟨_, rfl⟩
      have hmn : ∀ w : World, (Builtin.min_ #[3, 3] 3 #[.int .i64 ((j : Int) + 7), .int .i64 (key.length : Int)]).run Try.prog w = .ok (.int .i64 m) w := fun w => by
        show Result.ok (Value.int .i64 (if (key.length : Int) < (j : Int) + 7 then (key.length : Int) else (j : Int) + 7)) w = _
        congr 2; omega
      have hmj : j ≤ m := by omega
      have hml : m ≤ key.length := by omega
      have hext : (ByteArray.mk key.toArray).extract j m = ⟨((key.drop j).take 7).toArray⟩ := by
        rw [ByteArray.extract_mk]
        congr 2
        by_cases h7 : j + 7 ≤ key.length
        · rw [show m - j = 7 by omega]
        · rw [List.take_of_length_le (by rw [List.length_drop]; omega), List.take_of_length_le (by rw [List.length_drop]; omega)]
      have hjm1 : (j : Int) ≤ m := by omega
      have hml1 : (m : Int) ≤ key.length := by omega
      have hj0 : (0 : Int) ≤ j := by omega
      have hm0 : (0 : Int) ≤ m := by omega
      have hsl : ∀ W : World, (Instr.sliceAt 9 (.string ⟨key.toArray⟩) (some (.int .i64 j)) (some (.int .i64 m)) none).run Try.prog W = .ok (.string ⟨((key.drop j).take 7).toArray⟩) W := fun W => by
        have h0 := run_sliceAt_string (P := Try.prog) (w := W) 9 (.string ⟨key.toArray⟩) (some (.int .i64 (j : Int))) (some (.int .i64 (m : Int))) none Try.underlying9
        refine h0.trans ?_
        have b1 : (Instr.sliceBound (.int .i64 (m : Int)) key.length .sliceAlen).run Try.prog W = .ok m W := by
          simp [Instr.sliceBound, asIntOf, go_sem, hml]
        have b2 : (Instr.sliceBound (.int .i64 (j : Int)) m .sliceB).run Try.prog W = .ok j W := by
          simp [Instr.sliceBound, asIntOf, go_sem, hmj]
        simp [Instr.slice, Instr.sliceBounds, run_underlying Try.underlying9, hsz, b1, b2, hext]
      have hw7 : ((key.drop j).take 7).length ≤ 7 := List.length_take_le ..
      obtain ⟨mu, hmu⟩ : ∃ mu, h * x % 2305843009213693951 = mu := ⟨_, rfl⟩
      have hmu1 : mu < 2305843009213693951 := by rw [← hmu]; exact Nat.mod_lt _ (by decide)
      obtain ⟨nm, hnm⟩ : ∃ nm, num ((key.drop j).take 7) = nm := ⟨_, rfl⟩
      have hnm1 : nm < 72057594037927936 := by
        rw [← hnm]
        exact Nat.lt_of_lt_of_le (num_lt _ _ rfl) (by rw [show (72057594037927936 : Nat) = 256 ^ 7 from rfl]; exact Nat.pow_le_pow_right (by decide) hw7)
      obtain ⟨sm, hsm⟩ : ∃ sm, (mu + nm) % 2305843009213693951 = sm := ⟨_, rfl⟩
      have hsm1 : sm < 2305843009213693951 := by rw [← hsm]; exact Nat.mod_lt _ (by decide)
      have SM := Lib.hid (fun (W : World) (k : Nat) => same_mul (w := W) (n := k) (show h < 2305843009213693952 by omega) hx)
      have SW := Lib.hid (fun (W : World) (k : Nat) => same_word (w := W) (n := k) hw7)
      have SA := Lib.hid (fun (W : World) (k : Nat) => same_add (x := mu) (y := nm) (w := W) (n := k) (by omega))
      rw [hmu] at SM
      rw [hnm] at SW
      rw [hsm] at SA
      have HMU := Lib.hid hmu
      have HNM := Lib.hid hnm
      have HSM := Lib.hid hsm
      have HM := Lib.hid hm
      clear hm hmu hnm hsm hext hw7
      go_wp2_with fail
      go_quiet (first | (go_at_call 51; exact SM.out _ _) | (go_at_call 52; exact SW.out _ _) | (go_at_call 50; exact SA.out _ _))
      go_wp2_with fail
      obtain ⟨f, rfl⟩ : ∃ f', f = f' + 1 := ⟨f - 1, by rw [List.length_drop] at hf; omega⟩
      have hne : key.drop j ≠ [] := by intro e; have := congrArg List.length e; rw [List.length_drop] at this; simp at this; omega
      have hst : chunks x (f + 1) h (key.drop j) = chunks x f sm (key.drop (j + 7)) := by
        show (if key.drop j = [] then _ else _) = _
        rw [if_neg hne, HMU.out, HNM.out, HSM.out, List.drop_drop]
      exact ⟨⟨j + 7, sm, f, by omega, hsm1, by rw [List.length_drop] at hf ⊢; omega, by rw [← hst]; exact HC.out, rfl, by go_num, B2.out.drewN _, MR.out.drewN _⟩, by simp [intOf]; omega⟩
    · have hdr : key.drop j = [] := List.drop_eq_nil_of_le (by omega)
      have hc0 := HC.out
      rw [hdr] at hc0
      have hch : chunks x f h [] = h := by cases f <;> rfl
      rw [hch] at hc0
      obtain ⟨mu, hmu⟩ : ∃ mu, h * a % 2305843009213693951 = mu := ⟨_, rfl⟩
      have hmu1 : mu < 2305843009213693951 := by rw [← hmu]; exact Nat.mod_lt _ (by decide)
      obtain ⟨sm, hsm⟩ : ∃ sm, (mu + b) % 2305843009213693951 = sm := ⟨_, rfl⟩
      have hres : sm = Row.of ⟨x, a, b⟩ key := by unfold Row.of; simp only; rw [← hc0, hmu, hsm]
      have SM := Lib.hid (fun (W : World) (k : Nat) => same_mul (w := W) (n := k) (show h < 2305843009213693952 by omega) ha)
      have SA := Lib.hid (fun (W : World) (k : Nat) => same_add (x := mu) (y := b) (w := W) (n := k) (by omega))
      rw [hmu] at SM
      rw [hsm] at SA
      have HRS := Lib.hid hres
      clear hc0 hch hmu hsm hres
      go_wp2_with fail
      go_quiet (first | (go_at_call 51; exact SM.out _ _) | (go_at_call 50; exact SA.out _ _))
      go_wp2_with fail
      go_ret
      exact ⟨by rw [← HRS.out]; rfl, MR.out.drewN _⟩

theorem bucket_any (r : Row) (key : List UInt8) (n : Nat) (hr : r.ok) (hl : key.length ≤ 1000000) (h1 : 0 < n) (hn : n < 4096) (w : World) :
    Calls Try.prog 43 #[.agg #[.int .u64 (r.x : Int), .int .u64 (r.a : Int), .int .u64 (r.b : Int)], .string ⟨key.toArray⟩, .int .i64 n] w fun e w' => e = .returned (.int .i64 (place (r.of key) n : Nat)) ∧ Mod [] w w' := by
  have K := Lib.hid (fun W : World => of_key r key hr hl W)
  have P := Lib.hid (fun W : World => place_any (r.of key) n (r.of_lt key) hn h1 W)
  generalize r.of key = q at *
  obtain ⟨x, a, b⟩ := r
  simp only at K
  clear hr
  go_enter Try.func43, Try.ntmps43
  go_wp2_with fail
  refine (K.out _).mono ?_
  rintro e w1 ⟨rfl, hM1⟩
  go_wp2_with fail
  refine (P.out _).mono ?_
  rintro e w2 ⟨rfl, hM2⟩
  go_wp2_with fail
  go_ret
  exact ⟨rfl, (((Mod.refl [] w).alloc _).trans hM1).trans hM2⟩
end Go.Proofs.Ytajadfoannmaiaa.Hash
