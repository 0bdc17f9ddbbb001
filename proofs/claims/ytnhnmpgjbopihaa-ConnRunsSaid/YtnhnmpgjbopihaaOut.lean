/- outbuf: what each of its functions does to a place in memory that holds a queue of bytes. -/
import Derived.Test.YtnhnmpgjbopihaaProg
import Derived.Test.YtnhnmpgjbopihaaLex
import Derived.Test.YtnhnmpgjbopihaaMem
import Derived.KernelRfl
import Derived.BigRegion
import Derived.Lib.Hide
import Derived.Deep.DeepMust
namespace Go.Proofs.Ytnhnmpgjbopihaa.Out
open Go Go.RowKit Go.YtnhnmpgjbopihaaMem Go.YtnhnmpgjbopihaaLex
set_option linter.unusedVariables false
set_option linter.unusedSimpArgs false

/-- A place for N bytes: the struct at block p, its bytes at block d; q waits, from the a-th on. -/
structure BufA (w : World) (p d N a : Nat) (bs q : List UInt8) : Prop where
  hp : Blk w p 81 [.slice (some ⟨d, 0, none⟩) N N, .int .i64 a, .int .i64 q.length]
  hd : Blk w d 5 (vb bs)
  ne : p ≠ d
  lenN : bs.length = N
  at_lt : a < N
  le : q.length ≤ N
  bound : N ≤ 65536
  q_at : ∀ i, i < q.length → bs[(a + i) % N]? = q[i]?
def Buf (w : World) (p d N : Nat) (q : List UInt8) : Prop := ∃ a bs, BufA w p d N a bs q

theorem BufA.mod {S w w' p d N a bs q} (h : BufA w p d N a bs q) (hm : Mod S w w') (h1 : p ∉ S) (h2 : d ∉ S) : BufA w' p d N a bs q :=
  ⟨hm.blk h.hp h1, hm.blk h.hd h2, h.ne, h.lenN, h.at_lt, h.le, h.bound, h.q_at⟩
theorem Buf.mod {S w w' p d N q} (h : Buf w p d N q) (hm : Mod S w w') (h1 : p ∉ S) (h2 : d ∉ S) : Buf w' p d N q := by
  obtain ⟨a, bs, h⟩ := h; exact ⟨a, bs, h.mod hm h1 h2⟩
theorem Buf.lt {w p d N q} (h : Buf w p d N q) : p < w.heap.size ∧ d < w.heap.size := by
  obtain ⟨a, bs, h⟩ := h; exact ⟨h.hp.lt, h.hd.lt⟩
theorem Buf.le {w p d N q} (h : Buf w p d N q) : q.length ≤ N ∧ N ≤ 65536 ∧ 1 ≤ N ∧ p ≠ d := by
  obtain ⟨a, bs, h⟩ := h; exact ⟨h.le, h.bound, by have := h.at_lt; omega, h.ne⟩

theorem mod_ne {a i k N : Nat} (hk : k < N) (hi : i < k) : (a + i) % N ≠ (a + k) % N := by
  have hr := Nat.mod_lt a (show 0 < N by omega)
  rw [← Nat.mod_add_mod a N i, ← Nat.mod_add_mod a N k]
  generalize a % N = r at *
  have e : ∀ x, x < N → (r + x) % N = if r + x < N then r + x else r + x - N := fun x hx => by
    split
    · exact Nat.mod_eq_of_lt (by assumption)
    · rw [Nat.mod_eq_sub_mod (by omega), Nat.mod_eq_of_lt (by omega)]
  rw [e i (by omega), e k hk]
  split <;> split <;> omega

theorem put_step {a N : Nat} {bs q : List UInt8} (c : UInt8) (hN : bs.length = N) (hq : q.length < N) (h : ∀ i, i < q.length → bs[(a + i) % N]? = q[i]?) :
    ∀ i, i < (q ++ [c]).length → (bs.set ((a + q.length) % N) c)[(a + i) % N]? = (q ++ [c])[i]? := by
  intro i hi
  simp only [List.length_append, List.length_cons, List.length_nil] at hi
  have hm := Nat.mod_lt (a + q.length) (show 0 < N by omega)
  by_cases e : i = q.length
  · subst e; simp [hN, hm]
  · have hlt : i < q.length := by omega
    rw [List.getElem?_set_ne (mod_ne hq hlt).symm, h i hlt, List.getElem?_append_left hlt]

theorem take_step {a N : Nat} {bs : List UInt8} {c : UInt8} {q : List UInt8} (hN : 0 < N) (h : ∀ i, i < (c :: q).length → bs[(a + i) % N]? = (c :: q)[i]?) :
    ∀ i, i < q.length → bs[((a + 1) % N + i) % N]? = q[i]? := by
  intro i hi
  have := h (i + 1) (by simp; omega)
  rw [Nat.mod_add_mod, show a + 1 + i = a + (i + 1) by omega]
  simpa using this

theorem vb_set {bs : List UInt8} (i : Nat) (c : UInt8) : (vb bs).set i (.int .u8 c.toNat) = vb (bs.set i c) := by simp [vb, List.map_set]
theorem vb_at {bs : List UInt8} {i : Nat} {c : UInt8} (h : bs[i]? = some c) : (vb bs)[i]? = some (.int .u8 c.toNat) := vb_get h

/-! ### New -/

def NewPost (size : Int) (w : World) (e : Ending) (w' : World) : Prop :=
  ∃ p d, e = .returned (.pointer (some ⟨p, 0, none⟩)) ∧ Buf w' p d size.toNat [] ∧ w.heap.size ≤ p ∧ w.heap.size ≤ d ∧ Mod [] w w'
theorem new_some (size : Int) (w : World) (h0 : 1 ≤ size) (h1 : size ≤ 65536) :
    Calls Try.prog 24 #[.int .i64 size] w (NewPost size w) := by
  obtain ⟨n, rfl⟩ := Int.eq_ofNat_of_zero_le (show 0 ≤ size by omega)
  have hmk : ∀ w : World, (Instr.makeSlice 22 (.int .i64 (n : Int)) (.int .i64 (n : Int))).run Try.prog w = .ok (.slice (some ⟨w.heap.size, 0, none⟩) n n) (w.alloc (.cells (vb (List.replicate n 0)).toArray 5)) := fun w => by
    obtain ⟨i, hi, hz⟩ : ∃ i, Try.prog.info? 5 = some i ∧ i.zero = some (.int .u8 0) ∧ i.size = 1 ∧ i.bytes = 1 := info_parts (show (Try.prog.info? 5).map (fun i => (i.zero, i.size, i.bytes)) = some (some ((.int .u8 0)), 1, 1) by kernel_rfl)
    rw [run_make (P := Try.prog) (w := w) 22 5 i _ Try.underlying22 hi hz.1 .i64 .i64 n n (by omega) (by omega) (by rw [hz.2.2]; omega) (by omega)]
    have : madeCells (Value.int IntKind.u8 0).cells ((n : Int).toNat * i.size) = (vb (List.replicate n 0)).toArray := by
      rw [hz.2.1, Nat.mul_one, Int.toNat_natCast]
      apply Array.ext'
      rw [show (Value.int IntKind.u8 0).cells = #[Value.int .u8 0] from rfl, toList_madeCells_one]
      simp [vb]
    rw [this, Int.toNat_natCast]
  have hn1 : ¬ (n : Int) < 1 := by omega
  have hn2 : ¬ (n : Int) > 65536 := by omega
  go_enter Try.func24, Try.ntmps24
  go_wp2
  go_ret
  have hb := (Blk.new w (vb (List.replicate n 0)) 5)
  refine ⟨w.heap.size + 1, w.heap.size, rfl, ⟨0, List.replicate n 0, ?_⟩, by omega, by omega, ?_⟩
  · rw [Int.toNat_natCast]
    refine ⟨?_, hb.alloc _, by omega, by simp, by omega, by simp, by omega, by simp⟩
    have := Blk.new (w.alloc (.cells (vb (List.replicate n 0)).toArray 5)) [.slice (some ⟨w.heap.size, 0, none⟩) n n, .int .i64 0, .int .i64 0] 81
    simpa using this
  · exact ((Mod.refl _ _).alloc _).alloc _

theorem new_none (size : Int) (w : World) (h : size < 1 ∨ 65536 < size) :
    Calls Try.prog 24 #[.int .i64 size] w fun e w' => e = .returned (.pointer none) ∧ w = w' := by
  rcases h with h | h
  · go_enter Try.func24, Try.ntmps24
    go_wp2
    go_ret
    exact ⟨rfl, rfl⟩
  · have hn1 : ¬ size < 1 := by omega
    go_enter Try.func24, Try.ntmps24
    go_wp2
    go_ret
    exact ⟨rfl, rfl⟩

/-! ### Len, Room, Clear -/

theorem len_any {w p d N q} (h : Buf w p d N q) :
    Calls Try.prog 33 #[.pointer (some ⟨p, 0, none⟩)] w fun e w' => e = .returned (.int .i64 q.length) ∧ w = w' := by
  obtain ⟨a, bs, h⟩ := h
  have c2 : w.cell? ⟨p, 2, none⟩ = some (.int .i64 q.length) := h.hp.cell rfl
  clear h
  go_enter Try.func33, Try.ntmps33
  go_wp2
  go_ret
  exact ⟨rfl, rfl⟩
theorem len_nil (w : World) : Calls Try.prog 33 #[.pointer none] w fun e w' => e = .returned (.int .i64 0) ∧ w = w' := by
  go_enter Try.func33, Try.ntmps33
  go_wp2
  go_ret
  exact ⟨rfl, rfl⟩

theorem room_any {w p d N q} (h : Buf w p d N q) :
    Calls Try.prog 28 #[.pointer (some ⟨p, 0, none⟩)] w fun e w' => e = .returned (.int .i64 ((N : Int) - q.length)) ∧ w.drew = w' := by
  have hle := h.le
  obtain ⟨a, bs, h⟩ := h
  have c0 : w.cell? ⟨p, 0, none⟩ = some (.slice (some ⟨d, 0, none⟩) N N) := h.hp.cell rfl
  have c2 : w.cell? ⟨p, 2, none⟩ = some (.int .i64 q.length) := h.hp.cell rfl
  clear h
  go_enter Try.func28, Try.ntmps28
  go_wp2
  refine wp_region_lex (by kernel_rfl) (by kernel_rfl) ?_
  go_wp2
  refine ⟨by kernel_rfl, ?_⟩
  go_wp2
  go_ret
  exact ⟨rfl, rfl⟩
theorem room_nil (w : World) : Calls Try.prog 28 #[.pointer none] w fun e w' => e = .returned (.int .i64 0) ∧ w = w' := by
  go_enter Try.func28, Try.ntmps28
  go_wp2
  go_ret
  exact ⟨rfl, rfl⟩

theorem clear_any {w p d N q} (h : Buf w p d N q) :
    Calls Try.prog 26 #[.pointer (some ⟨p, 0, none⟩)] w fun e w' => e = .returned (.tuple #[]) ∧ Buf w' p d N [] ∧ Mod [p, d] w w' := by
  obtain ⟨a, bs, h⟩ := h
  have c1 : w.cell? ⟨p, 1, none⟩ = some (.int .i64 a) := h.hp.cell rfl
  have c2 : w.cell? ⟨p, 2, none⟩ = some (.int .i64 q.length) := h.hp.cell rfl
  have f1 := h.hp.free 1
  have f2 := h.hp.free 2
  have H := Lib.hid h
  clear h
  go_enter Try.func26, Try.ntmps26
  go_wp2
  first | go_wp2 | (refine wp_region_lex (by kernel_rfl) (by kernel_rfl) ?_; go_wp2; refine ⟨by kernel_rfl, ?_⟩; go_wp2)
  go_end0
  have h := H.out
  have hN := h.at_lt
  refine ⟨rfl, ⟨0, bs, ?_⟩, ?_⟩
  · refine ⟨?_, ?_, h.ne, h.lenN, by omega, by simp, h.bound, by simp⟩
    · have := (h.hp.set 1 (.int .i64 0)).set 2 (.int .i64 0)
      simpa using this
    · exact (h.hd.other h.ne.symm _).other h.ne.symm _
  · exact ((Mod.refl _ _).setCell (by simp) _).setCell (by simp) _
theorem clear_nil (w : World) : Calls Try.prog 26 #[.pointer none] w fun e w' => e = .returned (.tuple #[]) ∧ w = w' := by
  go_enter Try.func26, Try.ntmps26
  go_wp2
  go_end0
  exact ⟨rfl, rfl⟩

/-! ### Put -/

def PutPost (p d N : Nat) (q bs : List UInt8) (w : World) (e : Ending) (w' : World) : Prop :=
  e = .returned (.bool true) ∧ Buf w' p d N (q ++ bs) ∧ Mod [p, d] w w'

set_option maxRecDepth 4000 in
set_option maxHeartbeats 400000 in
theorem put_yes {w p d N q} (h : Buf w p d N q) (v : Value) (bs : List UInt8) (hv : Sl w v (vb bs)) (hp : ∀ b, v.ownBlock = some b → bs.length = 0 ∨ (b ≠ p ∧ b ≠ d)) (hr : q.length + bs.length ≤ N) :
    Calls Try.prog 29 #[.pointer (some ⟨p, 0, none⟩), v] w (PutPost p d N q bs w) := by
  obtain ⟨hle, hN, hN1, hpd⟩ := h.le
  have hroom : ¬ ((N : Int) - q.length < bs.length) := by omega
  rcases hv with ⟨hn, av, capv, rfl⟩ | ⟨b, off, cap, rfl, hc1, hc2, hc3, hcell⟩
  · obtain rfl : bs = [] := by cases bs; rfl; simp [vb] at hn
    have hroom0 : ¬ ((N : Int) - q.length < 0) := by omega
    go_enter Try.func29, Try.ntmps29
    go_wp2_with (go_at_call 28; refine (room_any h).mono ?_; rintro e w' ⟨rfl, rfl⟩)
    refine wp_loop_once ?_
    go_wp2
    go_ret
    exact ⟨rfl, by rw [List.append_nil]; exact h.mod (Mod.refl [] w).drew (by simp) (by simp), (Mod.refl _ _).drew⟩
  · have hb := hp b rfl
    rw [vb_length] at hc1
    have H := Lib.hid h
    have HC := Lib.hid hcell
    clear h hcell
    rw [vb_length]
    unfold maxLen at hc2
    go_enter Try.func29, Try.ntmps29
    go_wp2_with (go_at_call 28; refine (room_any H.out).mono ?_; rintro e w' ⟨rfl, rfl⟩)
    go_loopw [14] (fun i wr => ∃ k : Nat, k ≤ bs.length ∧ i = .int .i64 k ∧ (∃ a B, BufA wr p d N a B (q ++ bs.take k)) ∧ Mod [p, d] w wr) (fun i _ => bs.length - (intOf i).toNat)
    case atStart => exact ⟨0, Nat.zero_le _, rfl, by rw [List.take_zero, List.append_nil]; exact H.out.mod (Mod.refl [] w).drew (by simp) (by simp), (Mod.refl _ _).drew⟩
    case round =>
      obtain ⟨k, hk, rfl, ⟨a, B, hB⟩, hM⟩ := hrel
      by_cases hlt : k < bs.length
      · have hl : (q ++ bs.take k).length = q.length + k := by simp; omega
        have hqk : q.length + k < N := by omega
        have c0 : wr.cell? ⟨p, 0, none⟩ = some (.slice (some ⟨d, 0, none⟩) N N) := hB.hp.cell rfl
        have c1 : wr.cell? ⟨p, 1, none⟩ = some (.int .i64 a) := hB.hp.cell rfl
        have c2 : wr.cell? ⟨p, 2, none⟩ = some (.int .i64 (q.length + k : Nat)) := by rw [← hl]; exact hB.hp.cell rfl
        have f0 := hB.hp.free 2
        have hat := hB.at_lt
        have hm : (a + (q.length + k)) % N < N := Nat.mod_lt _ (by omega)
        have hm0 : (0 : Int) ≤ ((a : Int) + ((q.length : Int) + (k : Int))) % (N : Int) := Int.emod_nonneg _ (by omega)
        have hm1 : ((a : Int) + ((q.length : Int) + (k : Int))) % (N : Int) < (N : Int) := Int.emod_lt_of_pos _ (by omega)
        have fd := hB.hd.free ((a + (q.length + k)) % N)
        obtain ⟨old, cd⟩ : ∃ old, wr.cell? ⟨d, (a + (q.length + k)) % N, none⟩ = some old := ⟨_, hB.hd.cell (vb_at (List.getElem?_eq_getElem (by rw [hB.lenN]; exact hm)))⟩
        have hby : wr.cell? ⟨b, off + k, none⟩ = some (.int .u8 bs[k].toNat) := by
          rw [hM.cell hc3 (by simp; omega)]; exact HC.out k _ (vb_at (List.getElem?_eq_getElem hlt))
        have HB := Lib.hid hB
        have HM := Lib.hid hM
        have HL := Lib.hid hl
        clear hB hM hl hb
        go_wp2
        refine wp_region_lex (by kernel_rfl) (by kernel_rfl) ?_
        go_wp2
        refine ⟨by kernel_rfl, ?_⟩
        go_wp2
        go_roundw
        case rel =>
          have hB := HB.out
          have hl := HL.out
          refine ⟨k + 1, by omega, by go_num, ⟨a, B.set ((a + (q.length + k)) % N) bs[k], ?_⟩, ?_⟩
          · have e1 : q ++ bs.take (k + 1) = (q ++ bs.take k) ++ [bs[k]] := by rw [List.take_succ_eq_append_getElem hlt, List.append_assoc]
            rw [e1]
            refine ⟨?_, ?_, hB.ne, by simp [hB.lenN], hB.at_lt, by simp; omega, hB.bound, ?_⟩
            · refine Blk.drew ?_
              have := (hB.hp.other (a := ⟨d, (a + (q.length + k)) % N, none⟩) hB.ne (.int .u8 bs[k].toNat)).set 2 (.int .i64 ((q.length : Int) + k + 1))
              rw [List.length_append, hl]
              simpa [List.set] using this
            · refine Blk.drew (Blk.other ?_ hB.ne.symm _)
              rw [← vb_set]; exact hB.hd.set _ _
            · have := put_step (a := a) bs[k] hB.lenN (by rw [hl]; exact hqk) hB.q_at
              rw [hl] at this; exact this
          · exact ((HM.out.setCell (by simp) _).setCell (by simp) _).drew
        case measure => simp [intOf]; omega
      · obtain rfl : k = bs.length := by omega
        rw [List.take_length] at hB
        have HB := Lib.hid hB
        have HM := Lib.hid hM
        clear hB hM hb
        go_wp2
        go_ret
        exact ⟨rfl, ⟨a, B, HB.out⟩, HM.out⟩

theorem put_no {w p d N q} (h : Buf w p d N q) (v : Value) (xs : List Value) (hv : Sl w v xs) (hr : N < q.length + xs.length) :
    Calls Try.prog 29 #[.pointer (some ⟨p, 0, none⟩), v] w fun e w' => e = .returned (.bool false) ∧ w.drew = w' := by
  obtain ⟨hle, hN, hN1, hpd⟩ := h.le
  have hroom : ((N : Int) - q.length < xs.length) := by omega
  have hl := hv.len
  unfold maxLen at hl
  rcases hv with ⟨rfl, av, capv, rfl⟩ | ⟨b, off, cap, rfl, hc1, hc2, hc3, hcell⟩
  · simp at hr; omega
  · clear hcell
    go_enter Try.func29, Try.ntmps29
    go_wp2_with (go_at_call 28; refine (room_any h).mono ?_; rintro e w' ⟨rfl, rfl⟩)
    go_ret
    exact ⟨rfl, rfl⟩

/-! ### Take -/

def TakePost (p d N : Nat) (q : List UInt8) (m : Nat) (w : World) (e : Ending) (w' : World) : Prop :=
  ∃ v, e = .returned v ∧ w'.ownsRow w.heap.size 5 1 v m (vb (q.take m)) ∧ Buf w' p d N (q.drop m) ∧ Mod [p, d] w w'

set_option maxRecDepth 4000 in
set_option maxHeartbeats 800000 in
theorem take_any {w p d N q} (h : Buf w p d N q) (n : Int) (m : Nat) (hm : (m : Int) = min (max n 0) q.length) :
    Calls Try.prog 32 #[.pointer (some ⟨p, 0, none⟩), .int .i64 n] w (TakePost p d N q m w) := by
  obtain ⟨hle, hN, hN1, hpd⟩ := h.le
  obtain ⟨hp1, hd1⟩ := h.lt
  obtain ⟨i0, hi, hz0, hz1, hz2⟩ : ∃ i, Try.prog.info? 5 = some i ∧ i.zero = some (.int .u8 0) ∧ i.size = 1 ∧ i.bytes = 1 := info_parts (show (Try.prog.info? 5).map (fun i => (i.zero, i.size, i.bytes)) = some (some ((.int .u8 0)), 1, 1) by kernel_rfl)
  have hmx : ∀ w : World, (Builtin.max_ #[3, 3] 3 #[.int .i64 n, .int .i64 0]).run Try.prog w = .ok (.int .i64 (max n 0)) w := fun w => by
    show Result.ok (Value.int .i64 (if 0 > n then 0 else n)) w = _
    congr 2; omega
  have hmn : ∀ w : World, (Builtin.min_ #[3, 3] 3 #[.int .i64 (max n 0), .int .i64 q.length]).run Try.prog w = .ok (.int .i64 m) w := fun w => by
    show Result.ok (Value.int .i64 (if (q.length : Int) < max n 0 then (q.length : Int) else max n 0)) w = _
    congr 2; rw [hm]; omega
  have hmq : m ≤ q.length := by omega
  have Hm := Lib.hid hm
  have H := Lib.hid h
  clear hm h
  go_enter Try.func32, Try.ntmps32
  go_wp2_with (go_at_call 33; refine (len_any H.out).mono ?_; rintro e w' ⟨rfl, rfl⟩)
  clear hmx hmn
  go_loopw [5, 11] (fun v i wr => ∃ k : Nat, k ≤ m ∧ i = .int .i64 k ∧ wr.ownsRow w.heap.size 5 1 v k (vb (q.take k)) ∧ (∃ a B, BufA wr p d N a B (q.drop k)) ∧ Mod [p, d] w wr) (fun _ i _ => m - (intOf i).toNat)
  case atStart => exact ⟨0, Nat.zero_le _, rfl, by simpa using World.ownsRow_nil w w.heap.size 5 1, H.out, Mod.refl _ _⟩
  case round =>
    obtain ⟨k, hk, rfl, hown, ⟨a, B, hB⟩, hM⟩ := hrel
    by_cases hlt : k < m
    · obtain ⟨c, hc⟩ : ∃ c, q[k]? = some c := ⟨_, List.getElem?_eq_getElem (by omega)⟩
      have hdk : q.drop k = c :: q.drop (k + 1) := by
        rw [List.drop_eq_getElem_cons (by omega)]
        rw [List.getElem?_eq_getElem (by omega)] at hc; injection hc with hc; rw [hc]
      have htk : q.take (k + 1) = q.take k ++ [c] := by
        rw [List.take_succ_eq_append_getElem (by omega)]
        rw [List.getElem?_eq_getElem (by omega)] at hc; injection hc with hc; rw [hc]
      have hl : (q.drop k).length = q.length - k := by simp
      have c0 : wr.cell? ⟨p, 0, none⟩ = some (.slice (some ⟨d, 0, none⟩) N N) := hB.hp.cell rfl
      have c1 : wr.cell? ⟨p, 1, none⟩ = some (.int .i64 a) := hB.hp.cell rfl
      have c2 : wr.cell? ⟨p, 2, none⟩ = some (.int .i64 (q.length - k : Nat)) := by rw [← hl]; exact hB.hp.cell rfl
      have hat := hB.at_lt
      have hBa : B[a]? = some c := by
        have := hB.q_at 0 (by rw [hl]; omega)
        rw [hdk] at this
        simpa [Nat.mod_eq_of_lt hat] using this
      have cd : wr.cell? ⟨d, a, none⟩ = some (.int .u8 c.toNat) := hB.hd.cell (vb_at hBa)
      have hb0 := own_block hown
      have hp2 : p < wr.heap.size := hB.hp.lt
      have hd2 : d < wr.heap.size := hB.hd.lt
      have hs2 := hM.size
      have ha1 : (0 : Int) ≤ ((a : Int) + 1) % (N : Int) := Int.emod_nonneg _ (by omega)
      have HB := Lib.hid hB
      have HM := Lib.hid hM
      have HL := Lib.hid hl
      have HD := Lib.hid hdk
      have HT := Lib.hid htk
      have HC := Lib.hid hc
      clear hB hM hl hdk htk hc hBa
      go_wp2
      refine wp_region_lex (by kernel_rfl) (by kernel_rfl) ?_
      go_wp2_with (at_builtin; go_must (refine wpList_append_own _ rfl _ _ 22 rfl w.heap.size 5 i0 (.int .u8 0) 1 1 Try.underlying22 hi hz0 hz1 hz2 rfl (by decide) _ _ _ rfl (hown.alloc _) ⟨wr.heap.size, 0, none⟩ 1 1 [.int .u8 c.toNat] rfl rfl (cells_one (World.cell?_alloc_at _ _ _ _ rfl)) (fun x hx => by simp at hx; subst hx; rfl) (by unfold maxLen; omega) (by omega) (by simp; omega) ?_; intro v3 w3 hown3 hgrow hnil3))
      refine ⟨by kernel_rfl, ?_⟩
      have hg3 := grown_mod ((Mod.refl [] wr).alloc _).drew hgrow
      have hB3 := HB.out.mod hg3 (own_not hb0 hp1) (own_not hb0 hd1)
      have hl := HL.out
      have c0' : w3.cell? ⟨p, 0, none⟩ = some (.slice (some ⟨d, 0, none⟩) N N) := hB3.hp.cell rfl
      have c1' : w3.cell? ⟨p, 1, none⟩ = some (.int .i64 a) := hB3.hp.cell rfl
      have c2' : w3.cell? ⟨p, 2, none⟩ = some (.int .i64 (q.length - k : Nat)) := by rw [← hl]; exact hB3.hp.cell rfl
      have f1' := hB3.hp.free 1
      have f2' := hB3.hp.free 2
      have HB3 := Lib.hid hB3
      have HG := Lib.hid hgrow
      have HO3 := Lib.hid hown3
      clear hB3 hl hg3 c0 c1 c2 cd hgrow hnil3 hown3
      go_wp2
      refine wp_region_lex (by kernel_rfl) (by kernel_rfl) ?_
      go_wp2
      refine ⟨by kernel_rfl, ?_⟩
      go_wp2
      go_roundw
      case rel =>
        have hB3 := HB3.out
        refine ⟨k + 1, by omega, by go_num, ?_, ⟨(a + 1) % N, B, ?_⟩, ?_⟩
        · have hm := (((Mod.refl [p] w3).setCell (p := ⟨p, 1, none⟩) (by simp) (.int .i64 (((a : Int) + 1) % (N : Int)))).setCell (p := ⟨p, 2, none⟩) (by simp) (.int .i64 (((q.length - k : Nat) : Int) - 1)))
          have ho := HO3.out
          have := hm.own ho (fun b hb hx => by have := own_block ho b hb; simp at hx; omega)
          rw [HT.out, vb_append]
          exact this
        · have hl := HL.out
          refine ⟨?_, ?_, hB3.ne, hB3.lenN, Nat.mod_lt _ (by omega), by simp; omega, hB3.bound, ?_⟩
          · refine Blk.drew ?_
            have := (hB3.hp.set 1 (.int .i64 (((a : Int) + 1) % (N : Int)))).set 2 (.int .i64 (((q.length - k : Nat) : Int) - 1))
            have e : ((q.drop (k + 1)).length : Int) = ((q.length - k : Nat) : Int) - 1 := by simp; omega
            rw [e]
            simpa [List.set] using this
          · exact ((hB3.hd.other hB3.ne.symm _).other hB3.ne.symm _).drew
          · refine take_step (c := c) (by omega) ?_
            rw [← HD.out]; exact hB3.q_at
        · exact ((((HM.out.alloc _).drew.grown HG.out (fun b hb => .inr (hb0 b hb))).setCell (by simp) _).setCell (by simp) _).drew
      case measure => simp [intOf]; omega
    · obtain rfl : k = m := by omega
      have HB := Lib.hid hB
      have HM := Lib.hid hM
      clear hB hM
      go_wp2
      go_ret
      exact ⟨_, rfl, hown, ⟨a, B, HB.out⟩, HM.out⟩
end Go.Proofs.Ytnhnmpgjbopihaa.Out
