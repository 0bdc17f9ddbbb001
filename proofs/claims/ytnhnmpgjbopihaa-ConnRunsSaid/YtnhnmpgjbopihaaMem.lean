/- Blocks of memory, what a call may have turned of them, slices that read as lists: small words for walks, over any program. -/
import Derived.WalkKit
import Derived.Deep.Draws
namespace Go.YtnhnmpgjbopihaaMem
set_option linter.unusedVariables false
set_option linter.unusedSimpArgs false
open Go Go.RowKit

/-- A block of cells, known whole. -/
def Blk (w : World) (b : Nat) (T : TypeId) (cs : List Value) : Prop := w.heap[b]? = some (.cells cs.toArray T (0, 0))

theorem lt_of_some {w : World} {b : Nat} {o : Obj} (h : w.heap[b]? = some o) : b < w.heap.size := (Array.getElem?_eq_some_iff.1 h).1
theorem Blk.lt {w b T cs} (h : Blk w b T cs) : b < w.heap.size := lt_of_some h
theorem Blk.cell {w b T cs} (h : Blk w b T cs) {i : Nat} {v : Value} (hi : cs[i]? = some v) : w.cell? ⟨b, i, none⟩ = some v := by
  unfold Blk at h; simp [World.cell?, h, hi]
theorem Blk.free {w b T cs} (h : Blk w b T cs) (i : Nat) : w.frozen? ⟨b, i, none⟩ = false := by
  unfold Blk at h; simp [World.frozen?, h]
theorem Blk.drew {w b T cs} (h : Blk w b T cs) : Blk w.drew b T cs := h
theorem drewN_heap (w : World) (n : Nat) : (w.drewN n).heap = w.heap := rfl
theorem Blk.drewN {w b T cs} (h : Blk w b T cs) (n : Nat) : Blk (w.drewN n) b T cs := h
theorem Blk.alloc {w b T cs} (h : Blk w b T cs) (o : Obj) : Blk (w.alloc o) b T cs := by
  have := h.lt
  unfold Blk; rw [Below.heap_alloc _ _ _ this]; exact h
theorem Blk.new (w : World) (cs : List Value) (T : TypeId) : Blk (w.alloc (.cells cs.toArray T)) w.heap.size T cs := by
  show (w.heap.push _)[w.heap.size]? = _; simp
theorem Blk.other {w b T cs} (h : Blk w b T cs) {a : Addr} (hne : b ≠ a.block) (v : Value) : Blk (w.setCell a v) b T cs := by
  unfold Blk; rw [Below.heap_setCell _ _ _ _ hne]; exact h
theorem Blk.set {w b T cs} (h : Blk w b T cs) (i : Nat) (v : Value) : Blk (w.setCell ⟨b, i, none⟩ v) b T (cs.set i v) := by
  unfold Blk at *
  simp only [World.setCell, Array.getElem?_modify, h]
  simp

/-- What was there before stays as it was, but for the blocks of S. -/
structure Mod (S : List Nat) (w w' : World) : Prop where
  os : w'.os = w.os
  tape : w'.tape = w.tape
  output : w'.output = w.output
  size : w.heap.size ≤ w'.heap.size
  block : ∀ k, k < w.heap.size → k ∉ S → w'.heap[k]? = w.heap[k]?

theorem Mod.refl (S : List Nat) (w : World) : Mod S w w := ⟨rfl, rfl, rfl, Nat.le_refl _, fun _ _ _ => rfl⟩
theorem Mod.trans' {S S' : List Nat} {a b c : World} (h : Mod S a b) (k : Mod S' b c) (hs : ∀ x, x ∈ S' → x ∈ S ∨ a.heap.size ≤ x) : Mod S a c :=
  ⟨k.os.trans h.os, k.tape.trans h.tape, k.output.trans h.output, Nat.le_trans h.size k.size,
    fun i hi hn => (k.block i (Nat.lt_of_lt_of_le hi h.size) fun hm => (hs i hm).elim hn (by omega)).trans (h.block i hi hn)⟩
theorem Mod.trans {S : List Nat} {a b c : World} (h : Mod S a b) (k : Mod S b c) : Mod S a c := h.trans' k fun _ hx => .inl hx
theorem Mod.mono {S S' : List Nat} {w w' : World} (h : Mod S w w') (hs : ∀ x, x ∈ S → x ∈ S' ∨ w.heap.size ≤ x) : Mod S' w w' :=
  ⟨h.os, h.tape, h.output, h.size, fun i hi hn => h.block i hi fun hm => (hs i hm).elim hn (by omega)⟩
theorem Mod.drew {S : List Nat} {a w : World} (h : Mod S a w) : Mod S a w.drew := ⟨h.os, h.tape, h.output, h.size, h.block⟩
theorem Mod.drewN {S : List Nat} {a w : World} (h : Mod S a w) (n : Nat) : Mod S a (w.drewN n) := ⟨h.os, h.tape, h.output, h.size, h.block⟩
theorem Mod.alloc {S : List Nat} {a w : World} (h : Mod S a w) (o : Obj) : Mod S a (w.alloc o) :=
  h.trans ⟨rfl, rfl, rfl, by simp, fun k hk _ => Below.heap_alloc _ _ _ hk⟩
theorem Mod.setCell {S : List Nat} {a w : World} (h : Mod S a w) {p : Addr} (hp : p.block ∈ S ∨ a.heap.size ≤ p.block) (u : Value) : Mod S a (w.setCell p u) :=
  h.trans' (S' := [p.block]) ⟨rfl, rfl, rfl, by simp [World.setCell], fun k _ hn => Below.heap_setCell _ _ _ _ (by simpa using hn)⟩ (by simpa using hp)
theorem Mod.grown {S : List Nat} {a w w' : World} {row : Option Nat} (h : Mod S a w) (hg : w.grownBy w' row) (hr : ∀ k, row = some k → k ∈ S ∨ a.heap.size ≤ k) : Mod S a w' :=
  h.trans' (S' := row.toList) ⟨hg.os, hg.tape, hg.output, hg.size, fun k hk hn => hg.block k hk (fun e => hn (by simp [← e]))⟩ (by intro x hx; exact hr x (by simpa using hx))
theorem Mod.below {w w' : World} (h : Mod [] w w') : Below w.heap.size w w' := ⟨h.os, h.tape, h.output, h.size, fun k hk => h.block k hk (by simp)⟩
theorem Mod.ofBelow {w w' : World} (h : Below w.heap.size w w') : Mod [] w w' := ⟨h.os, h.tape, h.output, h.size, fun k hk _ => h.block k hk⟩
theorem Mod.heap {S : List Nat} {w w' : World} (h : Mod S w w') {b : Nat} {o : Obj} (hb : w.heap[b]? = some o) (hn : b ∉ S) : w'.heap[b]? = some o := by
  rw [h.block b (lt_of_some hb) hn]; exact hb
theorem Mod.blk {S : List Nat} {w w' : World} (h : Mod S w w') {b : Nat} {T : TypeId} {cs : List Value} (hb : Blk w b T cs) (hn : b ∉ S) : Blk w' b T cs := h.heap hb hn
theorem Mod.cell {S : List Nat} {w w' : World} (h : Mod S w w') {a : Addr} (hb : a.block < w.heap.size) (hn : a.block ∉ S) : w'.cell? a = w.cell? a := World.cell?_of_block (w := w) (h.block _ hb hn)
theorem Mod.frozen {S : List Nat} {w w' : World} (h : Mod S w w') {a : Addr} (hb : a.block < w.heap.size) (hn : a.block ∉ S) : w'.frozen? a = w.frozen? a := World.frozen?_of_block (w := w) (h.block _ hb hn)
theorem Mod.lt {S : List Nat} {w w' : World} (h : Mod S w w') {b : Nat} (hb : b < w.heap.size) : b < w'.heap.size := Nat.lt_of_lt_of_le hb h.size

theorem cell_lt {w : World} {a : Addr} {v : Value} (h : w.cell? a = some v) : a.block < w.heap.size := by
  unfold World.cell? at h
  split at h
  · rename_i he; exact lt_of_some he
  · cases h

/-- A slice of cells one an element, as a list. -/
def Sl (w : World) (v : Value) (xs : List Value) : Prop :=
  (xs = [] ∧ ∃ a cap, v = .slice a 0 cap) ∨
  ∃ b off cap, v = .slice (some ⟨b, off, none⟩) xs.length cap ∧ xs.length ≤ cap ∧ cap ≤ maxLen ∧ b < w.heap.size ∧ ∀ i u, xs[i]? = some u → w.cell? ⟨b, off + i, none⟩ = some u

theorem Sl.nil (w : World) (a : Option Addr) (cap : Nat) : Sl w (.slice a 0 cap) [] := .inl ⟨rfl, a, cap, rfl⟩
theorem Sl.mod {S : List Nat} {w w' : World} {v : Value} {xs : List Value} (h : Sl w v xs) (hm : Mod S w w') (hn : ∀ b, v.ownBlock = some b → xs.length = 0 ∨ b ∉ S) : Sl w' v xs := by
  rcases h with h | ⟨b, off, cap, rfl, h1, h2, h3, h4⟩
  · exact .inl h
  · refine .inr ⟨b, off, cap, rfl, h1, h2, hm.lt h3, fun i u hu => ?_⟩
    have hi := (List.getElem?_eq_some_iff.1 hu).1
    rw [hm.cell h3 ((hn b rfl).resolve_left (by omega))]; exact h4 i u hu
theorem Sl.len {w : World} {v : Value} {xs : List Value} (h : Sl w v xs) : xs.length ≤ maxLen := by
  rcases h with ⟨rfl, _⟩ | ⟨b, off, cap, rfl, h1, h2, h3, h4⟩
  · exact Nat.zero_le _
  · omega
theorem Sl.heap {w w' : World} {v : Value} {xs : List Value} (h : Sl w v xs) (hh : w'.heap = w.heap) : Sl w' v xs := by
  rcases h with h | ⟨b, off, cap, rfl, h1, h2, h3, h4⟩
  · exact .inl h
  · exact .inr ⟨b, off, cap, rfl, h1, h2, by rw [hh]; exact h3, fun i u hu => by have := h4 i u hu; unfold World.cell? at *; rw [hh]; exact this⟩
theorem add_eq (b off i : Nat) : (⟨b, off, none⟩ : Addr).add i = ⟨b, off + i, none⟩ := by
  unfold Addr.add; split
  · rename_i h; subst h; rfl
  · rfl
theorem Sl.own {w : World} {base : Nat} {e : TypeId} {v : Value} {n : Nat} {xs : List Value} (h : w.ownsRow base e 1 v n xs) : Sl w v xs := by
  have hl := h.1
  rcases h.2 with ⟨rfl, rfl⟩ | ⟨g, cap, cur, rfl, h1, h2, h3, h4, h5, h6⟩
  · refine .inl ⟨?_, _, _, rfl⟩
    exact List.eq_nil_of_length_eq_zero (by simpa using hl)
  · refine .inr ⟨g, 0, cap, by rw [hl, Nat.mul_one], by omega, h4, lt_of_some h2, fun i u hu => ?_⟩
    have := h.cells (g := g) rfl i u hu
    rw [add_eq] at this; exact this
theorem own_block {w : World} {base : Nat} {e : TypeId} {size : Nat} {v : Value} {n : Nat} {xs : List Value} (h : w.ownsRow base e size v n xs) : ∀ b, v.ownBlock = some b → base ≤ b := fun b hb => (h.lt b hb).1

theorem Mod.own {S : List Nat} {w w' : World} {base : Nat} {e : TypeId} {size : Nat} {v : Value} {n : Nat} {xs : List Value} (hm : Mod S w w') (h : w.ownsRow base e size v n xs) (hn : ∀ b, v.ownBlock = some b → b ∉ S) : w'.ownsRow base e size v n xs := by
  obtain ⟨h1, h2⟩ := h
  refine ⟨h1, ?_⟩
  rcases h2 with h2 | ⟨g, cap, cur, rfl, hg, hh, r⟩
  · exact .inl h2
  · exact .inr ⟨g, cap, cur, rfl, hg, hm.heap hh (hn g rfl), r⟩
theorem own_base {w : World} {base base' : Nat} {e : TypeId} {size : Nat} {v : Value} {n : Nat} {xs : List Value} (h : w.ownsRow base e size v n xs) (hb : base' ≤ base) : w.ownsRow base' e size v n xs := by
  obtain ⟨h1, h2⟩ := h
  refine ⟨h1, ?_⟩
  rcases h2 with h2 | ⟨g, cap, cur, rfl, hg, r⟩
  · exact .inl h2
  · exact .inr ⟨g, cap, cur, rfl, by omega, r⟩
theorem cells_one {w : World} {o : Nat} {v : Value} (h : w.cell? ⟨o, 0, none⟩ = some v) : ∀ j u, [v][j]? = some u → w.cell? ((⟨o, 0, none⟩ : Addr).add j) = some u := by
  intro j u hu
  cases j with
  | zero => simp at hu; subst hu; exact h
  | succ j => simp at hu

theorem own_not {v : Value} {base b : Nat} (h : ∀ b, v.ownBlock = some b → base ≤ b) (hb : b < base) : b ∉ v.ownBlock.toList := by
  intro hx
  have := h b (by simpa using hx)
  omega
theorem grown_mod {w w0 w' : World} {v : Value} (hm : Mod [] w w0) (hg : w0.grownBy w' v.ownBlock) : Mod v.ownBlock.toList w w' :=
  (hm.mono (by simp)).grown hg (fun k hk => .inl (by simp [hk]))

theorem own_one {w : World} {base : Nat} {e : TypeId} {v : Value} {n : Nat} {xs : List Value} (h : w.ownsRow base e 1 v n xs) (hn : n ≠ 0) :
    ∃ g cap, v = .slice (some ⟨g, 0, none⟩) n cap ∧ base ≤ g ∧ g < w.heap.size ∧ ∀ i u, xs[i]? = some u → w.cell? ⟨g, i, none⟩ = some u := by
  rcases h.2 with ⟨_, h0⟩ | ⟨g, cap, cur, rfl, h1, h2, h3, h4, h5, h6⟩
  · exact absurd h0 hn
  · refine ⟨g, cap, rfl, h1, lt_of_some h2, fun i u hu => ?_⟩
    have := h.cells (g := g) rfl i u hu
    rw [add_eq, Nat.zero_add] at this; exact this
theorem own_slice {w : World} {base : Nat} {e : TypeId} {size : Nat} {v : Value} {n : Nat} {xs : List Value} (h : w.ownsRow base e size v n xs) : ∃ a c, v = .slice a n c := by
  rcases h.2 with ⟨rfl, rfl⟩ | ⟨g, cap, cur, rfl, _⟩
  · exact ⟨_, _, rfl⟩
  · exact ⟨_, _, rfl⟩
theorem own_zero {w : World} {base : Nat} {e : TypeId} {v : Value} {xs : List Value} (h : w.ownsRow base e 1 v 0 xs) :
    v = .slice none 0 0 ∨ ∃ g cap, v = .slice (some ⟨g, 0, none⟩) 0 cap := by
  rcases h.2 with ⟨h1, _⟩ | ⟨g, cap, cur, rfl, _⟩
  · exact .inl h1
  · exact .inr ⟨g, cap, rfl⟩

/-- Bytes as cells' values. -/
def vb (bs : List UInt8) : List Value := bs.map fun b => .int .u8 b.toNat
@[simp] theorem vb_length (bs : List UInt8) : (vb bs).length = bs.length := by simp [vb]
theorem vb_get {bs : List UInt8} {i : Nat} {b : UInt8} (h : bs[i]? = some b) : (vb bs)[i]? = some (.int .u8 b.toNat) := by simp [vb, h]
theorem vb_append (a b : List UInt8) : vb (a ++ b) = vb a ++ vb b := by simp [vb]
@[simp] theorem vb_nil : vb [] = [] := rfl
theorem vb_inj {a b : List UInt8} (h : vb a = vb b) : a = b := by
  unfold vb at h
  exact List.map_inj_right (fun x y h => by
    injection h with _ h
    exact UInt8.toNat_inj.1 (by exact_mod_cast h)) |>.1 h

theorem run_loadCells {P : Program} {w : World} {b off : Nat} : ∀ (xs : List Value) (i : Nat) (acc : Array Value), (∀ j u, xs[j]? = some u → w.cell? ⟨b, off + (i + j), none⟩ = some u) →
    (loadCellsFrom ⟨b, off, none⟩ i xs.length acc).run P w = .ok (acc ++ xs.toArray) w
  | [], i, acc, _ => by simp [loadCellsFrom, Sem.run_pure]
  | x :: xs, i, acc, h => by
    have h0 := h 0 x rfl
    simp only [List.length_cons, loadCellsFrom]
    change Sem.run P (Sem.bind (load _) _) w = _
    rw [Sem.run_bind']
    have hl : (load ((⟨b, off, none⟩ : Addr).add i)).run P w = .ok x w := by
      rw [add_eq, show off + i = off + (i + 0) by omega]
      simp only [load, Sem.run, h0]
    rw [hl]
    simp only [Result.andThen_ok]
    rw [run_loadCells xs (i + 1) (acc.push x) (fun j u hu => by rw [show off + (i + 1 + j) = off + (i + (j + 1)) by omega]; exact h (j + 1) u (by simpa using hu))]
    simp

theorem pushAll (bs : List UInt8) : ∀ (s : ByteArray), ((bs.map fun b => ((b.toNat : Nat) : Int)).foldl (fun r n => r.push (UInt8.ofNat n.toNat)) s) = ⟨s.data ++ bs.toArray⟩ := by
  induction bs with
  | nil => intro s; simp
  | cons b bs ih =>
    intro s
    simp only [List.map_cons, List.foldl_cons]
    rw [ih]
    simp [ByteArray.push]

/-- The text that a row of bytes makes. -/
theorem run_str {P : Program} {w : World} {v : Value} {bs : List UInt8} (h : Sl w v (vb bs)) {src dst e : TypeId} (hs : P.underlying src = some (.slice e)) (he : P.underlying e = some (.int .u8)) (hd : P.underlying dst = some .string) :
    (convert src dst v).run P w = .ok (.string ⟨bs.toArray⟩) w := by
  rcases h with ⟨hn, a, cap, rfl⟩ | ⟨b, off, cap, rfl, h1, h2, h3, h4⟩
  · obtain rfl : bs = [] := by cases bs; rfl; simp [vb] at hn
    rw [run_convert_bytes_string w src dst e a 0 cap hs he hd]
    cases a with
    | none => rfl
    | some a => rw [run_bytesToString w a 0 cap [] rfl]; rfl
  · rw [run_convert_bytes_string w src dst e _ _ cap hs he hd]
    rw [run_bytesToString w _ _ cap (bs.map fun b => ((b.toNat : Nat) : Int))]
    · rw [pushAll]; simp
    · unfold loadCells
      rw [run_loadCells (vb bs) 0 #[] (fun j u hu => by rw [Nat.zero_add]; exact h4 j u hu)]
      simp [vb]

/-- A slice that came in, in one form: its address is known as soon as it has an element. -/
def At (w : World) (a : Option Addr) (xs : List Value) (k : Nat) : Prop := ∃ b off, a = some ⟨b, off, none⟩ ∧ b < w.heap.size ∧ ∀ i u, xs[i]? = some u → w.cell? ⟨b, off + i, none⟩ = some u
theorem Sl.open {w : World} {v : Value} {xs : List Value} (h : Sl w v xs) : ∃ a c, v = .slice a xs.length c ∧ xs.length ≤ maxLen ∧ ∀ k, k < xs.length → At w a xs k := by
  have hl := h.len
  rcases h with ⟨rfl, a, cap, rfl⟩ | ⟨b, off, cap, rfl, h1, h2, h3, h4⟩
  · exact ⟨a, cap, rfl, hl, fun k hk => by simp at hk⟩
  · exact ⟨_, cap, rfl, hl, fun k hk => ⟨b, off, rfl, h3, h4⟩⟩
/-- A part of a row of bytes. -/
theorem Sl.part {w : World} {b off c i m : Nat} {bs : List UInt8} (hb : b < w.heap.size) (hcell : ∀ i u, (vb bs)[i]? = some u → w.cell? ⟨b, off + i, none⟩ = some u) (h1 : i + m ≤ bs.length) (h2 : m ≤ c) (h3 : c ≤ maxLen) :
    Sl w (.slice (some ⟨b, off + i, none⟩) m c) (vb ((bs.drop i).take m)) := by
  have hlen : (vb ((bs.drop i).take m)).length = m := by simp; omega
  refine .inr ⟨b, off + i, c, by rw [hlen], by rw [hlen]; exact h2, h3, hb, fun j u hu => ?_⟩
  have hj : j < m := by have := (List.getElem?_eq_some_iff.1 hu).1; rw [hlen] at this; exact this
  rw [show off + i + j = off + (i + j) by omega]
  refine hcell (i + j) u ?_
  unfold vb at hu ⊢
  rw [List.getElem?_map, List.getElem?_take_of_lt hj, List.getElem?_drop] at hu
  rw [List.getElem?_map]; exact hu
theorem run_len {P : Program} {w0 : World} {v : Value} {xs : List Value} (h : Sl w0 v xs) {t e ty : TypeId} (ht : P.underlying t = some (.slice e)) (w : World) : (Builtin.len_ #[t] ty #[v]).run P w = .ok (.int .i64 xs.length) w := by
  have hu : ∀ w, (underlying t).run P w = .ok (.slice e) w := fun w => by
    unfold underlying
    change Sem.run P (Sem.bind program _) w = _
    rw [Sem.run_bind']
    change (Result.ok P w).andThen _ = _
    simp only [Result.andThen_ok, ht]
    rfl
  have hr : ∀ a n c, (Builtin.len_ #[t] ty #[.slice a n c]).run P w = .ok (.int .i64 n) w := fun a n c => by
    unfold Builtin.len_
    change Sem.run P (Sem.bind (underlying t) _) w = _
    rw [Sem.run_bind', hu]
    rfl
  rcases h with ⟨rfl, a, cap, rfl⟩ | ⟨b, off, cap, rfl, _⟩
  · exact hr _ _ _
  · exact hr _ _ _
theorem toList_string (l : List UInt8) : (ByteArray.mk l.toArray).toList = l := by
  rw [Go.ByteArray.toList_eq]
theorem own_str {P : Program} {w : World} {base : Nat} {e : TypeId} {v : Value} {n : Nat} {bs : List UInt8} (h : w.ownsRow base e 1 v n (vb bs)) {src dst e' : TypeId} (hs : P.underlying src = some (.slice e')) (he : P.underlying e' = some (.int .u8)) (hd : P.underlying dst = some .string) :
    (convert src dst v).run P w = .ok (.string ⟨bs.toArray⟩) w := run_str (Sl.own h) hs he hd

/-- Some of the lowest bits of any number. -/
theorem and_mask (x : Int) (i : Nat) (hi : i < 63) : bits .and .i64 x (2 ^ i - 1) = x % 2 ^ i := by
  have hpos : 0 < 2 ^ i := Nat.two_pow_pos i
  have hle : 2 ^ i ≤ 2 ^ 62 := Nat.pow_le_pow_right (by decide) (by omega)
  have hc : ((2 : Int) ^ i - 1) = ((2 ^ i - 1 : Nat) : Int) := by rw [Int.natCast_sub hpos]; simp
  rw [hc]
  simp only [bits, BitVec.ofInt_natCast, BitVec.toNat_and, BitVec.toNat_ofNat, BitVec.toNat_ofInt]
  simp only [show IntKind.i64.bits = 64 from rfl]
  rw [Nat.mod_eq_of_lt (show 2 ^ i - 1 < 2 ^ 64 by omega), Nat.and_two_pow_sub_one_eq_mod]
  have hr : ((x % ((2 ^ 64 : Nat) : Int)).toNat % 2 ^ i : Nat) = (x % 2 ^ i : Int) := by
    rw [Int.natCast_emod, Int.toNat_of_nonneg (Int.emod_nonneg _ (by decide))]
    rw [Int.emod_emod_of_dvd]
    · simp
    · exact_mod_cast Nat.pow_dvd_pow 2 (show i ≤ 64 by omega)
  have hlt : ((x % ((2 ^ 64 : Nat) : Int)).toNat % 2 ^ i) < 2 ^ i := Nat.mod_lt _ hpos
  rw [← hr, IntKind.wrap_i64]
  omega

#print axioms run_str
end Go.YtnhnmpgjbopihaaMem
