/- frame: the bytes of lists of counts. -/
import Derived.Test.YtpjmoomjbcplgaaFrameTot
namespace Go.Proofs.Ytpjmoomjbcplgaa.Frame
open Go Go.RowKit Go.YtpjmoomjbcplgaaMem Go.YtpjmoomjbcplgaaLex
set_option linter.unusedVariables false
set_option linter.unusedSimpArgs false

structure Cnt where
  key : List UInt8
  n : Int
  e : Int
def Cnt.cells (q : Cnt) : List Value := [.string ⟨q.key.toArray⟩, .int .i64 q.n, .int .i64 q.e]
def Cnt.bytes (q : Cnt) : List UInt8 := [b8 q.key.length] ++ q.key ++ be 8 (u64 q.n) ++ be 8 (u64 q.e)
def listed (l : List Cnt) : List UInt8 := l.flatMap Cnt.bytes
theorem listed_snoc (l : List Cnt) (q : Cnt) : listed (l ++ [q]) = listed l ++ q.bytes := by simp [listed]
theorem listed_le : ∀ (l : List Cnt), (∀ q, q ∈ l → q.key.length ≤ 64) → (listed l).length ≤ 81 * l.length
  | [], _ => by simp [listed]
  | q :: l, h => by
    have h1 := h q (by simp)
    have h2 := listed_le l (fun q hq => h q (by simp [hq]))
    show (q.bytes ++ listed l).length ≤ _
    rw [List.length_append, List.length_cons]
    have : q.bytes.length = 17 + q.key.length := by simp [Cnt.bytes, be_length]; omega
    omega
/-- Counts that came in. -/
def InC (w : World) (a : Option Addr) (l : List Cnt) : Prop :=
  ∀ i q, l[i]? = some q → ∃ b off, a = some ⟨b, off, none⟩ ∧ b < w.heap.size ∧ ∀ j u, q.cells[j]? = some u → w.cell? ⟨b, off + i * 3 + j, none⟩ = some u
theorem InC.mod {w w' : World} {a : Option Addr} {l : List Cnt} (h : InC w a l) (hm : Mod [] w w') : InC w' a l := fun i q hq => by
  obtain ⟨b, off, h1, h2, h3⟩ := h i q hq
  exact ⟨b, off, h1, hm.lt h2, fun j u hu => (hm.cell h2 (by simp)).trans (h3 j u hu)⟩

theorem own_ne_blk {w : World} {B b : Nat} {v : Value} {bs : List UInt8} {T : TypeId} {cs : List Value} (h : OwnB w B v bs) (hb : Blk w b T cs) (hT : T ≠ 5) : b ∉ v.ownBlock.toList := fun hx => by
  have hx' : v.ownBlock = some b := by simpa using hx
  rcases h.2 with ⟨rfl, _⟩ | ⟨g, cap, cur, rfl, _, h2, _⟩
  · simp [Value.ownBlock] at hx'
  · have e : g = b := by simpa [Value.ownBlock] using hx'
    subst e
    unfold Blk at hb
    rw [h2] at hb
    simp at hb
    exact hT hb.2.symm

set_option maxRecDepth 4000 in
set_option maxHeartbeats 3200000 in
theorem listed_any (w : World) (rule : Int) (a : Option Addr) (cp : Nat) (l : List Cnt) (hI : InC w a l) (hl : l.length ≤ 255) (hk : ∀ q, q ∈ l → q.key.length ≤ 64) :
    Calls Try.prog 16 #[.int .i64 rule, .slice a l.length cp] w (Fresh w (frame 0xA8 ([132, b8 rule, b8 l.length] ++ listed l))) := by
  have hbl : ((b8 (l.length : Int)).toNat : Int) = l.length := by have := b8_val (l.length : Int); omega
  have hlit : OwnB (w.alloc (.cells #[.int .u8 132, .int .u8 (rule % 256), .int .u8 (l.length : Int)] 5)) w.heap.size (.slice (some ⟨w.heap.size, 0, none⟩) 3 3) [132, b8 rule, b8 l.length] :=
    own_new [132, b8 rule, b8 l.length] _ (by simp [vb, hbl, ← b8_val rule]) (by simp) rfl (by simp)
  clear hbl
  have hll := listed_le l hk
  have HLL := Lib.hid hll
  have HL := Lib.hid hlit
  have HI := Lib.hid hI
  have HK := Lib.hid hk
  clear hlit hI hk hll
  go_enter Try.func16, Try.ntmps16
  go_wp2_with fail
  go_loopw [5, 16] (fun x i wr => ∃ (j : Nat), j ≤ l.length ∧ i = .int .i64 j ∧ OwnB wr w.heap.size x ([132, b8 rule, b8 l.length] ++ listed (l.take j)) ∧ Mod [] w wr) (fun _ i _ => l.length - (intOf i).toNat)
  case atStart => exact ⟨0, Nat.zero_le _, rfl, HL.out, (Mod.refl [] w).alloc _⟩
  case round =>
    obtain ⟨j, hj, rfl, hO, hM⟩ := hrel
    have HO := Lib.hid hO
    have MR := Lib.hid hM
    have hs0 := hM.size
    clear hO hM
    by_cases hlt : j < l.length
    · obtain ⟨q, hq⟩ : ∃ q, l[j]? = some q := ⟨_, List.getElem?_eq_getElem hlt⟩
      obtain ⟨b, off, rfl, hb, hx⟩ := HI.out j q hq
      have hqk := HK.out q (List.mem_of_getElem? hq)
      have hx' := fun i u h => (MR.out.cell hb (by simp)).trans (hx i u h)
      have p0 := hx' 0 _ rfl
      have p1 := hx' 1 _ rfl
      have p2 := hx' 2 _ rfl
      have htk : l.take (j + 1) = l.take j ++ [q] := by rw [List.take_add_one, hq]; rfl
      have hlen := listed_le (l.take j) (fun q hq => HK.out q (List.mem_of_mem_take hq))
      rw [List.length_take, Nat.min_eq_left hj] at hlen
      have HTK := Lib.hid htk
      have HLN := Lib.hid hlen
      clear hx hx' hq htk hlen
      obtain ⟨key, n, e⟩ := q
      simp only [Nat.add_zero] at p0 p1 p2 hqk
      have hn := u64_wrap n
      have he := u64_wrap e
      have hnl := u64_lt n
      have hel := u64_lt e
      have hbx := Blk.new wr [.string ⟨key.toArray⟩, .int .i64 n, .int .i64 e] 34
      have HB := Lib.hid hbx
      have hb0 := own_block HO.out
      have hown := HO.out.lt
      have hnot : wr.heap.size ∉ u5.ownBlock.toList := fun hx => by have := (hown _ (by simpa using hx)).2; omega
      have isc : IsC (wr.alloc (.cells #[.string ⟨key.toArray⟩, .int .i64 n, .int .i64 e] 34)).drew wr.heap.size := isC_of_cell (hbx.cell (i := 0) rfl)
      have HOWN := Lib.hid hown
      have HNOT := Lib.hid hnot
      clear hbx hown hnot
      go_wp2_with fail
      refine wp_region_held [7] [8] u5.ownBlock.toList (by kernel_rfl) (by kernel_rfl) ?_
      simp only [wpCut, List.take_succ_cons, List.take_zero, List.drop_succ_cons, List.drop_zero]
      go_wp2_with (at_builtin; go_must (refine app_one (b8 key.length) _ _ (((HO.out.alloc (.cells #[.string ⟨key.toArray⟩, .int .i64 n, .int .i64 e] 34)).drew).alloc (.cells #[.int .u8 (key.length : Int)] 5)) rfl _ _ rfl rfl rfl (World.cell?_alloc_at _ _ _ _ (by simp)) (by have := b8_val (key.length : Int); omega) (by simp; omega) (by have := HLN.out; simp; omega) ?_; intro v3 w3 ho3 hM3 hat3))
      have hbx3 := hM3.blk ((HB.out.drew).alloc (.cells #[.int .u8 (key.length : Int)] 5)) HNOT.out
      have c0 := hbx3.cell (i := 0) rfl
      have hs3 : wr.heap.size + 2 ≤ w3.heap.size := by have := hM3.size; change (((wr.alloc _).drew).alloc _).heap.size ≤ _ at this; simpa using this
      have M3 := Lib.hid (((MR.out.alloc (.cells #[.string ⟨key.toArray⟩, .int .i64 n, .int .i64 e] 34)).drew.alloc (.cells #[.int .u8 (key.length : Int)] 5)).trans' hM3 (fun x hx => by have := hb0 x (by simpa using hx); omega))
      have O3 := Lib.hid ho3
      have B3 := Lib.hid hbx3
      have hat := hat3
      have HAT := Lib.hid hat
      refine ⟨((Mod.refl _ _).alloc _).trans hM3, ?_⟩
      clear hM3 ho3 hat3 hat hbx3
      go_wp2_with (at_builtin; go_must (refine app_str key O3.out rfl _ _ rfl rfl rfl (by omega) (by have := HLN.out; simp; omega) ?_; intro v4 w4 ho4 hM4))
      have hb3 := own_block O3.out
      have hn3 : wr.heap.size ∉ v3.ownBlock.toList := fun hx => by
        rcases HAT.out _ (by simpa using hx) with h | h
        · exact HNOT.out (by simpa using h)
        · have h' : wr.heap.size = wr.heap.size + 2 := h.trans (by show ((wr.alloc _).alloc _).heap.size = _; simp)
          omega
      have hbx4 := hM4.blk B3.out hn3
      have hs4 : w3.heap.size ≤ w4.heap.size := hM4.size
      have M4 := Lib.hid (M3.out.trans' hM4 (fun x hx => by have := hb3 x (by simpa using hx); omega))
      have O4 := Lib.hid ho4
      have B4 := Lib.hid hbx4
      refine ⟨by kernel_rfl, ⟨⟨HNOT.out, isc⟩, trivial⟩, ?_⟩
      clear hM4 ho4 hbx4 c0
      have c1 := B4.out.cell (i := 1) rfl
      have c2 := B4.out.cell (i := 2) rfl
      generalize hru : u64 n = ru at *
      generalize htu : u64 e = tu at *
      have HRU := Lib.hid hru
      have HTU := Lib.hid htu
      have hb4 := own_block O4.out
      have hn4 : wr.heap.size ∉ v4.ownBlock.toList := own_ne_blk O4.out B4.out (by decide)
      have HN := Lib.hid hn4
      clear hru htu hn4
      go_wp2_with fail
      refine wp_region_held [5] [6] v4.ownBlock.toList (by kernel_rfl) (by kernel_rfl) ?_
      simp only [wpCut, List.take_succ_cons, List.take_zero, List.drop_succ_cons, List.drop_zero]
      go_wp2_with fail
      refine (put_any (B := w.heap.size) O4.out.drew (by show w.heap.size ≤ w4.heap.size; omega) 8 (by omega) ru (by omega) (by have := HLN.out; simp; omega)).mono ?_
      rintro e5 w5 ⟨v5, rfl, ho5, hM5, hat5⟩
      have hbx5 := hM5.blk B4.out.drew HN.out
      have c2' := hbx5.cell (i := 2) rfl
      have hs5 : w4.heap.size ≤ w5.heap.size := hM5.size
      have M5 := Lib.hid (M4.out.drew.trans' hM5 (fun x hx => by have := hb4 x (by simpa using hx); omega))
      have O5 := Lib.hid ho5
      have N5 := Lib.hid hM5
      have isc4 : IsC w4.drew wr.heap.size := isC_of_cell (w := w4.drew) c1
      clear ho5 hM5 hat5 hbx5
      go_wp2_with fail
      refine ⟨N5.out, ?_⟩
      go_wp2_with fail
      refine (put_any (B := w.heap.size) O5.out (by omega) 8 (by omega) tu (by omega) (by have := HLN.out; simp [be_length]; omega)).mono ?_
      rintro e6 w6 ⟨v6, rfl, ho6, hM6, hat6⟩
      have hb5 := own_block O5.out
      have M6 := Lib.hid (M5.out.trans' hM6 (fun x hx => by have := hb5 x (by simpa using hx); omega))
      have O6 := Lib.hid ho6
      clear ho6 hM6 hat6
      go_wp2_with fail
      refine ⟨by kernel_rfl, ⟨⟨HN.out, isc4⟩, trivial⟩, ?_⟩
      go_wp2_with fail
      go_roundw
      case rel => exact ⟨j + 1, by omega, by go_num, by rw [HTK.out, listed_snoc]; simp only [Cnt.bytes, HRU.out, HTU.out]; have := O6.out; simpa [List.append_assoc] using this, M6.out⟩
      case measure => simp [intOf]; omega
    · obtain rfl : j = l.length := by omega
      have hO := HO.out
      rw [List.take_length] at hO
      have HO' := Lib.hid hO
      clear hO
      go_wp2_with fail
      refine (whole_any 0xA8 (Sl.own HO'.out) (by simp) (by have := HLL.out; simp; omega)).mono ?_
      rintro e4 w4 ⟨v4, rfl, ho4, hM4⟩
      have O4 := Lib.hid ho4
      have M4 := Lib.hid (MR.out.trans hM4)
      clear ho4 hM4
      go_wp2_with fail
      go_ret
      exact ⟨_, rfl, own_base O4.out hs0, M4.out⟩
end Go.Proofs.Ytpjmoomjbcplgaa.Frame
