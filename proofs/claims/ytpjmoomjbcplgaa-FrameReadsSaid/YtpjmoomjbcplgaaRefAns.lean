/- The document's answers: whole, Faulted, Answered, Totalled, Listed. -/
import Derived.Test.YtpjmoomjbcplgaaFrameRef
import Derived.Test.YtpjmoomjbcplgaaFrameList
namespace Go.Proofs.Ytpjmoomjbcplgaa.Frame
open Go Go.RowKit Go.YtpjmoomjbcplgaaMem Go.YtpjmoomjbcplgaaLex
set_option linter.unusedVariables false
set_option linter.unusedSimpArgs false

theorem refWhole {w : World} {v : Value} {bs : List UInt8} (h : Sl w v (vb bs)) (h0 : 1 ≤ bs.length) (hl : bs.length ≤ 1000000) :
    Calls Try.prog 36 #[v] w (Fresh w (frame 0xA8 bs)) := by
  obtain ⟨i0, hi, hz0, hz1, hz2⟩ := u8_info
  rcases h with ⟨hn, av, capv, rfl⟩ | ⟨b, off, cap, rfl, hc1, hc2, hc3, hcell⟩
  · have : (vb bs).length = 0 := by rw [hn]; rfl
    rw [vb_length] at this; omega
  · rw [vb_length] at *
    have HC := Lib.hid hcell
    clear hcell
    go_enter Try.func36, Try.ntmps36
    have hlit := World.ownsRow_lit (base := w.heap.size) (e := 5) (size := 1) w #[.int .u8 168, .int .u8 1, .int .u8 (bs.length / 256 % 256), .int .u8 (bs.length % 256)] 4 (Nat.le_refl _) (by decide) rfl
    have HLt := Lib.hid hlit
    clear hlit
    go_wp2_with (at_builtin; go_must (refine wpList_append_own_at _ rfl _ _ 28 rfl w.heap.size 5 i0 (.int .u8 0) 1 1 Try.underlying28 hi hz0 hz1 hz2 rfl (by decide) _ 4 _ rfl HLt.out ⟨b, off, none⟩ bs.length cap (vb bs) rfl (by simp) (fun j u hu => by rw [add_eq]; exact (((Mod.refl [] w).alloc _).cell hc3 (by simp)).trans (HC.out j u hu)) (fun x hx => by simp only [vb, List.mem_map] at hx; obtain ⟨y, _, rfl⟩ := hx; rfl) (by unfold maxLen; omega) (by omega) (by simp) ?_; intro v3 w3 hown3 hgrow hnil3 hat3))
    have HG := Lib.hid hgrow
    have HO3 := Lib.hid hown3
    clear hgrow hown3 hnil3 hat3
    go_wp2
    go_ret
    refine ⟨_, rfl, ?_, ((Mod.refl _ _).alloc _).grown HG.out (fun b hb => .inr (by have e : some w.heap.size = some b := hb; injection e; omega))⟩
    have := HO3.out
    unfold OwnB frame
    rw [vb_append, List.length_append, show ([168, 1, UInt8.ofNat (bs.length / 256), UInt8.ofNat bs.length] : List UInt8).length = 4 from rfl]
    have e : ([.int .u8 168, .int .u8 1, .int .u8 (bs.length / 256 % 256), .int .u8 (bs.length % 256)] : List Value) = vb [168, 1, UInt8.ofNat (bs.length / 256), UInt8.ofNat bs.length] := by
      simp only [vb, List.map_cons, List.map_nil]
      rw [← low_byte, ← low_byte]; simp
    rw [← e]
    exact this

theorem refFaulted (w : World) (e : Int) : Calls Try.prog 29 #[.int .i64 e] w (Fresh w (frame 0xA8 [255, b8 e])) := by
  have hlit : OwnB (w.alloc (.cells #[.int .u8 168, .int .u8 1, .int .u8 0, .int .u8 2, .int .u8 255, .int .u8 (e % 256)] 5)) w.heap.size (.slice (some ⟨w.heap.size, 0, none⟩) 6 6) (frame 0xA8 [255, b8 e]) :=
    own_new (frame 0xA8 [255, b8 e]) _ (by simp [frame, vb, ← b8_val]) (by simp) rfl (by simp [frame])
  have HL := Lib.hid hlit
  clear hlit
  go_enter Try.func29, Try.ntmps29
  go_wp2_with fail
  go_ret
  exact ⟨_, rfl, HL.out, (Mod.refl [] w).alloc _⟩

set_option maxRecDepth 4000 in
set_option maxHeartbeats 1600000 in
theorem refAnswered (w : World) (op v r t : Int) (hop : 0 ≤ op ∧ op ≤ 1000) :
    Calls Try.prog 27 #[.int .i64 op, .agg #[.int .i64 v, .int .i64 r, .int .i64 t]] w (Fresh w (frame 0xA8 ([b8 (128 + op), b8 v] ++ be 8 (u64 r) ++ be 8 (u64 t)))) := by
  have hlit : OwnB ((w.alloc (.cells #[.int .i64 v, .int .i64 r, .int .i64 t] 43)).alloc (.cells #[.int .u8 ((128 + op) % 256), .int .u8 (v % 256)] 5)) (w.heap.size + 1) (.slice (some ⟨w.heap.size + 1, 0, none⟩) 2 2) [b8 (128 + op), b8 v] :=
    own_new [b8 (128 + op), b8 v] _ (by rw [lit2]) (by simp) (by simp) (by simp)
  have HL := Lib.hid hlit
  have hbox : Blk (w.alloc (.cells #[.int .i64 v, .int .i64 r, .int .i64 t] 43)) w.heap.size 43 [.int .i64 v, .int .i64 r, .int .i64 t] := Blk.new w _ _
  have HB := Lib.hid hbox
  have hr := u64_wrap r
  have ht := u64_wrap t
  have hrl := u64_lt r
  have htl := u64_lt t
  generalize hru : u64 r = ru at *
  generalize htu : u64 t = tu at *
  have isc : IsC (w.alloc (.cells #[.int .i64 v, .int .i64 r, .int .i64 t] 43)).drew w.heap.size := isC_of_cell (hbox.cell (i := 0) rfl)
  clear hlit hbox
  go_enter Try.func27, Try.ntmps27
  go_wp2_with fail
  refine wp_region_held [11] [8, 12] [] (by kernel_rfl) (by kernel_rfl) ?_
  simp only [wpCut, List.take_succ_cons, List.take_zero, List.drop_succ_cons, List.drop_zero]
  go_wp2_with fail
  refine (refPut (B := w.heap.size + 1) HL.out.drew (by simp) 8 (by omega) (by omega) ru (by omega) (by simp)).mono ?_
  rintro e2 w2 ⟨v2, rfl, ho2, hM2, hat2⟩
  have hbx2 := hM2.blk ((HB.out.alloc (.cells #[.int .u8 ((128 + op) % 256), .int .u8 (v % 256)] 5)).drew) (by simp [Value.ownBlock])
  have c2 := hbx2.cell (i := 2) rfl
  have hs2 : w.heap.size + 2 ≤ w2.heap.size := by have := hM2.size; change ((w.alloc _).alloc _).heap.size ≤ _ at this; simpa using this
  have O2 := Lib.hid ho2
  have M1' := Lib.hid (((Mod.refl [] (w.alloc (.cells #[.int .i64 v, .int .i64 r, .int .i64 t] 43)).drew).alloc (.cells #[.int .u8 ((128 + op) % 256), .int .u8 (v % 256)] 5)).trans' hM2 (by simp [Value.ownBlock]))
  have M2 := Lib.hid ((((Mod.refl [] w).alloc (.cells #[.int .i64 v, .int .i64 r, .int .i64 t] 43)).alloc (.cells #[.int .u8 ((128 + op) % 256), .int .u8 (v % 256)] 5)).drew.trans' hM2 (by simp [Value.ownBlock]))
  clear ho2 hM2 hat2 hbx2
  go_wp2_with fail
  refine ⟨M1'.out, ?_⟩
  go_wp2_with fail
  refine (refPut O2.out (by omega) 8 (by omega) (by omega) tu (by omega) (by simp [be_length])).mono ?_
  rintro e3 w3 ⟨v3, rfl, ho3, hM3, hat3⟩
  have hb2 := own_block O2.out
  have O3 := Lib.hid ho3
  have hs3 := hM3.size
  have M3 := Lib.hid (M2.out.trans' hM3 (fun x hx => by have := hb2 x (by simpa using hx); omega))
  clear ho3 hM3 hat3
  go_wp2_with fail
  refine (refWhole (Sl.own O3.out) (by simp) (by simp [be_length])).mono ?_
  rintro e4 w4 ⟨v4, rfl, ho4, hM4⟩
  have O4 := Lib.hid ho4
  have M4 := Lib.hid (M3.out.trans hM4)
  clear ho4 hM4
  have hs2' := M3.out.size
  go_wp2_with fail
  refine ⟨by kernel_rfl, ⟨⟨by simp, isc⟩, ⟨by simp, isc⟩, trivial⟩, ?_⟩
  go_wp2_with fail
  go_ret
  refine ⟨_, rfl, own_base O4.out hs2', ?_⟩
  exact M4.out

set_option maxRecDepth 4000 in
set_option maxHeartbeats 1600000 in
theorem refTotalled (w : World) (rule a b c d e : Int) :
    Calls Try.prog 28 #[.int .i64 rule, .agg #[.int .i64 a, .int .i64 b, .int .i64 c, .int .i64 d, .int .i64 e]] w (Fresh w (frame 0xA8 ([131, b8 rule] ++ nums [a, b, c, d, e]))) := by
  have hlit : OwnB ((w.alloc (.cells #[.int .i64 a, .int .i64 b, .int .i64 c, .int .i64 d, .int .i64 e] 40)).alloc (.cells #[.int .u8 131, .int .u8 (rule % 256)] 5)) (w.heap.size + 1) (.slice (some ⟨w.heap.size + 1, 0, none⟩) 2 2) [131, b8 rule] :=
    own_new [131, b8 rule] _ (by simp [vb, ← b8_val]) (by simp) (by simp) (by simp)
  have HL := Lib.hid hlit
  have hbox := (Blk.new w [.int .i64 a, .int .i64 b, .int .i64 c, .int .i64 d, .int .i64 e] 40)
  have B0 := Lib.hid (hbox.alloc (.cells #[.int .u8 131, .int .u8 (rule % 256)] 5))
  have M0 := Lib.hid (((Mod.refl [] w).alloc (.cells #[.int .i64 a, .int .i64 b, .int .i64 c, .int .i64 d, .int .i64 e] 40)).alloc (.cells #[.int .u8 131, .int .u8 (rule % 256)] 5))
  have ea := u64_wrap a
  have eb := u64_wrap b
  have ec := u64_wrap c
  have ed := u64_wrap d
  have ee := u64_wrap e
  have la := u64_lt a
  have lb := u64_lt b
  have lc := u64_lt c
  have ld := u64_lt d
  have le := u64_lt e
  have hn : nums [a, b, c, d, e] = be 8 (u64 a) ++ be 8 (u64 b) ++ be 8 (u64 c) ++ be 8 (u64 d) ++ be 8 (u64 e) := by simp [nums]
  rw [hn]
  generalize u64 a = ua at *
  generalize u64 b = ub at *
  generalize u64 c = uc at *
  generalize u64 d = ud at *
  generalize u64 e = ue at *
  clear hlit hbox hn
  go_enter Try.func28, Try.ntmps28
  go_wp2_with fail
  refine (refPut (B := w.heap.size + 1) HL.out (by simp) 8 (by omega) (by omega) ua (by omega) (by simp)).mono ?_
  rintro e1 w1 ⟨v1, rfl, ho1, hM1, -⟩
  have O1 := Lib.hid ho1
  have B1 := Lib.hid (hM1.blk B0.out (by simp [Value.ownBlock]))
  have M1 := Lib.hid (M0.out.trans' hM1 (by simp [Value.ownBlock]))
  have s1 : w.heap.size + 2 ≤ w1.heap.size := by have := hM1.size; simpa using this
  clear ho1 hM1
  have c1 := B1.out.cell (i := 1) rfl
  go_wp2_with fail
  refine (refPut O1.out (by omega) 8 (by omega) (by omega) ub (by omega) (by simp [be_length])).mono ?_
  rintro e2 w2 ⟨v2, rfl, ho2, hM2, -⟩
  have O2 := Lib.hid ho2
  have q2 := own_block O1.out
  have B2 := Lib.hid (hM2.blk B1.out (fun hx => by have := q2 _ (by simpa using hx); omega))
  have M2 := Lib.hid (M1.out.trans' hM2 (fun x hx => by have := q2 x (by simpa using hx); omega))
  have s2 : w.heap.size + 2 ≤ w2.heap.size := by have := hM2.size; omega
  clear ho2 hM2 c1 q2
  have c2 := B2.out.cell (i := 2) rfl
  go_wp2_with fail
  refine (refPut O2.out (by omega) 8 (by omega) (by omega) uc (by omega) (by simp [be_length])).mono ?_
  rintro e3 w3 ⟨v3, rfl, ho3, hM3, -⟩
  have O3 := Lib.hid ho3
  have q3 := own_block O2.out
  have B3 := Lib.hid (hM3.blk B2.out (fun hx => by have := q3 _ (by simpa using hx); omega))
  have M3 := Lib.hid (M2.out.trans' hM3 (fun x hx => by have := q3 x (by simpa using hx); omega))
  have s3 : w.heap.size + 2 ≤ w3.heap.size := by have := hM3.size; omega
  clear ho3 hM3 c2 q3
  have c3 := B3.out.cell (i := 3) rfl
  go_wp2_with fail
  refine (refPut O3.out (by omega) 8 (by omega) (by omega) ud (by omega) (by simp [be_length])).mono ?_
  rintro e4 w4 ⟨v4, rfl, ho4, hM4, -⟩
  have O4 := Lib.hid ho4
  have q4 := own_block O3.out
  have B4 := Lib.hid (hM4.blk B3.out (fun hx => by have := q4 _ (by simpa using hx); omega))
  have M4 := Lib.hid (M3.out.trans' hM4 (fun x hx => by have := q4 x (by simpa using hx); omega))
  have s4 : w.heap.size + 2 ≤ w4.heap.size := by have := hM4.size; omega
  clear ho4 hM4 c3 q4
  have c4 := B4.out.cell (i := 4) rfl
  go_wp2_with fail
  refine (refPut O4.out (by omega) 8 (by omega) (by omega) ue (by omega) (by simp [be_length])).mono ?_
  rintro e5 w5 ⟨v5, rfl, ho5, hM5, -⟩
  have O5 := Lib.hid ho5
  have q5 := own_block O4.out
  have B5 := Lib.hid (hM5.blk B4.out (fun hx => by have := q5 _ (by simpa using hx); omega))
  have M5 := Lib.hid (M4.out.trans' hM5 (fun x hx => by have := q5 x (by simpa using hx); omega))
  have s5 : w.heap.size + 2 ≤ w5.heap.size := by have := hM5.size; omega
  clear ho5 hM5 c4 q5
  have c5 := B5.out.cell (i := 4) rfl
  go_wp2_with fail
  refine (refWhole (Sl.own O5.out) (by simp) (by simp [be_length])).mono ?_
  rintro e6 w6 ⟨v6, rfl, ho6, hM6⟩
  have O6 := Lib.hid ho6
  have M6 := Lib.hid (M5.out.trans hM6)
  clear ho6 hM6
  go_wp2_with fail
  go_ret
  refine ⟨_, rfl, ?_, M6.out⟩
  have this : OwnB w6 w.heap.size v6 _ := own_base O6.out (base' := w.heap.size) (by omega)
  simpa [List.append_assoc] using this

set_option maxRecDepth 4000 in
set_option maxHeartbeats 3200000 in
theorem refListed (w : World) (rule : Int) (a : Option Addr) (cp : Nat) (l : List Cnt) (hI : InC w a l) (hl : l.length ≤ 64) (hk : ∀ q, q ∈ l → q.key.length ≤ 64) :
    Calls Try.prog 25 #[.int .i64 rule, .slice a l.length cp] w (Fresh w (frame 0xA8 ([132, b8 rule, b8 l.length] ++ listed l))) := by
  have hbl : ((b8 (l.length : Int)).toNat : Int) = l.length := by have := b8_val (l.length : Int); omega
  have hlit : OwnB (w.alloc (.cells #[.int .u8 132, .int .u8 (rule % 256), .int .u8 (l.length : Int)] 5)) w.heap.size (.slice (some ⟨w.heap.size, 0, none⟩) 3 3) [132, b8 rule, b8 l.length] :=
    own_new [132, b8 rule, b8 l.length] _ (by simp [vb, hbl, ← b8_val rule]) (by simp) rfl (by simp)
  clear hbl
  have hll := listed_le l hk
  have HLL := Lib.hid hll
  have HL := Lib.hid hlit
  have HI := Lib.hid hI
  have HK := Lib.hid hk
  clear hlit hI hk hll
  go_enter Try.func25, Try.ntmps25
  go_wp2_with fail
  go_loopw [5, 6] (fun x i wr => ∃ (j : Nat), j ≤ l.length ∧ i = .int .i64 j ∧ OwnB wr w.heap.size x ([132, b8 rule, b8 l.length] ++ listed (l.take j)) ∧ Mod [] w wr) (fun _ i _ => l.length - (intOf i).toNat)
  case atStart => exact ⟨0, Nat.zero_le _, rfl, HL.out, (Mod.refl [] w).alloc _⟩
  case round =>
    obtain ⟨j, hj, rfl, hO, hM⟩ := hrel
    have HO := Lib.hid hO
    have MR := Lib.hid hM
    have hs0 := hM.size
    clear hO hM
    by_cases hlt : j < l.length
    · obtain ⟨q, hq⟩ : ∃ q, l[j]? = some q := ⟨_, List.getElem?_eq_getElem hlt⟩
      obtain ⟨b, off, rfl, hb, hx⟩ := HI.out j q hq
      have hqk := HK.out q (List.mem_of_getElem? hq)
      have hx' := fun i u h => (MR.out.cell hb (by simp)).trans (hx i u h)
      have p0 := hx' 0 _ rfl
      have p1 := hx' 1 _ rfl
      have p2 := hx' 2 _ rfl
      have htk : l.take (j + 1) = l.take j ++ [q] := by rw [List.take_add_one, hq]; rfl
      have hlen := listed_le (l.take j) (fun q hq => HK.out q (List.mem_of_mem_take hq))
      rw [List.length_take, Nat.min_eq_left hj] at hlen
      have HTK := Lib.hid htk
      have HLN := Lib.hid hlen
      clear hx hx' hq htk hlen
      obtain ⟨key, n, e⟩ := q
      simp only [Nat.add_zero] at p0 p1 p2 hqk
      have hn := u64_wrap n
      have he := u64_wrap e
      have hnl := u64_lt n
      have hel := u64_lt e
      have P0 := Lib.hid p0
      have P1 := Lib.hid p1
      have P2 := Lib.hid p2
      have hb0 := own_block HO.out
      go_wp2_with (at_builtin; first
        | (refine app_one (b8 key.length) _ _ (HO.out.alloc (.cells #[.int .u8 (key.length : Int)] 5)) rfl _ _ rfl rfl rfl (World.cell?_alloc_at _ _ _ _ (by simp)) (by have := b8_val (key.length : Int); omega) (by simp; omega) (by have := HLN.out; simp; omega) ?_; intro v3 w3 ho3 hM3 hat3; have N3 := Lib.hid (((Mod.refl _ wr).alloc (.cells #[.int .u8 (key.length : Int)] 5)).trans hM3); have O3 := Lib.hid ho3; have c0 := (N3.out.cell (show b < wr.heap.size by omega) (fun hx => by have := hb0 b (by simpa using hx); omega)).trans P0.out; clear hM3 ho3 hat3)
        | go_must (refine app_str key O3.out rfl _ _ rfl rfl rfl (by have := N3.out.size; omega) (by have := HLN.out; simp; omega) ?_; intro v4 w4 ho4 hM4; have hb3 := own_block O3.out; have N4 := Lib.hid ((MR.out.trans' N3.out (fun x hx => by have := hb0 x (by simpa using hx); omega)).trans' hM4 (fun x hx => by have := hb3 x (by simpa using hx); omega)); have O4 := Lib.hid ho4; have c1 := (N4.out.cell hb (by simp)).trans (((MR.out.cell hb (by simp)).symm).trans P1.out); clear hM4 ho4 hb3 c0))
      have hs4 : w.heap.size ≤ w4.heap.size := N4.out.size
      have hb4 := own_block O4.out
      have HB4 := Lib.hid hb4
      have isc4 : IsC w4.drew b := isC_of_cell (w := w4.drew) c1
      have hbN : b ∉ v4.ownBlock.toList := fun hx => by have := HB4.out b (by simpa using hx); omega
      have HBN := Lib.hid hbN
      generalize hru : u64 n = ru at *
      generalize htu : u64 e = tu at *
      have HRU := Lib.hid hru
      have HTU := Lib.hid htu
      clear hru htu hb4 hbN hb0 p0 p1 p2
      refine wp_region_held [8] [12] v4.ownBlock.toList (by kernel_rfl) (by kernel_rfl) ?_
      simp only [wpCut, List.take_succ_cons, List.take_zero, List.drop_succ_cons, List.drop_zero]
      go_wp2_with fail
      refine (refPut (B := w.heap.size) O4.out.drew hs4 8 (by omega) (by omega) ru (by omega) (by have := HLN.out; simp; omega)).mono ?_
      rintro e5 w5 ⟨v5, rfl, ho5, hM5, -⟩
      have hs5 : w4.heap.size ≤ w5.heap.size := hM5.size
      have M5 := Lib.hid (N4.out.drew.trans' hM5 (fun x hx => by have := HB4.out x (by simpa using hx); omega))
      have c2 := (M5.out.cell hb (by simp)).trans (((MR.out.cell hb (by simp)).symm).trans P2.out)
      have O5 := Lib.hid ho5
      have N5 := Lib.hid hM5
      clear ho5 hM5
      go_wp2_with fail
      refine ⟨N5.out, ?_⟩
      go_wp2_with fail
      refine (refPut (B := w.heap.size) O5.out (by omega) 8 (by omega) (by omega) tu (by omega) (by have := HLN.out; simp [be_length]; omega)).mono ?_
      rintro e6 w6 ⟨v6, rfl, ho6, hM6, -⟩
      have hb5 := own_block O5.out
      have M6 := Lib.hid (M5.out.trans' hM6 (fun x hx => by have := hb5 x (by simpa using hx); omega))
      have O6 := Lib.hid ho6
      clear ho6 hM6 hb5
      go_wp2_with fail
      refine ⟨by kernel_rfl, ⟨⟨HBN.out, isc4⟩, trivial⟩, ?_⟩
      go_wp2_with fail
      go_roundw
      case rel => exact ⟨j + 1, by omega, by go_num, by rw [HTK.out, listed_snoc]; simp only [Cnt.bytes, HRU.out, HTU.out]; have := O6.out; simpa [List.append_assoc] using this, M6.out⟩
      case measure => simp [intOf]; omega
    · obtain rfl : j = l.length := by omega
      have hO := HO.out
      rw [List.take_length] at hO
      have HO' := Lib.hid hO
      clear hO
      go_wp2_with fail
      refine (refWhole (Sl.own HO'.out) (by simp) (by have := HLL.out; simp; omega)).mono ?_
      rintro e4 w4 ⟨v4, rfl, ho4, hM4⟩
      have O4 := Lib.hid ho4
      have M4 := Lib.hid (MR.out.trans hM4)
      clear ho4 hM4
      go_wp2_with fail
      go_ret
      exact ⟨_, rfl, own_base O4.out hs0, M4.out⟩
end Go.Proofs.Ytpjmoomjbcplgaa.Frame
