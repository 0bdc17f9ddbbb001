/- frame's laws: FrameSizes: requests and answers have the sizes that they should, and say them. No condition. -/
import Derived.Test.YtpjmoomjbcplgaaFrameHead
import Derived.Test.YtpjmoomjbcplgaaFrameLaw2
import Derived.Test.YtpjmoomjbcplgaaParseLaw
import Derived.Test.YtpjmoomjbcplgaaCntArg
namespace Go.Proofs.Ytpjmoomjbcplgaa.Frame
open Go Go.RowKit Go.YtpjmoomjbcplgaaMem Go.YtpjmoomjbcplgaaLex
set_option linter.unusedVariables false
set_option linter.unusedSimpArgs false

theorem sum_keys (l : List Cnt) : (listed l).length = (l.map fun q => 17 + q.key.length).sum := by
  induction l with
  | nil => rfl
  | cons q l ih =>
    show (q.bytes ++ listed l).length = _
    rw [List.length_append, ih, List.map_cons, List.sum_cons]
    have : q.bytes.length = 17 + q.key.length := by simp [Cnt.bytes, be_length]; omega
    omega

theorem rows_of {w9 wr : World} {xs : Array Value} {t j : Nat} {v : Value} {m : Nat} (hm : Mod [] (w9.alloc (.cells xs t)) wr) (hx : xs[j]? = some v) (h : Head w9 v m) :
    wr.cell? ⟨w9.heap.size, j, none⟩ = some v ∧ Head wr v m := by
  have h0 : (w9.alloc (.cells xs t)).cell? ⟨w9.heap.size, j, none⟩ = some v := by
    have e : (w9.alloc (.cells xs t)).heap[w9.heap.size]? = some (.cells xs t) := by show (w9.heap.push _)[w9.heap.size]? = _; simp
    simp only [World.cell?, e]
    simp [hx]
  exact ⟨(hm.cell (by simp) (by simp)).trans h0, (h.mod ((Mod.refl [] w9).alloc _)).mod hm⟩

set_option maxRecDepth 4000 in
set_option maxHeartbeats 6400000 in
theorem sizes_1 (w : World) (op rule k0 : Int) (cost : Nat) (key : List UInt8) (a : Option Addr) (cp : Nat) (l : List Cnt) (hI : InC w a l) (cq : cost < 4294967296) (lq : key.length ≤ 300) (hq : Req.may ⟨op, rule, cost, key, k0⟩ 256) (hl : l.length ≤ 64) (hop : op = 1) :
    Calls Try.prog 4 #[(Req.mk op rule cost key k0).val, .slice a l.length cp] w (TruePost w) := by
  have KQ := Lib.hid (know cq lq hq)
  have hbl := bytes_len hq
  obtain ⟨l1, l2, l3⟩ := Req.may_len hq
  obtain ⟨g0, g1, g2, g3, _⟩ := bytes_nb hq
  have hkl : key.length ≤ 64 := by
    rcases hq.2.2.2 with h | h | h
    · exact h.2.1
    · have e : key = [] := h.2.2.1
      rw [e]; simp
    · have e : key = [] := h.2.2.1
      rw [e]; simp
  have hlen : (Req.bytes ⟨op, rule, cost, key, k0⟩).length = (11 + key.length : Nat) := by rw [hbl, l3]; simp only [hop]; simp <;> omega
  have hb3 : nb (Req.bytes ⟨op, rule, cost, key, k0⟩) 3 = (7 + key.length : Nat) := by rw [g3]; omega
  have B1 := Lib.hid (Blk.alloc (Box.new w ⟨op, rule, cost, key, k0⟩ rfl) (.cells #[] 0))
  have B0 := Lib.hid (Box.new w ⟨op, rule, cost, key, k0⟩ rfl)
  have d64 : decide ((64 : Int) < l.length) = false := by simp; omega
  generalize hbs : Req.bytes ⟨op, rule, cost, key, k0⟩ = bs at *
  have HI := Lib.hid hI
  have HLEN := Lib.hid hlen
  have HB2 := Lib.hid g2
  have HB3 := Lib.hid hb3
  subst hop
  clear B1 hI hbl l1 l2 l3 g0 g1 g2 g3 hb3 hbs hq cq lq hlen
  simp only [Req.val] at *
  go_enter Try.func4, Try.ntmps4
  go_wp2_with fail
  refine (fit_any _).mono ?_
  rintro e w1 ⟨rfl, hM1⟩
  obtain ⟨p0, p1, p2, p3, p4⟩ := Box.facts (Box.mod B0.out hM1)
  have M1 := Lib.hid hM1
  clear hM1
  go_wp2_with fail
  refine (KQ.out.light _).mono ?_
  rintro e w2 ⟨rfl, hM2⟩
  clear p0 p1 p2 p3 p4
  have M2 := Lib.hid (M1.out.trans hM2)
  clear hM2
  obtain ⟨p0, p1, p2, p3, p4⟩ := Box.facts (Box.mod B0.out M2.out)
  go_wp2_with fail
  refine (KQ.out.right _).mono ?_
  rintro e w3 ⟨rfl, hM3⟩
  clear p0 p1 p2 p3 p4
  have M3 := Lib.hid (M2.out.trans hM3)
  clear hM3
  obtain ⟨p0, p1, p2, p3, p4⟩ := Box.facts (Box.mod B0.out M3.out)
  go_wp2_with fail
  refine (KQ.out.enc _).mono ?_
  rintro e w4 ⟨v4, rfl, ho4, hM4⟩
  clear p0 p1 p2 p3 p4
  have M4 := Lib.hid (M3.out.trans hM4)
  obtain ⟨gb, cb, rfl, hgb, hgl, hcb⟩ := own_one ho4 (by have := HLEN.out; omega)
  have c2 : w4.cell? ⟨gb, 2, none⟩ = some (.int .u8 0) := by have h := hcb 2 _ (nb_get (by have := HLEN.out; omega)); rw [HB2.out] at h; exact h
  have c3 : w4.cell? ⟨gb, 3, none⟩ = some (.int .u8 (((7 + key.length : Nat) : Nat) : Int)) := by have h := hcb 3 _ (nb_get (by have := HLEN.out; omega)); rw [HB3.out] at h; exact h
  have C2 := Lib.hid c2
  have C3 := Lib.hid c3
  rw [HLEN.out]
  clear hM4 ho4 hcb c2 c3
  obtain ⟨p0, p1, p2, p3, p4⟩ := Box.facts (Box.mod B0.out M4.out)
  have hs4 : w.heap.size < w4.heap.size := Blk.lt (Box.mod B0.out M4.out)
  go_wp2_with fail
  have M5 := Lib.hid (((Mod.refl [] w).alloc (.cells (Req.cells ⟨1, rule, cost, key, k0⟩).toArray 24)).trans M4.out)
  go_loopw [7, 44] (fun x i wr => ∃ (j : Nat), j ≤ l.length ∧ i = .int .i64 j ∧ x = .int .i64 ((7 + (listed (l.take j)).length : Nat) : Int) ∧ (∀ q, q ∈ l.take j → q.key.length ≤ 64) ∧ Mod [] w4 wr) (fun _ i _ => l.length - (intOf i).toNat)
  case atStart => exact ⟨0, Nat.zero_le _, rfl, rfl, fun q h => by simp at h, (Mod.refl [] w4).alloc _⟩
  case round =>
    obtain ⟨j, hj, rfl, rfl, hks, hM⟩ := hrel
    have MR := Lib.hid hM
    have HKS := Lib.hid hks
    have hlj := listed_le (l.take j) hks
    rw [List.length_take, Nat.min_eq_left hj] at hlj
    clear hM hks
    by_cases hlt : j < l.length
    · obtain ⟨q, hqj⟩ : ∃ q, l[j]? = some q := ⟨_, List.getElem?_eq_getElem hlt⟩
      obtain ⟨b, off, rfl, hb, hx⟩ := HI.out j q hqj
      have hx' := fun i u h => ((M5.out.trans MR.out).cell hb (by simp)).trans (hx i u h)
      have q0 := hx' 0 _ rfl
      have q1 := hx' 1 _ rfl
      have q2 := hx' 2 _ rfl
      have htk : l.take (j + 1) = l.take j ++ [q] := by rw [List.take_add_one, hqj]; rfl
      have hsum : (listed (l.take (j + 1))).length = (listed (l.take j)).length + (17 + q.key.length) := by
        rw [htk, listed_snoc, List.length_append]
        have : q.bytes.length = 17 + q.key.length := by simp [Cnt.bytes, be_length]; omega
        omega
      have HTK := Lib.hid htk
      have HSUM := Lib.hid hsum
      clear hx hx' hqj htk hsum p0 p1 p2 p3 p4
      obtain ⟨kk, n, e⟩ := q
      simp only [Nat.add_zero] at q0 q1 q2
      generalize hlg : (listed (l.take j)).length = lg at *
      by_cases hk64 : kk.length ≤ 64
      · have dk : decide ((64 : Int) < kk.length) = false := by simp; omega
        go_wp2_with fail
        go_roundw
        case rel => exact ⟨j + 1, by omega, by go_num, by rw [HSUM.out]; congr 1; simp; omega, by rw [HTK.out]; intro q hq; rcases List.mem_append.1 hq with h | h; exact HKS.out q h; rw [List.mem_singleton.1 h]; exact hk64, MR.out.alloc _⟩
        case measure => simp [intOf]; omega
      · have dk : decide ((64 : Int) < kk.length) = true := by simp; omega
        go_wp2_with fail
        go_ret
        exact ⟨rfl, (M5.out.trans MR.out).alloc _⟩
    · obtain rfl : j = l.length := by omega
      rw [List.take_length] at *
      have k2 := (MR.out.cell hgl (by simp)).trans C2.out
      have k3 := (MR.out.cell hgl (by simp)).trans C3.out
      clear p0 p1 p2 p3 p4
      go_wp2_with fail
      have hkall := HKS.out
      refine (listed_any wr 1 a cp l (fun i q hq => by obtain ⟨b, off, h1, h2, h3⟩ := HI.out i q hq; exact ⟨b, off, h1, (M5.out.trans MR.out).lt h2, fun j u hu => ((M5.out.trans MR.out).cell h2 (by simp)).trans (h3 j u hu)⟩) hl hkall).mono ?_
      rintro e w6 ⟨v6, rfl, ho6, hM6⟩
      have H6 := head_of (k := 132) (body := [b8 1, b8 l.length] ++ listed l) ho6 (by decide) (by simp) (by simp; omega)
      go_wp2_with fail
      refine (faulted_any w6 3).mono ?_
      rintro e w7 ⟨v7, rfl, ho7, hM7⟩
      have H7 := head_of (k := 255) (body := [b8 3]) ho7 (by decide) (by simp) (by simp)
      go_wp2_with fail
      refine (totalled_any w7 0 0 0 0 0 0).mono ?_
      rintro e w8 ⟨v8, rfl, ho8, hM8⟩
      have H8 := head_of (k := 131) (body := [b8 0] ++ nums [0, 0, 0, 0, 0]) ho8 (by decide) (by simp) (by simp [nums_length])
      go_wp2_with fail
      refine (answered_any w8 1 1 0 0).mono ?_
      rintro e w9 ⟨v9, rfl, ho9, hM9⟩
      have H9 := head_of (k := b8 (bits .or .i64 1 128)) (body := [b8 1] ++ be 8 (u64 0) ++ be 8 (u64 0)) ho9 (by decide) (by simp) (by simp [be_length])
      have N6 := Lib.hid (((H6.mod hM7).mod hM8).mod hM9)
      have N7 := Lib.hid ((H7.mod hM8).mod hM9)
      have N8 := Lib.hid (H8.mod hM9)
      have N9 := Lib.hid H9
      have M9 := Lib.hid ((((M5.out.trans MR.out).trans hM6).trans hM7).trans hM8 |>.trans hM9)
      have em : ([b8 1, b8 l.length] ++ listed l).length + 1 = (listed l).length + 3 := by simp
      have hl3 : (listed l).length + 3 < 65536 := by omega
      have N6' : Hid (Head w9 v6 ((listed l).length + 3)) := Lib.hid (em ▸ N6.out)
      have N7' : Hid (Head w9 v7 2) := Lib.hid N7.out
      have N8' : Hid (Head w9 v8 42) := Lib.hid (by have h := N8.out; simp [nums_length] at h; exact h)
      have N9' : Hid (Head w9 v9 18) := Lib.hid (by have h := N9.out; simp [be_length] at h; exact h)
      clear N6 N7 N8 N9 em hl3
      generalize hm6 : (listed l).length + 3 = m6 at *
      have HM6 := Lib.hid hm6
      obtain ⟨g6, r6, n6, e6, -⟩ := N6'.out.at_
      obtain ⟨g7, r7, n7, e7, -⟩ := N7'.out.at_
      obtain ⟨g8, r8, n8, e8, -⟩ := N8'.out.at_
      obtain ⟨g9, r9, n9, e9, -⟩ := N9'.out.at_
      subst e6; subst e7; subst e8; subst e9
      clear H6 H7 H8 H9 ho6 ho7 ho8 ho9 hM6 hM7 hM8 hM9 hkall hm6
      go_wp2_with fail
      go_loopw [87] (fun i wr => ∃ (j : Nat), j ≤ 4 ∧ i = .int .i64 j ∧ Mod [] (w9.alloc (.cells #[.slice (some ⟨g6, 0, none⟩) (m6 + 4) r6, .slice (some ⟨g7, 0, none⟩) 6 r7, .slice (some ⟨g8, 0, none⟩) 46 r8, .slice (some ⟨g9, 0, none⟩) 22 r9] 28)) wr) (fun i _ => 4 - (intOf i).toNat)
      case atStart => exact ⟨0, Nat.zero_le _, rfl, Mod.refl [] _⟩
      case round =>
        obtain ⟨j, hj, rfl, hM⟩ := hrel
        have MR2 := Lib.hid hM
        by_cases hlt : j < 4
        · obtain ⟨v, m, hz, hH⟩ : ∃ v m, wr.cell? ⟨w9.heap.size, j, none⟩ = some v ∧ Head wr v m := by
            rcases (show j = 0 ∨ j = 1 ∨ j = 2 ∨ j = 3 by omega) with rfl | rfl | rfl | rfl
            · exact ⟨_, _, rows_of hM rfl N6'.out⟩
            · exact ⟨_, _, rows_of hM rfl N7'.out⟩
            · exact ⟨_, _, rows_of hM rfl N8'.out⟩
            · exact ⟨_, _, rows_of hM rfl N9'.out⟩
          obtain ⟨g, c, k, rfl, hg, hc, h2m, hm65, hk1, hk2, c0, c1, c2, c3, c4⟩ := hH.at_
          clear hM hH
          have hor := or_two (a := m / 256) (c := m % 256) (by omega) (by omega)
          have hm2 : m / 256 * 256 + m % 256 = m := by omega
          rw [hm2] at hor
          clear hm2
          go_wp2_with fail
          refine wp_region_lex (by kernel_rfl) (by kernel_rfl) ?_
          go_wp2_with fail
          refine ⟨by kernel_rfl, ?_⟩
          go_wp2_with fail
          refine ⟨⟨j + 1, by omega, by go_num, MR2.out.drew⟩, by simp [intOf]; omega⟩
        · obtain rfl : j = 4 := by omega
          clear hM
          go_wp2_with fail
          have ML := Lib.hid ((M9.out.alloc _).trans MR2.out)
          refine (listed_any wr 1 a cp l (fun i q hq => by obtain ⟨b, off, h1, h2, h3⟩ := HI.out i q hq; exact ⟨b, off, h1, ML.out.lt h2, fun j u hu => (ML.out.cell h2 (by simp)).trans (h3 j u hu)⟩) hl HKS.out).mono ?_
          rintro e wz ⟨vz, rfl, hoz, hMz⟩
          obtain ⟨gz, rz, nz, ez, -⟩ := (head_of (k := 132) (body := [b8 1, b8 l.length] ++ listed l) hoz (by decide) (by simp) (by simp; omega)).at_
          have ez' : vz = .slice (some ⟨gz, 0, none⟩) ((listed l).length + 7) rz := by rw [ez]; congr 1
          subst ez'
          clear ez hoz
          have hbq : ((((listed l).length : Nat) : Int) + 7 == 7 + (((listed l).length : Nat) : Int)) = true := by simp; omega
          go_wp2_with fail
          go_ret
          exact ⟨rfl, ML.out.trans hMz⟩
set_option maxRecDepth 4000 in
set_option maxHeartbeats 6400000 in
theorem sizes_2 (w : World) (op rule k0 : Int) (cost : Nat) (key : List UInt8) (a : Option Addr) (cp : Nat) (l : List Cnt) (hI : InC w a l) (cq : cost < 4294967296) (lq : key.length ≤ 300) (hq : Req.may ⟨op, rule, cost, key, k0⟩ 256) (hl : l.length ≤ 64) (hop : op = 2) :
    Calls Try.prog 4 #[(Req.mk op rule cost key k0).val, .slice a l.length cp] w (TruePost w) := by
  have KQ := Lib.hid (know cq lq hq)
  have hbl := bytes_len hq
  obtain ⟨l1, l2, l3⟩ := Req.may_len hq
  obtain ⟨g0, g1, g2, g3, _⟩ := bytes_nb hq
  have hkl : key.length ≤ 64 := by
    rcases hq.2.2.2 with h | h | h
    · exact h.2.1
    · have e : key = [] := h.2.2.1
      rw [e]; simp
    · have e : key = [] := h.2.2.1
      rw [e]; simp
  have hlen : (Req.bytes ⟨op, rule, cost, key, k0⟩).length = (11 + key.length : Nat) := by rw [hbl, l3]; simp only [hop]; simp <;> omega
  have hb3 : nb (Req.bytes ⟨op, rule, cost, key, k0⟩) 3 = (7 + key.length : Nat) := by rw [g3]; omega
  have B1 := Lib.hid (Blk.alloc (Box.new w ⟨op, rule, cost, key, k0⟩ rfl) (.cells #[] 0))
  have B0 := Lib.hid (Box.new w ⟨op, rule, cost, key, k0⟩ rfl)
  have d64 : decide ((64 : Int) < l.length) = false := by simp; omega
  generalize hbs : Req.bytes ⟨op, rule, cost, key, k0⟩ = bs at *
  have HI := Lib.hid hI
  have HLEN := Lib.hid hlen
  have HB2 := Lib.hid g2
  have HB3 := Lib.hid hb3
  subst hop
  clear B1 hI hbl l1 l2 l3 g0 g1 g2 g3 hb3 hbs hq cq lq hlen
  simp only [Req.val] at *
  go_enter Try.func4, Try.ntmps4
  go_wp2_with fail
  refine (fit_any _).mono ?_
  rintro e w1 ⟨rfl, hM1⟩
  obtain ⟨p0, p1, p2, p3, p4⟩ := Box.facts (Box.mod B0.out hM1)
  have M1 := Lib.hid hM1
  clear hM1
  go_wp2_with fail
  refine (KQ.out.light _).mono ?_
  rintro e w2 ⟨rfl, hM2⟩
  clear p0 p1 p2 p3 p4
  have M2 := Lib.hid (M1.out.trans hM2)
  clear hM2
  obtain ⟨p0, p1, p2, p3, p4⟩ := Box.facts (Box.mod B0.out M2.out)
  go_wp2_with fail
  refine (KQ.out.right _).mono ?_
  rintro e w3 ⟨rfl, hM3⟩
  clear p0 p1 p2 p3 p4
  have M3 := Lib.hid (M2.out.trans hM3)
  clear hM3
  obtain ⟨p0, p1, p2, p3, p4⟩ := Box.facts (Box.mod B0.out M3.out)
  go_wp2_with fail
  refine (KQ.out.enc _).mono ?_
  rintro e w4 ⟨v4, rfl, ho4, hM4⟩
  clear p0 p1 p2 p3 p4
  have M4 := Lib.hid (M3.out.trans hM4)
  obtain ⟨gb, cb, rfl, hgb, hgl, hcb⟩ := own_one ho4 (by have := HLEN.out; omega)
  have c2 : w4.cell? ⟨gb, 2, none⟩ = some (.int .u8 0) := by have h := hcb 2 _ (nb_get (by have := HLEN.out; omega)); rw [HB2.out] at h; exact h
  have c3 : w4.cell? ⟨gb, 3, none⟩ = some (.int .u8 (((7 + key.length : Nat) : Nat) : Int)) := by have h := hcb 3 _ (nb_get (by have := HLEN.out; omega)); rw [HB3.out] at h; exact h
  have C2 := Lib.hid c2
  have C3 := Lib.hid c3
  rw [HLEN.out]
  clear hM4 ho4 hcb c2 c3
  obtain ⟨p0, p1, p2, p3, p4⟩ := Box.facts (Box.mod B0.out M4.out)
  have hs4 : w.heap.size < w4.heap.size := Blk.lt (Box.mod B0.out M4.out)
  go_wp2_with fail
  have M5 := Lib.hid (((Mod.refl [] w).alloc (.cells (Req.cells ⟨2, rule, cost, key, k0⟩).toArray 24)).trans M4.out)
  go_loopw [7, 44] (fun x i wr => ∃ (j : Nat), j ≤ l.length ∧ i = .int .i64 j ∧ x = .int .i64 ((7 + (listed (l.take j)).length : Nat) : Int) ∧ (∀ q, q ∈ l.take j → q.key.length ≤ 64) ∧ Mod [] w4 wr) (fun _ i _ => l.length - (intOf i).toNat)
  case atStart => exact ⟨0, Nat.zero_le _, rfl, rfl, fun q h => by simp at h, (Mod.refl [] w4).alloc _⟩
  case round =>
    obtain ⟨j, hj, rfl, rfl, hks, hM⟩ := hrel
    have MR := Lib.hid hM
    have HKS := Lib.hid hks
    have hlj := listed_le (l.take j) hks
    rw [List.length_take, Nat.min_eq_left hj] at hlj
    clear hM hks
    by_cases hlt : j < l.length
    · obtain ⟨q, hqj⟩ : ∃ q, l[j]? = some q := ⟨_, List.getElem?_eq_getElem hlt⟩
      obtain ⟨b, off, rfl, hb, hx⟩ := HI.out j q hqj
      have hx' := fun i u h => ((M5.out.trans MR.out).cell hb (by simp)).trans (hx i u h)
      have q0 := hx' 0 _ rfl
      have q1 := hx' 1 _ rfl
      have q2 := hx' 2 _ rfl
      have htk : l.take (j + 1) = l.take j ++ [q] := by rw [List.take_add_one, hqj]; rfl
      have hsum : (listed (l.take (j + 1))).length = (listed (l.take j)).length + (17 + q.key.length) := by
        rw [htk, listed_snoc, List.length_append]
        have : q.bytes.length = 17 + q.key.length := by simp [Cnt.bytes, be_length]; omega
        omega
      have HTK := Lib.hid htk
      have HSUM := Lib.hid hsum
      clear hx hx' hqj htk hsum p0 p1 p2 p3 p4
      obtain ⟨kk, n, e⟩ := q
      simp only [Nat.add_zero] at q0 q1 q2
      generalize hlg : (listed (l.take j)).length = lg at *
      by_cases hk64 : kk.length ≤ 64
      · have dk : decide ((64 : Int) < kk.length) = false := by simp; omega
        go_wp2_with fail
        go_roundw
        case rel => exact ⟨j + 1, by omega, by go_num, by rw [HSUM.out]; congr 1; simp; omega, by rw [HTK.out]; intro q hq; rcases List.mem_append.1 hq with h | h; exact HKS.out q h; rw [List.mem_singleton.1 h]; exact hk64, MR.out.alloc _⟩
        case measure => simp [intOf]; omega
      · have dk : decide ((64 : Int) < kk.length) = true := by simp; omega
        go_wp2_with fail
        go_ret
        exact ⟨rfl, (M5.out.trans MR.out).alloc _⟩
    · obtain rfl : j = l.length := by omega
      rw [List.take_length] at *
      have k2 := (MR.out.cell hgl (by simp)).trans C2.out
      have k3 := (MR.out.cell hgl (by simp)).trans C3.out
      clear p0 p1 p2 p3 p4
      go_wp2_with fail
      have hkall := HKS.out
      refine (listed_any wr 1 a cp l (fun i q hq => by obtain ⟨b, off, h1, h2, h3⟩ := HI.out i q hq; exact ⟨b, off, h1, (M5.out.trans MR.out).lt h2, fun j u hu => ((M5.out.trans MR.out).cell h2 (by simp)).trans (h3 j u hu)⟩) hl hkall).mono ?_
      rintro e w6 ⟨v6, rfl, ho6, hM6⟩
      have H6 := head_of (k := 132) (body := [b8 1, b8 l.length] ++ listed l) ho6 (by decide) (by simp) (by simp; omega)
      go_wp2_with fail
      refine (faulted_any w6 3).mono ?_
      rintro e w7 ⟨v7, rfl, ho7, hM7⟩
      have H7 := head_of (k := 255) (body := [b8 3]) ho7 (by decide) (by simp) (by simp)
      go_wp2_with fail
      refine (totalled_any w7 0 0 0 0 0 0).mono ?_
      rintro e w8 ⟨v8, rfl, ho8, hM8⟩
      have H8 := head_of (k := 131) (body := [b8 0] ++ nums [0, 0, 0, 0, 0]) ho8 (by decide) (by simp) (by simp [nums_length])
      go_wp2_with fail
      refine (answered_any w8 1 1 0 0).mono ?_
      rintro e w9 ⟨v9, rfl, ho9, hM9⟩
      have H9 := head_of (k := b8 (bits .or .i64 1 128)) (body := [b8 1] ++ be 8 (u64 0) ++ be 8 (u64 0)) ho9 (by decide) (by simp) (by simp [be_length])
      have N6 := Lib.hid (((H6.mod hM7).mod hM8).mod hM9)
      have N7 := Lib.hid ((H7.mod hM8).mod hM9)
      have N8 := Lib.hid (H8.mod hM9)
      have N9 := Lib.hid H9
      have M9 := Lib.hid ((((M5.out.trans MR.out).trans hM6).trans hM7).trans hM8 |>.trans hM9)
      have em : ([b8 1, b8 l.length] ++ listed l).length + 1 = (listed l).length + 3 := by simp
      have hl3 : (listed l).length + 3 < 65536 := by omega
      have N6' : Hid (Head w9 v6 ((listed l).length + 3)) := Lib.hid (em ▸ N6.out)
      have N7' : Hid (Head w9 v7 2) := Lib.hid N7.out
      have N8' : Hid (Head w9 v8 42) := Lib.hid (by have h := N8.out; simp [nums_length] at h; exact h)
      have N9' : Hid (Head w9 v9 18) := Lib.hid (by have h := N9.out; simp [be_length] at h; exact h)
      clear N6 N7 N8 N9 em hl3
      generalize hm6 : (listed l).length + 3 = m6 at *
      have HM6 := Lib.hid hm6
      obtain ⟨g6, r6, n6, e6, -⟩ := N6'.out.at_
      obtain ⟨g7, r7, n7, e7, -⟩ := N7'.out.at_
      obtain ⟨g8, r8, n8, e8, -⟩ := N8'.out.at_
      obtain ⟨g9, r9, n9, e9, -⟩ := N9'.out.at_
      subst e6; subst e7; subst e8; subst e9
      clear H6 H7 H8 H9 ho6 ho7 ho8 ho9 hM6 hM7 hM8 hM9 hkall hm6
      go_wp2_with fail
      go_loopw [87] (fun i wr => ∃ (j : Nat), j ≤ 4 ∧ i = .int .i64 j ∧ Mod [] (w9.alloc (.cells #[.slice (some ⟨g6, 0, none⟩) (m6 + 4) r6, .slice (some ⟨g7, 0, none⟩) 6 r7, .slice (some ⟨g8, 0, none⟩) 46 r8, .slice (some ⟨g9, 0, none⟩) 22 r9] 28)) wr) (fun i _ => 4 - (intOf i).toNat)
      case atStart => exact ⟨0, Nat.zero_le _, rfl, Mod.refl [] _⟩
      case round =>
        obtain ⟨j, hj, rfl, hM⟩ := hrel
        have MR2 := Lib.hid hM
        by_cases hlt : j < 4
        · obtain ⟨v, m, hz, hH⟩ : ∃ v m, wr.cell? ⟨w9.heap.size, j, none⟩ = some v ∧ Head wr v m := by
            rcases (show j = 0 ∨ j = 1 ∨ j = 2 ∨ j = 3 by omega) with rfl | rfl | rfl | rfl
            · exact ⟨_, _, rows_of hM rfl N6'.out⟩
            · exact ⟨_, _, rows_of hM rfl N7'.out⟩
            · exact ⟨_, _, rows_of hM rfl N8'.out⟩
            · exact ⟨_, _, rows_of hM rfl N9'.out⟩
          obtain ⟨g, c, k, rfl, hg, hc, h2m, hm65, hk1, hk2, c0, c1, c2, c3, c4⟩ := hH.at_
          clear hM hH
          have hor := or_two (a := m / 256) (c := m % 256) (by omega) (by omega)
          have hm2 : m / 256 * 256 + m % 256 = m := by omega
          rw [hm2] at hor
          clear hm2
          go_wp2_with fail
          refine wp_region_lex (by kernel_rfl) (by kernel_rfl) ?_
          go_wp2_with fail
          refine ⟨by kernel_rfl, ?_⟩
          go_wp2_with fail
          refine ⟨⟨j + 1, by omega, by go_num, MR2.out.drew⟩, by simp [intOf]; omega⟩
        · obtain rfl : j = 4 := by omega
          clear hM
          go_wp2_with fail
          have ML := Lib.hid ((M9.out.alloc _).trans MR2.out)
          refine (listed_any wr 1 a cp l (fun i q hq => by obtain ⟨b, off, h1, h2, h3⟩ := HI.out i q hq; exact ⟨b, off, h1, ML.out.lt h2, fun j u hu => (ML.out.cell h2 (by simp)).trans (h3 j u hu)⟩) hl HKS.out).mono ?_
          rintro e wz ⟨vz, rfl, hoz, hMz⟩
          obtain ⟨gz, rz, nz, ez, -⟩ := (head_of (k := 132) (body := [b8 1, b8 l.length] ++ listed l) hoz (by decide) (by simp) (by simp; omega)).at_
          have ez' : vz = .slice (some ⟨gz, 0, none⟩) ((listed l).length + 7) rz := by rw [ez]; congr 1
          subst ez'
          clear ez hoz
          have hbq : ((((listed l).length : Nat) : Int) + 7 == 7 + (((listed l).length : Nat) : Int)) = true := by simp; omega
          go_wp2_with fail
          go_ret
          exact ⟨rfl, ML.out.trans hMz⟩
set_option maxRecDepth 4000 in
set_option maxHeartbeats 6400000 in
theorem sizes_3 (w : World) (op rule k0 : Int) (cost : Nat) (key : List UInt8) (a : Option Addr) (cp : Nat) (l : List Cnt) (hI : InC w a l) (cq : cost < 4294967296) (lq : key.length ≤ 300) (hq : Req.may ⟨op, rule, cost, key, k0⟩ 256) (hl : l.length ≤ 64) (hop : op = 3) :
    Calls Try.prog 4 #[(Req.mk op rule cost key k0).val, .slice a l.length cp] w (TruePost w) := by
  have KQ := Lib.hid (know cq lq hq)
  have hbl := bytes_len hq
  obtain ⟨l1, l2, l3⟩ := Req.may_len hq
  obtain ⟨g0, g1, g2, g3, _⟩ := bytes_nb hq
  have hkl : key.length ≤ 64 := by
    rcases hq.2.2.2 with h | h | h
    · exact h.2.1
    · have e : key = [] := h.2.2.1
      rw [e]; simp
    · have e : key = [] := h.2.2.1
      rw [e]; simp
  have hlen : (Req.bytes ⟨op, rule, cost, key, k0⟩).length = (6 : Nat) := by rw [hbl, l3]; simp only [hop]; simp <;> omega
  have hb3 : nb (Req.bytes ⟨op, rule, cost, key, k0⟩) 3 = (2 : Nat) := by rw [g3]; omega
  have B1 := Lib.hid (Blk.alloc (Box.new w ⟨op, rule, cost, key, k0⟩ rfl) (.cells #[] 0))
  have B0 := Lib.hid (Box.new w ⟨op, rule, cost, key, k0⟩ rfl)
  have d64 : decide ((64 : Int) < l.length) = false := by simp; omega
  generalize hbs : Req.bytes ⟨op, rule, cost, key, k0⟩ = bs at *
  have HI := Lib.hid hI
  have HLEN := Lib.hid hlen
  have HB2 := Lib.hid g2
  have HB3 := Lib.hid hb3
  subst hop
  clear B1 hI hbl l1 l2 l3 g0 g1 g2 g3 hb3 hbs hq cq lq hlen
  simp only [Req.val] at *
  go_enter Try.func4, Try.ntmps4
  go_wp2_with fail
  refine (fit_any _).mono ?_
  rintro e w1 ⟨rfl, hM1⟩
  obtain ⟨p0, p1, p2, p3, p4⟩ := Box.facts (Box.mod B0.out hM1)
  have M1 := Lib.hid hM1
  clear hM1
  go_wp2_with fail
  refine (KQ.out.light _).mono ?_
  rintro e w2 ⟨rfl, hM2⟩
  clear p0 p1 p2 p3 p4
  have M2 := Lib.hid (M1.out.trans hM2)
  clear hM2
  obtain ⟨p0, p1, p2, p3, p4⟩ := Box.facts (Box.mod B0.out M2.out)
  go_wp2_with fail
  refine (KQ.out.right _).mono ?_
  rintro e w3 ⟨rfl, hM3⟩
  clear p0 p1 p2 p3 p4
  have M3 := Lib.hid (M2.out.trans hM3)
  clear hM3
  obtain ⟨p0, p1, p2, p3, p4⟩ := Box.facts (Box.mod B0.out M3.out)
  go_wp2_with fail
  refine (KQ.out.enc _).mono ?_
  rintro e w4 ⟨v4, rfl, ho4, hM4⟩
  clear p0 p1 p2 p3 p4
  have M4 := Lib.hid (M3.out.trans hM4)
  obtain ⟨gb, cb, rfl, hgb, hgl, hcb⟩ := own_one ho4 (by have := HLEN.out; omega)
  have c2 : w4.cell? ⟨gb, 2, none⟩ = some (.int .u8 0) := by have h := hcb 2 _ (nb_get (by have := HLEN.out; omega)); rw [HB2.out] at h; exact h
  have c3 : w4.cell? ⟨gb, 3, none⟩ = some (.int .u8 (((2 : Nat) : Nat) : Int)) := by have h := hcb 3 _ (nb_get (by have := HLEN.out; omega)); rw [HB3.out] at h; exact h
  have C2 := Lib.hid c2
  have C3 := Lib.hid c3
  rw [HLEN.out]
  clear hM4 ho4 hcb c2 c3
  obtain ⟨p0, p1, p2, p3, p4⟩ := Box.facts (Box.mod B0.out M4.out)
  have hs4 : w.heap.size < w4.heap.size := Blk.lt (Box.mod B0.out M4.out)
  go_wp2_with fail
  have M5 := Lib.hid (((Mod.refl [] w).alloc (.cells (Req.cells ⟨3, rule, cost, key, k0⟩).toArray 24)).trans M4.out)
  go_loopw [7, 44] (fun x i wr => ∃ (j : Nat), j ≤ l.length ∧ i = .int .i64 j ∧ x = .int .i64 ((7 + (listed (l.take j)).length : Nat) : Int) ∧ (∀ q, q ∈ l.take j → q.key.length ≤ 64) ∧ Mod [] w4 wr) (fun _ i _ => l.length - (intOf i).toNat)
  case atStart => exact ⟨0, Nat.zero_le _, rfl, rfl, fun q h => by simp at h, (Mod.refl [] w4).alloc _⟩
  case round =>
    obtain ⟨j, hj, rfl, rfl, hks, hM⟩ := hrel
    have MR := Lib.hid hM
    have HKS := Lib.hid hks
    have hlj := listed_le (l.take j) hks
    rw [List.length_take, Nat.min_eq_left hj] at hlj
    clear hM hks
    by_cases hlt : j < l.length
    · obtain ⟨q, hqj⟩ : ∃ q, l[j]? = some q := ⟨_, List.getElem?_eq_getElem hlt⟩
      obtain ⟨b, off, rfl, hb, hx⟩ := HI.out j q hqj
      have hx' := fun i u h => ((M5.out.trans MR.out).cell hb (by simp)).trans (hx i u h)
      have q0 := hx' 0 _ rfl
      have q1 := hx' 1 _ rfl
      have q2 := hx' 2 _ rfl
      have htk : l.take (j + 1) = l.take j ++ [q] := by rw [List.take_add_one, hqj]; rfl
      have hsum : (listed (l.take (j + 1))).length = (listed (l.take j)).length + (17 + q.key.length) := by
        rw [htk, listed_snoc, List.length_append]
        have : q.bytes.length = 17 + q.key.length := by simp [Cnt.bytes, be_length]; omega
        omega
      have HTK := Lib.hid htk
      have HSUM := Lib.hid hsum
      clear hx hx' hqj htk hsum p0 p1 p2 p3 p4
      obtain ⟨kk, n, e⟩ := q
      simp only [Nat.add_zero] at q0 q1 q2
      generalize hlg : (listed (l.take j)).length = lg at *
      by_cases hk64 : kk.length ≤ 64
      · have dk : decide ((64 : Int) < kk.length) = false := by simp; omega
        go_wp2_with fail
        go_roundw
        case rel => exact ⟨j + 1, by omega, by go_num, by rw [HSUM.out]; congr 1; simp; omega, by rw [HTK.out]; intro q hq; rcases List.mem_append.1 hq with h | h; exact HKS.out q h; rw [List.mem_singleton.1 h]; exact hk64, MR.out.alloc _⟩
        case measure => simp [intOf]; omega
      · have dk : decide ((64 : Int) < kk.length) = true := by simp; omega
        go_wp2_with fail
        go_ret
        exact ⟨rfl, (M5.out.trans MR.out).alloc _⟩
    · obtain rfl : j = l.length := by omega
      rw [List.take_length] at *
      have k2 := (MR.out.cell hgl (by simp)).trans C2.out
      have k3 := (MR.out.cell hgl (by simp)).trans C3.out
      clear p0 p1 p2 p3 p4
      go_wp2_with fail
      have hkall := HKS.out
      refine (listed_any wr 1 a cp l (fun i q hq => by obtain ⟨b, off, h1, h2, h3⟩ := HI.out i q hq; exact ⟨b, off, h1, (M5.out.trans MR.out).lt h2, fun j u hu => ((M5.out.trans MR.out).cell h2 (by simp)).trans (h3 j u hu)⟩) hl hkall).mono ?_
      rintro e w6 ⟨v6, rfl, ho6, hM6⟩
      have H6 := head_of (k := 132) (body := [b8 1, b8 l.length] ++ listed l) ho6 (by decide) (by simp) (by simp; omega)
      go_wp2_with fail
      refine (faulted_any w6 3).mono ?_
      rintro e w7 ⟨v7, rfl, ho7, hM7⟩
      have H7 := head_of (k := 255) (body := [b8 3]) ho7 (by decide) (by simp) (by simp)
      go_wp2_with fail
      refine (totalled_any w7 0 0 0 0 0 0).mono ?_
      rintro e w8 ⟨v8, rfl, ho8, hM8⟩
      have H8 := head_of (k := 131) (body := [b8 0] ++ nums [0, 0, 0, 0, 0]) ho8 (by decide) (by simp) (by simp [nums_length])
      go_wp2_with fail
      refine (answered_any w8 1 1 0 0).mono ?_
      rintro e w9 ⟨v9, rfl, ho9, hM9⟩
      have H9 := head_of (k := b8 (bits .or .i64 1 128)) (body := [b8 1] ++ be 8 (u64 0) ++ be 8 (u64 0)) ho9 (by decide) (by simp) (by simp [be_length])
      have N6 := Lib.hid (((H6.mod hM7).mod hM8).mod hM9)
      have N7 := Lib.hid ((H7.mod hM8).mod hM9)
      have N8 := Lib.hid (H8.mod hM9)
      have N9 := Lib.hid H9
      have M9 := Lib.hid ((((M5.out.trans MR.out).trans hM6).trans hM7).trans hM8 |>.trans hM9)
      have em : ([b8 1, b8 l.length] ++ listed l).length + 1 = (listed l).length + 3 := by simp
      have hl3 : (listed l).length + 3 < 65536 := by omega
      have N6' : Hid (Head w9 v6 ((listed l).length + 3)) := Lib.hid (em ▸ N6.out)
      have N7' : Hid (Head w9 v7 2) := Lib.hid N7.out
      have N8' : Hid (Head w9 v8 42) := Lib.hid (by have h := N8.out; simp [nums_length] at h; exact h)
      have N9' : Hid (Head w9 v9 18) := Lib.hid (by have h := N9.out; simp [be_length] at h; exact h)
      clear N6 N7 N8 N9 em hl3
      generalize hm6 : (listed l).length + 3 = m6 at *
      have HM6 := Lib.hid hm6
      obtain ⟨g6, r6, n6, e6, -⟩ := N6'.out.at_
      obtain ⟨g7, r7, n7, e7, -⟩ := N7'.out.at_
      obtain ⟨g8, r8, n8, e8, -⟩ := N8'.out.at_
      obtain ⟨g9, r9, n9, e9, -⟩ := N9'.out.at_
      subst e6; subst e7; subst e8; subst e9
      clear H6 H7 H8 H9 ho6 ho7 ho8 ho9 hM6 hM7 hM8 hM9 hkall hm6
      go_wp2_with fail
      go_loopw [87] (fun i wr => ∃ (j : Nat), j ≤ 4 ∧ i = .int .i64 j ∧ Mod [] (w9.alloc (.cells #[.slice (some ⟨g6, 0, none⟩) (m6 + 4) r6, .slice (some ⟨g7, 0, none⟩) 6 r7, .slice (some ⟨g8, 0, none⟩) 46 r8, .slice (some ⟨g9, 0, none⟩) 22 r9] 28)) wr) (fun i _ => 4 - (intOf i).toNat)
      case atStart => exact ⟨0, Nat.zero_le _, rfl, Mod.refl [] _⟩
      case round =>
        obtain ⟨j, hj, rfl, hM⟩ := hrel
        have MR2 := Lib.hid hM
        by_cases hlt : j < 4
        · obtain ⟨v, m, hz, hH⟩ : ∃ v m, wr.cell? ⟨w9.heap.size, j, none⟩ = some v ∧ Head wr v m := by
            rcases (show j = 0 ∨ j = 1 ∨ j = 2 ∨ j = 3 by omega) with rfl | rfl | rfl | rfl
            · exact ⟨_, _, rows_of hM rfl N6'.out⟩
            · exact ⟨_, _, rows_of hM rfl N7'.out⟩
            · exact ⟨_, _, rows_of hM rfl N8'.out⟩
            · exact ⟨_, _, rows_of hM rfl N9'.out⟩
          obtain ⟨g, c, k, rfl, hg, hc, h2m, hm65, hk1, hk2, c0, c1, c2, c3, c4⟩ := hH.at_
          clear hM hH
          have hor := or_two (a := m / 256) (c := m % 256) (by omega) (by omega)
          have hm2 : m / 256 * 256 + m % 256 = m := by omega
          rw [hm2] at hor
          clear hm2
          go_wp2_with fail
          refine wp_region_lex (by kernel_rfl) (by kernel_rfl) ?_
          go_wp2_with fail
          refine ⟨by kernel_rfl, ?_⟩
          go_wp2_with fail
          refine ⟨⟨j + 1, by omega, by go_num, MR2.out.drew⟩, by simp [intOf]; omega⟩
        · obtain rfl : j = 4 := by omega
          clear hM
          go_wp2_with fail
          have ML := Lib.hid ((M9.out.alloc _).trans MR2.out)
          refine (listed_any wr 1 a cp l (fun i q hq => by obtain ⟨b, off, h1, h2, h3⟩ := HI.out i q hq; exact ⟨b, off, h1, ML.out.lt h2, fun j u hu => (ML.out.cell h2 (by simp)).trans (h3 j u hu)⟩) hl HKS.out).mono ?_
          rintro e wz ⟨vz, rfl, hoz, hMz⟩
          obtain ⟨gz, rz, nz, ez, -⟩ := (head_of (k := 132) (body := [b8 1, b8 l.length] ++ listed l) hoz (by decide) (by simp) (by simp; omega)).at_
          have ez' : vz = .slice (some ⟨gz, 0, none⟩) ((listed l).length + 7) rz := by rw [ez]; congr 1
          subst ez'
          clear ez hoz
          have hbq : ((((listed l).length : Nat) : Int) + 7 == 7 + (((listed l).length : Nat) : Int)) = true := by simp; omega
          go_wp2_with fail
          go_ret
          exact ⟨rfl, ML.out.trans hMz⟩
set_option maxRecDepth 4000 in
set_option maxHeartbeats 6400000 in
theorem sizes_4 (w : World) (op rule k0 : Int) (cost : Nat) (key : List UInt8) (a : Option Addr) (cp : Nat) (l : List Cnt) (hI : InC w a l) (cq : cost < 4294967296) (lq : key.length ≤ 300) (hq : Req.may ⟨op, rule, cost, key, k0⟩ 256) (hl : l.length ≤ 64) (hop : op = 4) :
    Calls Try.prog 4 #[(Req.mk op rule cost key k0).val, .slice a l.length cp] w (TruePost w) := by
  have KQ := Lib.hid (know cq lq hq)
  have hbl := bytes_len hq
  obtain ⟨l1, l2, l3⟩ := Req.may_len hq
  obtain ⟨g0, g1, g2, g3, _⟩ := bytes_nb hq
  have hkl : key.length ≤ 64 := by
    rcases hq.2.2.2 with h | h | h
    · exact h.2.1
    · have e : key = [] := h.2.2.1
      rw [e]; simp
    · have e : key = [] := h.2.2.1
      rw [e]; simp
  have hlen : (Req.bytes ⟨op, rule, cost, key, k0⟩).length = (7 : Nat) := by rw [hbl, l3]; simp only [hop]; simp <;> omega
  have hb3 : nb (Req.bytes ⟨op, rule, cost, key, k0⟩) 3 = (3 : Nat) := by rw [g3]; omega
  have B1 := Lib.hid (Blk.alloc (Box.new w ⟨op, rule, cost, key, k0⟩ rfl) (.cells #[] 0))
  have B0 := Lib.hid (Box.new w ⟨op, rule, cost, key, k0⟩ rfl)
  have d64 : decide ((64 : Int) < l.length) = false := by simp; omega
  generalize hbs : Req.bytes ⟨op, rule, cost, key, k0⟩ = bs at *
  have HI := Lib.hid hI
  have HLEN := Lib.hid hlen
  have HB2 := Lib.hid g2
  have HB3 := Lib.hid hb3
  subst hop
  clear B1 hI hbl l1 l2 l3 g0 g1 g2 g3 hb3 hbs hq cq lq hlen
  simp only [Req.val] at *
  go_enter Try.func4, Try.ntmps4
  go_wp2_with fail
  refine (fit_any _).mono ?_
  rintro e w1 ⟨rfl, hM1⟩
  obtain ⟨p0, p1, p2, p3, p4⟩ := Box.facts (Box.mod B0.out hM1)
  have M1 := Lib.hid hM1
  clear hM1
  go_wp2_with fail
  refine (KQ.out.light _).mono ?_
  rintro e w2 ⟨rfl, hM2⟩
  clear p0 p1 p2 p3 p4
  have M2 := Lib.hid (M1.out.trans hM2)
  clear hM2
  obtain ⟨p0, p1, p2, p3, p4⟩ := Box.facts (Box.mod B0.out M2.out)
  go_wp2_with fail
  refine (KQ.out.right _).mono ?_
  rintro e w3 ⟨rfl, hM3⟩
  clear p0 p1 p2 p3 p4
  have M3 := Lib.hid (M2.out.trans hM3)
  clear hM3
  obtain ⟨p0, p1, p2, p3, p4⟩ := Box.facts (Box.mod B0.out M3.out)
  go_wp2_with fail
  refine (KQ.out.enc _).mono ?_
  rintro e w4 ⟨v4, rfl, ho4, hM4⟩
  clear p0 p1 p2 p3 p4
  have M4 := Lib.hid (M3.out.trans hM4)
  obtain ⟨gb, cb, rfl, hgb, hgl, hcb⟩ := own_one ho4 (by have := HLEN.out; omega)
  have c2 : w4.cell? ⟨gb, 2, none⟩ = some (.int .u8 0) := by have h := hcb 2 _ (nb_get (by have := HLEN.out; omega)); rw [HB2.out] at h; exact h
  have c3 : w4.cell? ⟨gb, 3, none⟩ = some (.int .u8 (((3 : Nat) : Nat) : Int)) := by have h := hcb 3 _ (nb_get (by have := HLEN.out; omega)); rw [HB3.out] at h; exact h
  have C2 := Lib.hid c2
  have C3 := Lib.hid c3
  rw [HLEN.out]
  clear hM4 ho4 hcb c2 c3
  obtain ⟨p0, p1, p2, p3, p4⟩ := Box.facts (Box.mod B0.out M4.out)
  have hs4 : w.heap.size < w4.heap.size := Blk.lt (Box.mod B0.out M4.out)
  go_wp2_with fail
  have M5 := Lib.hid (((Mod.refl [] w).alloc (.cells (Req.cells ⟨4, rule, cost, key, k0⟩).toArray 24)).trans M4.out)
  go_loopw [7, 44] (fun x i wr => ∃ (j : Nat), j ≤ l.length ∧ i = .int .i64 j ∧ x = .int .i64 ((7 + (listed (l.take j)).length : Nat) : Int) ∧ (∀ q, q ∈ l.take j → q.key.length ≤ 64) ∧ Mod [] w4 wr) (fun _ i _ => l.length - (intOf i).toNat)
  case atStart => exact ⟨0, Nat.zero_le _, rfl, rfl, fun q h => by simp at h, (Mod.refl [] w4).alloc _⟩
  case round =>
    obtain ⟨j, hj, rfl, rfl, hks, hM⟩ := hrel
    have MR := Lib.hid hM
    have HKS := Lib.hid hks
    have hlj := listed_le (l.take j) hks
    rw [List.length_take, Nat.min_eq_left hj] at hlj
    clear hM hks
    by_cases hlt : j < l.length
    · obtain ⟨q, hqj⟩ : ∃ q, l[j]? = some q := ⟨_, List.getElem?_eq_getElem hlt⟩
      obtain ⟨b, off, rfl, hb, hx⟩ := HI.out j q hqj
      have hx' := fun i u h => ((M5.out.trans MR.out).cell hb (by simp)).trans (hx i u h)
      have q0 := hx' 0 _ rfl
      have q1 := hx' 1 _ rfl
      have q2 := hx' 2 _ rfl
      have htk : l.take (j + 1) = l.take j ++ [q] := by rw [List.take_add_one, hqj]; rfl
      have hsum : (listed (l.take (j + 1))).length = (listed (l.take j)).length + (17 + q.key.length) := by
        rw [htk, listed_snoc, List.length_append]
        have : q.bytes.length = 17 + q.key.length := by simp [Cnt.bytes, be_length]; omega
        omega
      have HTK := Lib.hid htk
      have HSUM := Lib.hid hsum
      clear hx hx' hqj htk hsum p0 p1 p2 p3 p4
      obtain ⟨kk, n, e⟩ := q
      simp only [Nat.add_zero] at q0 q1 q2
      generalize hlg : (listed (l.take j)).length = lg at *
      by_cases hk64 : kk.length ≤ 64
      · have dk : decide ((64 : Int) < kk.length) = false := by simp; omega
        go_wp2_with fail
        go_roundw
        case rel => exact ⟨j + 1, by omega, by go_num, by rw [HSUM.out]; congr 1; simp; omega, by rw [HTK.out]; intro q hq; rcases List.mem_append.1 hq with h | h; exact HKS.out q h; rw [List.mem_singleton.1 h]; exact hk64, MR.out.alloc _⟩
        case measure => simp [intOf]; omega
      · have dk : decide ((64 : Int) < kk.length) = true := by simp; omega
        go_wp2_with fail
        go_ret
        exact ⟨rfl, (M5.out.trans MR.out).alloc _⟩
    · obtain rfl : j = l.length := by omega
      rw [List.take_length] at *
      have k2 := (MR.out.cell hgl (by simp)).trans C2.out
      have k3 := (MR.out.cell hgl (by simp)).trans C3.out
      clear p0 p1 p2 p3 p4
      go_wp2_with fail
      have hkall := HKS.out
      refine (listed_any wr 1 a cp l (fun i q hq => by obtain ⟨b, off, h1, h2, h3⟩ := HI.out i q hq; exact ⟨b, off, h1, (M5.out.trans MR.out).lt h2, fun j u hu => ((M5.out.trans MR.out).cell h2 (by simp)).trans (h3 j u hu)⟩) hl hkall).mono ?_
      rintro e w6 ⟨v6, rfl, ho6, hM6⟩
      have H6 := head_of (k := 132) (body := [b8 1, b8 l.length] ++ listed l) ho6 (by decide) (by simp) (by simp; omega)
      go_wp2_with fail
      refine (faulted_any w6 3).mono ?_
      rintro e w7 ⟨v7, rfl, ho7, hM7⟩
      have H7 := head_of (k := 255) (body := [b8 3]) ho7 (by decide) (by simp) (by simp)
      go_wp2_with fail
      refine (totalled_any w7 0 0 0 0 0 0).mono ?_
      rintro e w8 ⟨v8, rfl, ho8, hM8⟩
      have H8 := head_of (k := 131) (body := [b8 0] ++ nums [0, 0, 0, 0, 0]) ho8 (by decide) (by simp) (by simp [nums_length])
      go_wp2_with fail
      refine (answered_any w8 1 1 0 0).mono ?_
      rintro e w9 ⟨v9, rfl, ho9, hM9⟩
      have H9 := head_of (k := b8 (bits .or .i64 1 128)) (body := [b8 1] ++ be 8 (u64 0) ++ be 8 (u64 0)) ho9 (by decide) (by simp) (by simp [be_length])
      have N6 := Lib.hid (((H6.mod hM7).mod hM8).mod hM9)
      have N7 := Lib.hid ((H7.mod hM8).mod hM9)
      have N8 := Lib.hid (H8.mod hM9)
      have N9 := Lib.hid H9
      have M9 := Lib.hid ((((M5.out.trans MR.out).trans hM6).trans hM7).trans hM8 |>.trans hM9)
      have em : ([b8 1, b8 l.length] ++ listed l).length + 1 = (listed l).length + 3 := by simp
      have hl3 : (listed l).length + 3 < 65536 := by omega
      have N6' : Hid (Head w9 v6 ((listed l).length + 3)) := Lib.hid (em ▸ N6.out)
      have N7' : Hid (Head w9 v7 2) := Lib.hid N7.out
      have N8' : Hid (Head w9 v8 42) := Lib.hid (by have h := N8.out; simp [nums_length] at h; exact h)
      have N9' : Hid (Head w9 v9 18) := Lib.hid (by have h := N9.out; simp [be_length] at h; exact h)
      clear N6 N7 N8 N9 em hl3
      generalize hm6 : (listed l).length + 3 = m6 at *
      have HM6 := Lib.hid hm6
      obtain ⟨g6, r6, n6, e6, -⟩ := N6'.out.at_
      obtain ⟨g7, r7, n7, e7, -⟩ := N7'.out.at_
      obtain ⟨g8, r8, n8, e8, -⟩ := N8'.out.at_
      obtain ⟨g9, r9, n9, e9, -⟩ := N9'.out.at_
      subst e6; subst e7; subst e8; subst e9
      clear H6 H7 H8 H9 ho6 ho7 ho8 ho9 hM6 hM7 hM8 hM9 hkall hm6
      go_wp2_with fail
      go_loopw [87] (fun i wr => ∃ (j : Nat), j ≤ 4 ∧ i = .int .i64 j ∧ Mod [] (w9.alloc (.cells #[.slice (some ⟨g6, 0, none⟩) (m6 + 4) r6, .slice (some ⟨g7, 0, none⟩) 6 r7, .slice (some ⟨g8, 0, none⟩) 46 r8, .slice (some ⟨g9, 0, none⟩) 22 r9] 28)) wr) (fun i _ => 4 - (intOf i).toNat)
      case atStart => exact ⟨0, Nat.zero_le _, rfl, Mod.refl [] _⟩
      case round =>
        obtain ⟨j, hj, rfl, hM⟩ := hrel
        have MR2 := Lib.hid hM
        by_cases hlt : j < 4
        · obtain ⟨v, m, hz, hH⟩ : ∃ v m, wr.cell? ⟨w9.heap.size, j, none⟩ = some v ∧ Head wr v m := by
            rcases (show j = 0 ∨ j = 1 ∨ j = 2 ∨ j = 3 by omega) with rfl | rfl | rfl | rfl
            · exact ⟨_, _, rows_of hM rfl N6'.out⟩
            · exact ⟨_, _, rows_of hM rfl N7'.out⟩
            · exact ⟨_, _, rows_of hM rfl N8'.out⟩
            · exact ⟨_, _, rows_of hM rfl N9'.out⟩
          obtain ⟨g, c, k, rfl, hg, hc, h2m, hm65, hk1, hk2, c0, c1, c2, c3, c4⟩ := hH.at_
          clear hM hH
          have hor := or_two (a := m / 256) (c := m % 256) (by omega) (by omega)
          have hm2 : m / 256 * 256 + m % 256 = m := by omega
          rw [hm2] at hor
          clear hm2
          go_wp2_with fail
          refine wp_region_lex (by kernel_rfl) (by kernel_rfl) ?_
          go_wp2_with fail
          refine ⟨by kernel_rfl, ?_⟩
          go_wp2_with fail
          refine ⟨⟨j + 1, by omega, by go_num, MR2.out.drew⟩, by simp [intOf]; omega⟩
        · obtain rfl : j = 4 := by omega
          clear hM
          go_wp2_with fail
          have ML := Lib.hid ((M9.out.alloc _).trans MR2.out)
          refine (listed_any wr 1 a cp l (fun i q hq => by obtain ⟨b, off, h1, h2, h3⟩ := HI.out i q hq; exact ⟨b, off, h1, ML.out.lt h2, fun j u hu => (ML.out.cell h2 (by simp)).trans (h3 j u hu)⟩) hl HKS.out).mono ?_
          rintro e wz ⟨vz, rfl, hoz, hMz⟩
          obtain ⟨gz, rz, nz, ez, -⟩ := (head_of (k := 132) (body := [b8 1, b8 l.length] ++ listed l) hoz (by decide) (by simp) (by simp; omega)).at_
          have ez' : vz = .slice (some ⟨gz, 0, none⟩) ((listed l).length + 7) rz := by rw [ez]; congr 1
          subst ez'
          clear ez hoz
          have hbq : ((((listed l).length : Nat) : Int) + 7 == 7 + (((listed l).length : Nat) : Int)) = true := by simp; omega
          go_wp2_with fail
          go_ret
          exact ⟨rfl, ML.out.trans hMz⟩
end Go.Proofs.Ytpjmoomjbcplgaa.Frame
