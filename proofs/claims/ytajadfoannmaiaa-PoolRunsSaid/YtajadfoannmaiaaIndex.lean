/- index.Index: what it holds; home, look. -/
import Derived.Test.YtajadfoannmaiaaProbe2
namespace Go.Proofs.Ytajadfoannmaiaa.Index
open Go Go.RowKit Go.YtajadfoannmaiaaMem Go.YtajadfoannmaiaaLex Go.Proofs.Ytajadfoannmaiaa.Hash Go.Proofs.Ytajadfoannmaiaa.Keys Go.Proofs.Ytajadfoannmaiaa.Probe
set_option linter.unusedVariables false
set_option linter.unusedSimpArgs false

/-- Where a key's way begins. -/
def homeOf (r : Row) (N : Nat) (key : List UInt8) : Nat := place (r.of key) N
def tbl (T : List Nat) : List Value := T.map fun (p : Nat) => .int .i32 (p : Int)
theorem tbl_get {T : List Nat} {i p : Nat} (h : T[i]? = some p) : (tbl T)[i]? = some (.int .i32 (p : Int)) := by simp [tbl, h]
theorem tbl_set (T : List Nat) (i p : Nat) : tbl (T.set i p) = (tbl T).set i (.int .i32 (p : Int)) := by unfold tbl; rw [List.map_set]
/-- An index at block x over the store at block g, with its table in block t. -/
structure Idx (w : World) (x g b1 b2 b3 t : Nat) (r : Row) (S : List (Option (List UInt8))) (fl : List Nat) (bs : List UInt8) (nx : List Int) (T : List Nat) : Prop where
  sto : Sto w g b1 b2 b3 S fl bs nx
  blk : Blk w x 86 [.pointer (some ⟨g, 0, none⟩), .int .u64 (r.x : Int), .int .u64 (r.a : Int), .int .u64 (r.b : Int), .slice (some ⟨t, 0, none⟩) T.length T.length]
  tab : Blk w t 21 (tbl T)
  ok : r.ok
  ix : Ix (homeOf r T.length) S T
  ne : x ≠ t ∧ x ∉ [g, b1, b2, b3] ∧ t ∉ [g, b1, b2, b3]
theorem Idx.mod {S0 : List Nat} {w w' : World} {x g b1 b2 b3 t : Nat} {r : Row} {S : List (Option (List UInt8))} {fl : List Nat} {bs : List UInt8} {nx : List Int} {T : List Nat} (h : Idx w x g b1 b2 b3 t r S fl bs nx T) (hm : Mod S0 w w') (h0 : ∀ b, b ∈ [x, g, b1, b2, b3, t] → b ∉ S0) : Idx w' x g b1 b2 b3 t r S fl bs nx T :=
  ⟨h.sto.mod hm ⟨h0 g (by simp), h0 b1 (by simp), h0 b2 (by simp), h0 b3 (by simp)⟩, hm.blk h.blk (h0 x (by simp)), hm.blk h.tab (h0 t (by simp)), h.ok, h.ix, h.ne⟩
theorem place_lt' (a n : Nat) (h : 0 < n) (ha : a < 2305843009213693951) : place a n < n := place_lt ha h

section
variable {w : World} {x g b1 b2 b3 t : Nat} {r : Row} {S : List (Option (List UInt8))} {fl : List Nat} {bs : List UInt8} {nx : List Int} {T : List Nat}
theorem Idx.few (h : Idx w x g b1 b2 b3 t r S fl bs nx T) : T.length < 4096 ∧ 0 < T.length := by
  have h1 := h.sto.few
  have h2 := h.ix.len
  omega
set_option maxRecDepth 4000 in
theorem home_blk {N : Nat} (hB : Blk w x 86 [.pointer (some ⟨g, 0, none⟩), .int .u64 (r.x : Int), .int .u64 (r.a : Int), .int .u64 (r.b : Int), .slice (some ⟨t, 0, none⟩) N N]) (hok : r.ok) (hf1 : N < 4096) (hf2 : 0 < N) (key : List UInt8) (hl : key.length ≤ 1000000) :
    Calls Try.prog 40 #[.pointer (some ⟨x, 0, none⟩), .string ⟨key.toArray⟩] w fun e w' => e = .returned (.int .i64 (homeOf r N key : Nat)) ∧ Mod [] w w' := by
  have K := Lib.hid (fun W : World => bucket_any r key N hok hl hf2 hf1 W)
  have c1 := hB.cell (i := 1) rfl
  have c2 := hB.cell (i := 2) rfl
  have c3 := hB.cell (i := 3) rfl
  have c4 := hB.cell (i := 4) rfl
  show Calls _ _ _ _ fun e w' => e = .returned (.int .i64 (place (r.of key) N : Nat)) ∧ _
  generalize place (r.of key) N = q at *
  obtain ⟨rx, ra, rb⟩ := r
  simp only at c1 c2 c3 K
  clear hB
  go_enter Try.func40, Try.ntmps40
  go_wp2_with fail
  refine wp_region_lex (by kernel_rfl) (by kernel_rfl) ?_
  go_wp2_with fail
  refine (K.out _).mono ?_
  rintro e w1 ⟨rfl, hM1⟩
  go_wp2_with fail
  refine ⟨by kernel_rfl, ?_⟩
  go_wp2_with fail
  go_ret
  exact ⟨rfl, (Mod.refl [] w).drew.trans hM1⟩
theorem home_any (h : Idx w x g b1 b2 b3 t r S fl bs nx T) (key : List UInt8) (hl : key.length ≤ 1000000) :
    Calls Try.prog 40 #[.pointer (some ⟨x, 0, none⟩), .string ⟨key.toArray⟩] w fun e w' => e = .returned (.int .i64 (homeOf r T.length key : Nat)) ∧ Mod [] w w' :=
  home_blk h.blk h.ok h.few.1 h.few.2 key hl
end
/-- What a look tells. -/
def optInt (o : Option Nat) : Int := match o with | none => -1 | some p => p
def LookPost (r : Row) (S : List (Option (List UInt8))) (T : List Nat) (key : List UInt8) (w : World) (e : Ending) (w' : World) : Prop :=
  ∃ d o, d < T.length ∧ Probe.Ends S T key ((homeOf r T.length key + d) % T.length) o ∧ (∀ (e : Nat), e < d → T[(homeOf r T.length key + e) % T.length]? ≠ some 0) ∧
    e = .returned (.tuple #[.int .i64 ((homeOf r T.length key + d) % T.length : Nat), .int .i64 (optInt o)]) ∧ Mod [] w w'
section
variable {w : World} {x g b1 b2 b3 t : Nat} {r : Row} {S : List (Option (List UInt8))} {fl : List Nat} {bs : List UInt8} {nx : List Int} {T : List Nat}
theorem keyOf_some {S : List (Option (List UInt8))} {q : Nat} {k : List UInt8} (h : S[q]? = some (some k)) : Keys.keyOf S (q : Int) = some k := by
  unfold Keys.keyOf; rw [if_pos (by omega), Int.toNat_natCast, h]; rfl
set_option maxRecDepth 4000 in
set_option maxHeartbeats 1600000 in
theorem look_any (h : Idx w x g b1 b2 b3 t r S fl bs nx T) (key : List UInt8) (hl : key.length ≤ 1000000) :
    Calls Try.prog 36 #[.pointer (some ⟨x, 0, none⟩), .string ⟨key.toArray⟩] w (LookPost r S T key w) := by
  obtain ⟨hf1, hf2⟩ := h.few
  obtain ⟨d0, o, hd0, hend, hway⟩ := h.ix.look key
  have HM := Lib.hid (home_any h key hl)
  have KI := Lib.hid (fun (W : World) (hM : Mod [] w W) (q : Int) => is_any (h.sto.mod hM (by simp)) q key)
  have HB := Lib.hid h.blk
  have HT := Lib.hid h.tab
  have hlen := h.ix.len
  have hfew := h.sto.few
  have hh0 : homeOf r T.length key < T.length := place_lt (r.of_lt key) hf2
  unfold LookPost
  generalize hh : homeOf r T.length key = hm at *
  have HE := Lib.hid hend
  have HW := Lib.hid hway
  clear h hend hway hh
  obtain ⟨N, hN⟩ : ∃ N, T.length = N := ⟨_, rfl⟩
  rw [hN] at hf1 hf2 hd0 hh0 HB hlen ⊢
  have HE2 : Hid (Probe.Ends S T key ((hm + d0) % N) o) := by rw [← hN]; exact HE
  have HW2 : Hid (∀ (e : Nat), e < d0 → ∃ q k, T[(hm + e) % N]? = some (q + 1) ∧ S[q]? = some (some k) ∧ k ≠ key) := by rw [← hN]; exact HW
  have hNd := Lib.hid hN
  have hSN : S.length < N := by omega
  clear HE HW hN hlen
  obtain ⟨tg, htg⟩ : ∃ tg, (hm + d0) % N = tg := ⟨_, rfl⟩
  have HTG := Lib.hid htg
  clear htg
  go_enter Try.func36, Try.ntmps36
  go_wp2_with fail
  refine HM.out.mono ?_
  rintro e1 w1 ⟨rfl, hM1⟩
  have M1 := Lib.hid hM1
  clear hM1
  go_wp2_with fail
  go_loopw [6] (fun i wr => ∃ (d : Nat), d ≤ d0 ∧ i = .int .i64 (((hm + d) % N : Nat) : Int) ∧ Mod [] w wr) (fun i _ => (tg + N - (intOf i).toNat) % N)
  case atStart => exact ⟨0, Nat.zero_le _, by rw [Nat.add_zero, Nat.mod_eq_of_lt hh0], M1.out⟩
  case round =>
    obtain ⟨d, hd, rfl, hM⟩ := hrel
    have MR := Lib.hid hM
    have c0 := (hM.blk HB.out (by simp)).cell (i := 0) rfl
    have c4 := (hM.blk HB.out (by simp)).cell (i := 4) rfl
    have TB := hM.blk HT.out (by simp)
    have hil : (hm + d) % N < N := Nat.mod_lt _ (by omega)
    obtain ⟨i, hi⟩ : ∃ i, (hm + d) % N = i := ⟨_, rfl⟩
    have hdd : (tg + N - i) % N = d0 - d := by rw [← HTG.out, ← hi]; exact dist_down hd hd0
    have hnx : ((i : Int) + 1).tmod N = (((hm + (d + 1)) % N : Nat) : Int) := by
      rw [Int.tmod_eq_emod_of_nonneg (by omega), ← step_mod, hi]; simp
    obtain ⟨i2, hi2⟩ : ∃ i2, (hm + (d + 1)) % N = i2 := ⟨_, rfl⟩
    rw [hi2] at hnx
    have HI2 := Lib.hid hi2
    rw [hi] at hil ⊢
    have HI := Lib.hid hi
    have HDD := Lib.hid hdd
    clear hM hi hdd hi2
    by_cases hlt : d < d0
    · obtain ⟨q, k, h1, h2, h3⟩ := HW2.out d hlt
      rw [HI.out] at h1
      have hq : q < S.length := (List.getElem?_eq_some_iff.1 h2).1
      have ci : wr.cell? ⟨t, i, none⟩ = some (.int .i32 ((q : Int) + 1)) := by have := TB.cell (tbl_get h1); rw [this]; simp
      have KK := Lib.hid (fun (W : World) (hM : Mod [] w W) => KI.out W hM q)
      have hk : decide (Keys.keyOf S (q : Int) = some key) = false := by rw [keyOf_some h2]; simp; exact h3
      rw [hk] at KK
      have hdn : (tg + N - i2) % N = d0 - (d + 1) := by rw [← HTG.out, ← HI2.out]; exact dist_down (by omega) hd0
      have HDN := Lib.hid hdn
      clear h1 h2 h3 hk TB KI HW2 HE2 hdn
      go_wp2_with fail
      refine (KK.out _ MR.out).mono ?_
      rintro e2 w2 ⟨rfl, hM2⟩
      have M2 := Lib.hid (MR.out.trans hM2)
      have c4' := (M2.out.blk HB.out (by simp)).cell (i := 4) rfl
      clear hM2
      go_wp2_with fail
      go_roundw
      case rel => exact ⟨d + 1, by omega, by rw [HI2.out], M2.out⟩
      case measure =>
        have a1 := HDD.out
        have a2 := HDN.out
        simp only [intOf, Int.toNat_natCast]
        rw [a1, a2]
        omega
    · obtain rfl : d = d0 := by omega
      have hE := HE2.out
      rw [HTG.out] at hE
      obtain rfl : i = tg := by rw [← HI.out, HTG.out]
      cases hE with
      | there p h1 h2 =>
        have hq : p < S.length := (List.getElem?_eq_some_iff.1 h2).1
        have ci : wr.cell? ⟨t, i, none⟩ = some (.int .i32 ((p : Int) + 1)) := by have := TB.cell (tbl_get h1); rw [this]; simp
        have KK := Lib.hid (fun (W : World) (hM : Mod [] w W) => KI.out W hM p)
        have hk : decide (Keys.keyOf S (p : Int) = some key) = true := by rw [keyOf_some h2]; simp
        rw [hk] at KK
        have E2 := Lib.hid (Probe.Ends.there (key := key) p h1 h2)
        have HW3 := Lib.hid (show ∀ (e : Nat), e < d → T[(hm + e) % T.length]? ≠ some 0 from fun e he => by obtain ⟨q, k, a, _⟩ := HW2.out e he; rw [hNd.out, a]; simp)
        clear h1 h2 hk TB KI HW2 HE2
        go_wp2_with fail
        refine (KK.out _ MR.out).mono ?_
        rintro e2 w2 ⟨rfl, hM2⟩
        go_wp2_with fail
        go_ret2
        refine ⟨d, some p, by omega, ?_, ?_, ?_, MR.out.trans hM2⟩
        · rw [HI.out]; exact E2.out
        · have := HW3.out; rw [hNd.out] at this; exact this
        · rw [HI.out]; rfl
      | free h1 h2 =>
        have ci : wr.cell? ⟨t, i, none⟩ = some (.int .i32 0) := by have := TB.cell (tbl_get h1); rw [this]; simp
        have E2 := Lib.hid (Probe.Ends.free (key := key) h1 h2)
        have HW3 := Lib.hid (show ∀ (e : Nat), e < d → T[(hm + e) % T.length]? ≠ some 0 from fun e he => by obtain ⟨q, k, a, _⟩ := HW2.out e he; rw [hNd.out, a]; simp)
        clear h1 h2 TB KI HW2 HE2
        go_wp2_with fail
        go_ret2
        refine ⟨d, none, by omega, ?_, ?_, ?_, MR.out⟩
        · rw [HI.out]; exact E2.out
        · have := HW3.out; rw [hNd.out] at this; exact this
        · rw [HI.out]; rfl
end
end Go.Proofs.Ytajadfoannmaiaa.Index
