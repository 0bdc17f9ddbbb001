/- script's laws: ScriptClocks: the time goes on by twelve bits, shifted by twice what the four above say. No condition. -/
import Derived.Test.YtmiagiemagdnfaaScript4
namespace Go.Proofs.Ytmiagiemagdnfaa.Script
open Go Go.RowKit Go.YtmiagiemagdnfaaMem Go.YtmiagiemagdnfaaLex Go.Proofs.Ytmiagiemagdnfaa.Frame
set_option linter.unusedVariables false
set_option linter.unusedSimpArgs false

/-- Three bytes of a time. -/
def tri (x : Nat) : List UInt8 := [0, UInt8.ofNat (x / 256), UInt8.ofNat x]
def triAll (xs : List Nat) : List UInt8 := xs.flatMap tri
theorem triAll_length (xs : List Nat) : (triAll xs).length = 3 * xs.length := by
  induction xs with
  | nil => rfl
  | cons x xs ih => show (tri x ++ triAll xs).length = _; rw [List.length_append, ih, List.length_cons]; show 3 + _ = _; omega
theorem triAll_snoc (xs : List Nat) (x : Nat) : triAll (xs ++ [x]) = triAll xs ++ tri x := by simp [triAll]
def clk : List Nat → Nat → List Act
  | [], _ => []
  | x :: xs, c => ⟨0, c + later x, 0, [], 0, []⟩ :: clk xs (c + later x)
theorem clk_length : ∀ (xs : List Nat) (c : Nat), (clk xs c).length = xs.length
  | [], _ => rfl
  | x :: xs, c => by simp [clk, clk_length xs]
def cs (xs : List Nat) (j : Nat) : Nat := ((xs.take j).map later).sum
theorem cs_succ {xs : List Nat} {j x : Nat} (h : xs[j]? = some x) : cs xs (j + 1) = cs xs j + later x := by
  unfold cs; rw [List.take_add_one, h]; simp
theorem clk_get : ∀ (xs : List Nat) (c j : Nat), j < xs.length → (clk xs c)[j]? = some ⟨0, c + cs xs (j + 1), 0, [], 0, []⟩
  | [], _, _, h => by simp at h
  | x :: xs, c, 0, _ => by simp [clk, cs]
  | x :: xs, c, j + 1, h => by
    have := clk_get xs (c + later x) j (by simpa using h)
    show (clk xs (c + later x))[j]? = _
    rw [this]
    congr 2
    simp [cs]; omega
theorem dec_tri : ∀ (xs : List Nat) (pre : List UInt8) (f c : Nat), (∀ x, x ∈ xs → x < 65536) → xs.length ≤ f → decF f (pre ++ triAll xs) pre.length c = clk xs c
  | [], pre, f, c, _, _ => by
    have : pre ++ triAll [] = pre := by simp [triAll]
    rw [this, decF_end]; rfl
  | x :: xs, pre, 0, c, _, h => by simp at h
  | x :: xs, pre, f + 1, c, hx, h => by
    have hx0 := hx x (by simp)
    have e : pre ++ triAll (x :: xs) = pre ++ (tri x ++ triAll xs) := rfl
    have hlen : (pre ++ (tri x ++ triAll xs)).length = pre.length + (3 + (triAll xs).length) := by rw [List.length_append, List.length_append]; rfl
    have hs : step (pre ++ (tri x ++ triAll xs)) pre.length c = (⟨0, c + later x, 0, [], 0, []⟩, pre.length + 3, c + later x) := by
      have m1 : min (pre.length + 1) (pre ++ (tri x ++ triAll xs)).length = pre.length + 1 := by rw [hlen]; omega
      have m3 : min (pre.length + 1 + 2) (pre ++ (tri x ++ triAll xs)).length = pre.length + 3 := by rw [hlen]; omega
      have e1 : rdN 1 ((pre ++ (tri x ++ triAll xs)).drop pre.length) = 0 := by rw [List.drop_left]; simp [rdN, tri]
      have e2 : rdN 2 ((pre ++ (tri x ++ triAll xs)).drop (pre.length + 1)) = x := by
        rw [← List.drop_drop, List.drop_left]
        simp only [tri, List.cons_append, List.nil_append, List.drop_succ_cons, List.drop_zero, rdN, List.getD_cons_zero, List.getD_cons_succ, UInt8.toNat_ofNat']
        omega
      unfold step
      simp only [m1, m3, e1, e2]
      rfl
    rw [e]
    show (if pre.length < (pre ++ (tri x ++ triAll xs)).length then _ else _) = _
    rw [if_pos (by rw [hlen]; omega), hs]
    show _ :: decF f (pre ++ (tri x ++ triAll xs)) (pre.length + 3) (c + later x) = _
    have ih := dec_tri xs (pre ++ tri x) f (c + later x) (fun y hy => hx y (by simp [hy])) (by simp at h; omega)
    rw [List.append_assoc, List.length_append] at ih
    rw [show pre.length + 3 = pre.length + (tri x).length from rfl, ih]; rfl
theorem and_u16 (x : Nat) (h : x < 65536) : bits .and .u16 (x : Int) 4095 = ((x % 4096 : Nat) : Int) := by
  have h1 : (2 : Int) ^ IntKind.u16.bits = 65536 := by decide
  have h2 : IntKind.u16.signed = false := rfl
  rw [show (4095 : Int) = ((4095 : Nat) : Int) from rfl]
  simp only [bits, BitVec.ofInt_natCast, BitVec.toNat_and, BitVec.toNat_ofNat]
  simp only [show IntKind.u16.bits = 16 from rfl]
  rw [Nat.mod_eq_of_lt (show x < 2 ^ 16 by omega), Nat.mod_eq_of_lt (show 4095 < 2 ^ 16 by omega), show 4095 = 2 ^ 12 - 1 from rfl, Nat.and_two_pow_sub_one_eq_mod]
  unfold IntKind.wrap
  simp only [h1, h2, Bool.false_and, Bool.false_eq_true, if_false]
  omega
def v16 (xs : List Nat) : List Value := xs.map fun (x : Nat) => .int .u16 (x : Int)
theorem v16_length (xs : List Nat) : (v16 xs).length = xs.length := by simp [v16]
theorem v16_get {xs : List Nat} {i x : Nat} (h : xs[i]? = some x) : (v16 xs)[i]? = some (.int .u16 (x : Int)) := by simp [v16, h]
theorem vb_tri (x : Nat) : vb (tri x) = [.int .u8 0, .int .u8 ((UInt8.ofNat (x / 256)).toNat : Int), .int .u8 ((UInt8.ofNat x).toNat : Int)] := rfl

set_option maxRecDepth 4000 in
set_option maxHeartbeats 3200000 in
theorem clocks_main (w : World) (v : Value) (xs : List Nat) (hv : Sl w v (v16 xs)) (hx : ∀ x, x ∈ xs → x < 65536) (hl : xs.length ≤ 100) :
    Calls Try.prog 4 #[v] w fun e w' => e = .returned (.bool true) ∧ Mod [] w w' := by
  obtain ⟨a, cp, rfl, hm, hA⟩ := hv.open
  rw [v16_length] at *
  have HA := Lib.hid hA
  have HX := Lib.hid hx
  have d100 : decide ((100 : Int) < xs.length) = false := by simp; omega
  clear hv hA hx
  go_enter Try.func4, Try.ntmps4
  go_wp2_with fail
  refine (fit_any _).mono ?_
  rintro e1 w1 ⟨rfl, hM1⟩
  have M1 := Lib.hid hM1
  clear hM1
  go_wp2_with fail
  go_loopw [3, 17] (fun b i wr => ∃ (k : Nat), k ≤ xs.length ∧ i = .int .i64 k ∧ OwnB wr w.heap.size b (triAll (xs.take k)) ∧ Mod [] w wr) (fun _ i _ => xs.length - (intOf i).toNat)
  case atStart => exact ⟨0, Nat.zero_le _, rfl, own_nil _ _, M1.out⟩
  case round =>
    obtain ⟨k, hk, rfl, hO, hM⟩ := hrel
    have HO := Lib.hid hO
    have MR := Lib.hid hM
    have hs0 := hM.size
    clear hO hM
    by_cases hlt : k < xs.length
    · obtain ⟨x, hxk⟩ : ∃ x, xs[k]? = some x := ⟨_, List.getElem?_eq_getElem hlt⟩
      obtain ⟨b, off, rfl, hb, hc⟩ := HA.out k hlt
      have hx := HX.out x (List.mem_of_getElem? hxk)
      have ck : wr.cell? ⟨b, off + k, none⟩ = some (.int .u16 (x : Int)) := (MR.out.cell hb (by simp)).trans (hc k _ (v16_get hxk))
      have htk : xs.take (k + 1) = xs.take k ++ [x] := by rw [List.take_add_one, hxk]; rfl
      have HTK := Lib.hid htk
      have hlen := triAll_length (xs.take k)
      rw [List.length_take, Nat.min_eq_left hk] at hlen
      have HLN := Lib.hid hlen
      clear hc htk hxk hlen
      have htv : vb (tri x) = [.int .u8 0, .int .u8 ((x : Int) / 256), .int .u8 ((x : Int) % 256)] := by
        rw [vb_tri, UInt8.toNat_ofNat', UInt8.toNat_ofNat', show ((x / 256 % 2 ^ 8 : Nat) : Int) = (x : Int) / 256 by omega, show ((x % 2 ^ 8 : Nat) : Int) = (x : Int) % 256 by omega]
      have HTV := Lib.hid htv
      have HBK := Lib.hid (Blk.new wr [.int .u8 0, .int .u8 ((x : Int) / 256), .int .u8 ((x : Int) % 256)] 5)
      have hb0 := own_block HO.out
      clear htv
      go_wp2_with (at_builtin; go_must (refine app_row (tri x) ⟨wr.heap.size, 0, none⟩ 3 (HO.out.alloc (.cells #[.int .u8 0, .int .u8 ((x : Int) / 256), .int .u8 ((x : Int) % 256)] 5)) rfl _ _ rfl rfl rfl (fun i u hu => by rw [add_eq, Nat.zero_add]; exact HBK.out.cell (by rw [← HTV.out]; exact hu)) (by simp; omega) (by have := HLN.out; have e : (tri x).length = 3 := rfl; omega) ?_; intro v3 w3 ho3 hM3 hat3; have M3 := Lib.hid ((MR.out.alloc (.cells #[.int .u8 0, .int .u8 ((x : Int) / 256), .int .u8 ((x : Int) % 256)] 5)).trans' hM3 (fun x hx => by have := hb0 x (by simpa using hx); omega)); have O3 := Lib.hid ho3; clear hM3 ho3 hat3))
      go_wp2_with fail
      go_roundw
      case rel => exact ⟨k + 1, by omega, by go_num, by rw [HTK.out, triAll_snoc]; exact O3.out, M3.out⟩
      case measure => simp [intOf]; omega
    · obtain rfl : k = xs.length := by omega
      have hO := HO.out
      rw [List.take_length] at hO
      have hlen := triAll_length xs
      have hsl := Sl.own hO
      have hdec := dec_tri xs [] (triAll xs).length 0 HX.out (by omega)
      simp only [List.nil_append, List.length_nil] at hdec
      have HD := Lib.hid hdec
      have HSL := Lib.hid hsl
      have HLN := Lib.hid hlen
      clear hO hlen hsl hdec
      go_wp2_with fail
      refine (decode_any HSL.out (by have := HLN.out; omega)).mono ?_
      rintro e2 w2 ⟨v2, c, l, av, g, rfl, hg, hO, hav, hS, hll, hM2⟩
      have hl' := steps_eq hS hll
      rw [HD.out] at hl'
      have hlen : l.length = xs.length := by rw [hl', clk_length]
      have hlav : av.length = xs.length := by rw [← hlen, ← hav, List.length_map]
      obtain ⟨a2, c2, rfl⟩ := own_slice hO.1
      rw [hlav] at hO ⊢
      have O2 := Lib.hid hO
      have HAV := Lib.hid hav
      have HL := Lib.hid hl'
      have M2 := Lib.hid (MR.out.trans hM2)
      have HLEN := Lib.hid hlen
      clear hO hav hS hll hM2 hl' hlen hlav hg
      go_wp2_with fail
      go_loopw [4, 39] (fun y i wx => ∃ (j : Nat), j ≤ xs.length ∧ i = .int .i64 j ∧ y = .int .i64 (cs xs j : Nat) ∧ cs xs j ≤ j * 4398046511104 ∧ Mod [] w wx ∧ Mod [] w2 wx) (fun _ i _ => xs.length - (intOf i).toNat)
      case atStart => exact ⟨0, Nat.zero_le _, rfl, rfl, by simp [cs], M2.out, Mod.refl _ _⟩
      case round =>
        obtain ⟨j, hj, rfl, rfl, hcs, hM, hN⟩ := hrel
        have MX := Lib.hid hM
        have NX := Lib.hid hN
        clear hM hN
        by_cases hlt2 : j < xs.length
        · obtain ⟨x, hxj⟩ : ∃ x, xs[j]? = some x := ⟨_, List.getElem?_eq_getElem hlt2⟩
          obtain ⟨b, off, rfl, hb, hc⟩ := HA.out j hlt2
          have hx := HX.out x (List.mem_of_getElem? hxj)
          have ck := (MX.out.cell hb (by simp)).trans (hc j _ (v16_get hxj))
          obtain ⟨g1, cap, xx, yy, p, p', he, hg1, hc1, hc2, c0, c1, c2', c3, c4, c5⟩ := O2.out.one HAV.out (i := j) (a := ⟨0, 0 + cs xs (j + 1), 0, [], 0, []⟩) (by rw [HL.out]; exact clk_get xs 0 j hlt2)
          rw [HLEN.out] at he
          injection he with he1 he2 he3
          subst he1 he3
          have k0 := (NX.out.cell hg1 (by simp)).trans c0
          have k1 := (NX.out.cell hg1 (by simp)).trans c1
          have k2 := (NX.out.cell hg1 (by simp)).trans c2'
          have hcs1 := cs_succ hxj
          simp only [Nat.zero_add] at k0 k1 k2
          rw [hcs1] at k1
          have HCS := Lib.hid hcs1
          have had := and_u16 x hx
          have hzl : later x < 4398046511104 := later_lt x hx
          have hzw : ((x : Int) % 4096 * 2 ^ (2 * (x / 4096))) = ((later x : Nat) : Int) := by
            show _ = (((x % 4096) * 2 ^ (2 * (x / 4096)) : Nat) : Int); rw [Int.natCast_mul, Int.natCast_pow, Int.natCast_emod]; rfl
          have hcs2 : cs xs j ≤ 439804651110400 := by omega
          generalize hzz : later x = z at *
          generalize hcc : cs xs j = cc at *
          clear hc hxj c0 c1 c2' c3 c4 c5 he2 hcs1 hzz
          go_wp2_with fail
          exact ⟨⟨j + 1, by omega, by go_num, by rw [HCS.out]; simp, by rw [HCS.out]; omega, MX.out, NX.out⟩, by simp [intOf]; omega⟩
        · obtain rfl : j = xs.length := by omega
          go_wp2_with fail
          go_ret
          exact ⟨rfl, MX.out⟩

set_option maxRecDepth 4000 in
theorem clocks_walk (w : World) (v : Value) (zs : List Int) (hv : Sl w v (zs.map (Value.int .u16))) (hw : ∀ n ∈ zs, (Lit.int .u16 n).wf = true) :
    Calls Try.prog 4 #[v] w fun e w' => e = .returned (.bool true) ∧ Mod [] w w' := by
  have hr : ∀ n ∈ zs, 0 ≤ n ∧ n ≤ 65535 := fun n hn => by simpa [Lit.wf, IntKind.min, IntKind.max, IntKind.signed, IntKind.bits] using hw n hn
  have e : zs.map (Value.int .u16) = v16 (zs.map Int.toNat) := by
    unfold v16
    rw [List.map_map]
    apply List.map_congr_left
    intro n hn
    have := (hr n hn).1
    show Value.int .u16 n = Value.int .u16 ((n.toNat : Nat) : Int)
    rw [Int.toNat_of_nonneg this]
  rw [e] at hv
  by_cases hl : (zs.map Int.toNat).length ≤ 100
  · exact clocks_main w v _ hv (fun x hx => by obtain ⟨n, hn, rfl⟩ := List.mem_map.1 hx; have := hr n hn; omega) hl
  · obtain ⟨a, cp, rfl, hm, _⟩ := hv.open
    rw [v16_length] at *
    generalize zs.map Int.toNat = xs at *
    have d100 : decide ((100 : Int) < xs.length) = true := by simp; omega
    clear hv e hr hw
    go_enter Try.func4, Try.ntmps4
    go_wp2_with fail
    refine (fit_any _).mono ?_
    rintro e1 w1 ⟨rfl, hM1⟩
    have M1 := Lib.hid hM1
    clear hM1
    go_wp2_with fail
    go_ret
    exact ⟨rfl, M1.out⟩
end Go.Proofs.Ytmiagiemagdnfaa.Script
