/- script.Encode: the bytes of acts that may be written. -/
import Derived.Test.YtmiagiemagdnfaaActs3
namespace Go.Proofs.Ytmiagiemagdnfaa.Script
open Go Go.RowKit Go.YtmiagiemagdnfaaMem Go.YtmiagiemagdnfaaLex Go.Proofs.Ytmiagiemagdnfaa.Frame
set_option linter.unusedVariables false
set_option linter.unusedSimpArgs false

def encTail (a : Act) : List UInt8 :=
  if a.kind = 2 then UInt8.ofNat a.data.length :: a.data
  else if a.kind = 3 then [UInt8.ofNat a.n]
  else if a.kind = 4 then UInt8.ofNat a.seeds.length :: a.seeds.flatMap (be 8)
  else []
def enc1 (c : Nat) (a : Act) : List UInt8 := [UInt8.ofNat (a.kind + 5 * a.conn), UInt8.ofNat ((a.clock - c) / 256), UInt8.ofNat (a.clock - c)] ++ encTail a
def enc : Nat → List Act → List UInt8
  | _, [] => []
  | c, a :: l => enc1 c a ++ enc a.clock l
/-- Acts that may be written. -/
structure Ok (c : Nat) (a : Act) : Prop where
  kind : a.kind < 5
  conn : a.conn < 16
  low : c ≤ a.clock
  high : a.clock < c + 4096
  n : a.n < 256
  data : a.data.length < 256
  seeds : a.seeds.length ≤ 3
  big : ∀ s, s ∈ a.seeds → s < 18446744073709551616
def Oks : Nat → List Act → Prop
  | _, [] => True
  | c, a :: l => Ok c a ∧ Oks a.clock l

theorem tail_length (c : Nat) (a : Act) (h : Ok c a) : (encTail a).length ≤ 256 := by
  unfold encTail
  have h1 := h.data
  have h2 := h.seeds
  have h3 : ∀ l : List Nat, (l.flatMap (be 8)).length = 8 * l.length := fun l => by
    induction l with
    | nil => rfl
    | cons x l ih => simp [List.flatMap_cons, be_length, ih]; omega
  split
  · simp; omega
  · split
    · simp
    · split
      · simp only [List.length_cons, h3]; omega
      · simp
theorem Sl.cellAt {w : World} {ad : Addr} {n p : Nat} {xs : List Value} (h : Sl w (.slice (some ad) n p) xs) : ∀ j u, xs[j]? = some u → w.cell? (ad.add j) = some u := by
  rcases h with ⟨rfl, a, c, e⟩ | ⟨b, off, cap, e, h1, h2, h3, h4⟩
  · intro j u hu; simp at hu
  · injection e with e1 e2 e3
    injection e1 with e1
    subst e1
    intro j u hu; rw [add_eq]; exact h4 j u hu
theorem Sl.noneNil {w : World} {n p : Nat} {xs : List Value} (h : Sl w (.slice none n p) xs) : xs = [] := by
  rcases h with ⟨rfl, a, c, e⟩ | ⟨b, off, cap, e, h1, h2, h3, h4⟩
  · rfl
  · cases e
theorem Sl.atA {w : World} {y : Option Addr} {n p k : Nat} {xs : List Value} {u : Value} (h : Sl w (.slice y n p) xs) (hk : xs[k]? = some u) : ∃ b off, y = some ⟨b, off, none⟩ ∧ b < w.heap.size ∧ w.cell? ⟨b, off + k, none⟩ = some u := by
  rcases h with ⟨rfl, a, c, e⟩ | ⟨b, off, cap, e, h1, h2, h3, h4⟩
  · simp at hk
  · injection e with e1 e2 e3
    exact ⟨b, off, e1, h3, h4 k u hk⟩
theorem flat8 (l : List Nat) : (l.flatMap (be 8)).length = 8 * l.length := by
  induction l with
  | nil => rfl
  | cons x l ih => simp [List.flatMap_cons, be_length, ih]; omega
theorem own_cap {w : World} {B : Nat} {e : TypeId} {a : Option Addr} {n m c : Nat} {xs : List Value} (h : w.ownsRow B e 1 (.slice a n c) m xs) : n ≤ c := by
  rcases h.2 with ⟨e1, h0⟩ | ⟨g, cap, cur, e1, h1, h2, h3, h4, h5, h6⟩
  · injection e1 with _ e2 e3; omega
  · injection e1 with _ e2 e3; omega
theorem run_zero (w : World) (a : Option Addr) (L c p : Nat) (ty : TypeId) (hc : L ≤ c) : (Builtin.append_ #[22, 22] ty #[.slice a L c, .slice none 0 p]).run Try.prog w = .ok (.slice a L c) w := by
  obtain ⟨i, hi, _⟩ := u8_info
  cases a <;> simp [Builtin.append_, run_underlying Try.underlying22, run_underlying Try.underlying5, sizeOf, typeInfo, hi, Builtin.lenOf, Builtin.firstCells, hc, storeCells]
theorem app_zero {ops : Array Oper} {rest : List Oper} {o : Oper} {act : Go.Act} {Q : Exit → Go.Act → World → Prop} {w : World} (a : Option Addr) (L c p : Nat) (hc : L ≤ c) (hgd : o.guard = none) (s x : Operand) (ho : o.op = .call { callee := .builtin .append, args := #[s, x], argTypes := #[22, 22] })
    (hs : act.eval s = .slice a L c) (hx : act.eval x = .slice none 0 p) (h : wpList Try.prog ops Q rest (act.put o.dst (.slice a L c)) w) : wpList Try.prog ops Q (o :: rest) act w := by
  refine wpList_plain hgd fun K hK' => ?_
  have hrun := run_zero w a L c p o.type hc
  unfold Oper.wp
  simp [execOp, ho, resolve, invoke, builtin, hs, hx, hrun, Result.andThen]
  exact hK' _ _ h
def EncPost (l : List Act) (w : World) (e : Ending) (w' : World) : Prop := ∃ v', e = .returned v' ∧ OwnB w' w.heap.size v' (enc 0 l) ∧ Mod [] w w'

set_option maxRecDepth 4000 in
set_option maxHeartbeats 3200000 in
theorem encode_any {w : World} {v : Value} {l : List Act} (h : VA w v (l.map Act.raw)) (hl : l.length ≤ 100) (hok : Oks 0 l) :
    Calls Try.prog 12 #[v] w (EncPost l w) := by
  obtain ⟨a, c, rfl, hm, hx⟩ := h
  have HX := Lib.hid hx
  have HOK := Lib.hid hok
  rw [List.length_map]
  clear hx hok hm
  go_enter Try.func12, Try.ntmps12
  go_wp2_with fail
  go_loopw [3, 4, 13] (fun x y i wr => ∃ (j cN : Nat) (pre : List UInt8), j ≤ l.length ∧ y = .int .i64 cN ∧ i = .int .i64 j ∧ cN ≤ j * 4096 ∧ pre.length ≤ j * 300 ∧ pre ++ enc cN (l.drop j) = enc 0 l ∧ Oks cN (l.drop j) ∧ OwnB wr w.heap.size x pre ∧ Mod [] w wr) (fun _ _ i _ => l.length - (intOf i).toNat)
  case atStart => exact ⟨0, 0, [], Nat.zero_le _, rfl, rfl, Nat.le_refl _, Nat.le_refl _, rfl, HOK.out, own_nil _ _, Mod.refl _ _⟩
  case round =>
    obtain ⟨j, cN, pre, hj, rfl, rfl, hcN, hpl, hpe, hoks, hO, hM⟩ := hrel
    have HO := Lib.hid hO
    have HP := Lib.hid hpe
    have HK := Lib.hid hoks
    have MR := Lib.hid hM
    have hsz := hM.size
    have hrow : ∀ b, u3.ownBlock = some b → w.heap.size ≤ b ∧ b < wr.heap.size := fun b hb => hO.lt b hb
    have HR := Lib.hid hrow
    clear hO hpe hM hrow hoks
    by_cases hlt : j < l.length
    · obtain ⟨q, hq⟩ : ∃ q, l[j]? = some q := ⟨_, List.getElem?_eq_getElem hlt⟩
      obtain ⟨b, off, x, y, p, p', rfl, hat⟩ := HX.out j q.raw (by rw [List.getElem?_map, hq]; rfl)
      have hsd := hat.sd
      have hss := hat.ss
      obtain ⟨hb, c0, c1, c2, c3, c4, c5, _, _⟩ := hat.mod MR.out
      have hdrop : l.drop j = q :: l.drop (j + 1) := by rw [List.drop_eq_getElem_cons hlt]; congr 1; rw [List.getElem?_eq_getElem hlt] at hq; injection hq
      have hk := HK.out
      rw [hdrop] at hk
      obtain ⟨hok, hoks⟩ := hk
      have HTL := Lib.hid (tail_length _ _ hok)
      obtain ⟨k1, k2, k3, k4, k5, k6, k7, k8⟩ := hok
      have HK8 := Lib.hid k8
      have HKS := Lib.hid hoks
      have HQ := Lib.hid hdrop
      obtain ⟨dN, hdN⟩ : ∃ dN, q.clock = cN + dN := ⟨q.clock - cN, by omega⟩
      have hen : enc1 cN q = [UInt8.ofNat (q.kind + 5 * q.conn), UInt8.ofNat (dN / 256), UInt8.ofNat dN] ++ encTail q := by unfold enc1; rw [show q.clock - cN = dN by omega]
      have HEN := Lib.hid hen
      clear hq hat hdrop k8 hoks hen HX
      obtain ⟨kind, clock, conn, data, n, seeds⟩ := q
      simp only [Act.raw] at hsd hss c0 c1 c2 c3 c4 c5 k1 k2 k3 k4 k5 k6 k7 hdN
      have HSD := Lib.hid hsd
      have HSS := Lib.hid hss
      clear hsd hss
      have hd4 : dN < 4096 := by omega
      have hdd : (clock : Int) - cN = (dN : Int) := by omega
      clear hdN
      obtain ⟨hd, hhd⟩ : ∃ hd : List UInt8, hd = [UInt8.ofNat (kind + 5 * conn), UInt8.ofNat (dN / 256), UInt8.ofNat dN] := ⟨_, rfl⟩
      have hhl : hd.length = 3 := by rw [hhd]; rfl
      have hvb : vb hd = [.int .u8 ((kind : Int) + 5 * conn), .int .u8 ((dN : Int) / 256), .int .u8 ((dN : Int) % 256)] := by
        rw [hhd]
        show [Value.int .u8 ((UInt8.ofNat (kind + 5 * conn)).toNat : Int), Value.int .u8 ((UInt8.ofNat (dN / 256)).toNat : Int), Value.int .u8 ((UInt8.ofNat dN).toNat : Int)] = _
        rw [UInt8.toNat_ofNat', UInt8.toNat_ofNat', UInt8.toNat_ofNat', show (((kind + 5 * conn) % 2 ^ 8 : Nat) : Int) = (kind : Int) + 5 * conn by omega, show ((dN / 256 % 2 ^ 8 : Nat) : Int) = (dN : Int) / 256 by omega, show ((dN % 2 ^ 8 : Nat) : Int) = (dN : Int) % 256 by omega]
      have HHD := Lib.hid hhd
      have HVB := Lib.hid hvb
      have HHL := Lib.hid hhl
      have HB3 := Lib.hid (Blk.new (wr.alloc (.cells #[.int .i64 (kind : Int), .int .i64 (clock : Int), .int .i64 (conn : Int), .slice x data.length p, .int .i64 (n : Int), .slice y seeds.length p'] 28)) [.int .u8 ((kind : Int) + 5 * conn), .int .u8 ((dN : Int) / 256), .int .u8 ((dN : Int) % 256)] 5)
      have hs1 : (wr.alloc (.cells #[.int .i64 (kind : Int), .int .i64 (clock : Int), .int .i64 (conn : Int), .slice x data.length p, .int .i64 (n : Int), .slice y seeds.length p'] 28)).heap.size = wr.heap.size + 1 := by simp
      rw [hs1] at HB3
      have HBX := Lib.hid ((Blk.new wr [.int .i64 (kind : Int), .int .i64 (clock : Int), .int .i64 (conn : Int), .slice x data.length p, .int .i64 (n : Int), .slice y seeds.length p'] 28).alloc (.cells #[.int .u8 ((kind : Int) + 5 * conn), .int .u8 ((dN : Int) / 256), .int .u8 ((dN : Int) % 256)] 5))
      clear hhd hvb hhl hs1
      have HHE := Lib.hid (show enc1 cN ⟨kind, clock, conn, data, n, seeds⟩ = hd ++ encTail ⟨kind, clock, conn, data, n, seeds⟩ by rw [HEN.out, HHD.out])
      have STEP : Hid (∀ t, pre ++ hd ++ encTail ⟨kind, clock, conn, data, n, seeds⟩ ++ enc clock (l.drop (j + 1)) = t → t = enc 0 l) := Lib.hid (fun t ht => by
        rw [← ht, ← HP.out, HQ.out]
        show _ = pre ++ (enc1 cN ⟨kind, clock, conn, data, n, seeds⟩ ++ enc clock (l.drop (j + 1)))
        rw [HHE.out]; simp only [List.append_assoc])
      have hpl3 : (pre ++ hd).length ≤ j * 300 + 3 := by rw [List.length_append, HHL.out]; omega
      have hTL := HTL.out
      have LEN : Hid ((pre ++ hd ++ encTail ⟨kind, clock, conn, data, n, seeds⟩).length ≤ (j + 1) * 300) := Lib.hid (by rw [List.length_append]; omega)
      clear hTL
      have ek : kind = 2 ∨ kind = 3 ∨ kind = 4 ∨ (kind ≠ 2 ∧ kind ≠ 3 ∧ kind ≠ 4) := by omega
      rcases ek with rfl | rfl | rfl | ⟨n2, n3, n4⟩
      · skip
        have HET : Hid (encTail ⟨2, clock, conn, data, n, seeds⟩ = UInt8.ofNat data.length :: data) := Lib.hid (rfl)
        have HNB : Hid (((data.length : Nat) : Int) = ((UInt8.ofNat data.length).toNat : Int)) := Lib.hid (by rw [UInt8.toNat_ofNat']; omega)
        go_wp2_with (at_builtin; go_must (refine app_row hd ⟨wr.heap.size + 1, 0, none⟩ 3 ((HO.out.alloc (.cells #[.int .i64 ((2 : Nat) : Int), .int .i64 (clock : Int), .int .i64 (conn : Int), .slice x data.length p, .int .i64 (n : Int), .slice y seeds.length p'] 28)).alloc (.cells #[.int .u8 (((2 : Nat) : Int) + 5 * conn), .int .u8 ((dN : Int) / 256), .int .u8 ((dN : Int) % 256)] 5)) rfl _ _ rfl rfl (by rw [HHL.out]; rfl) (fun i u hu => by rw [add_eq, Nat.zero_add]; exact HB3.out.cell (by rw [← HVB.out]; exact hu)) (by simp; omega) (by rw [HHL.out]; omega) ?_; intro v3 w3 ho3 hM3 hat3; have BX := Lib.hid (hM3.blk HBX.out (fun hx => by have := (HR.out _ (by simpa using hx)).2; omega)); have M3 := Lib.hid ((Mod.alloc (Mod.alloc MR.out _) _).trans' hM3 (fun x hx => .inr (HR.out x (by simpa using hx)).1)); have O3 := Lib.hid ho3; have R3 : Hid (∀ b, v3.ownBlock = some b → w.heap.size ≤ b ∧ b ≠ wr.heap.size) := Lib.hid (fun b hb => (hat3 b hb).elim (fun h => by have := HR.out b h; omega) (fun h => by simp at h; omega)); have hs3 : wr.heap.size + 2 ≤ w3.heap.size := (by have := hM3.size; simpa using this); have hwz : w.heap.size ≤ w3.heap.size := (by omega); have x0 := BX.out.cell (i := 0) rfl; have x3 := BX.out.cell (i := 3) rfl; have x4 := BX.out.cell (i := 4) rfl; have x5 := BX.out.cell (i := 5) rfl; clear ho3 hM3 hat3 c0 c1 c2 c3 c4 c5 HO HB3 HBX))
        have isc : IsC w3.drew wr.heap.size := isC_of_cell (w := w3.drew) x3
        have ISC := Lib.hid isc
        clear isc
        refine wp_region_held [7] [8] v3.ownBlock.toList (by kernel_rfl) (by kernel_rfl) ?_
        simp only [wpCut, List.take_succ_cons, List.take_zero, List.drop_succ_cons, List.drop_zero]
        go_wp2_with (at_builtin; go_must (refine app_one (UInt8.ofNat data.length) w3.heap.size data.length (OwnB.alloc O3.out (.cells #[.int .u8 (data.length : Int)] 5)).drew rfl _ _ rfl rfl rfl (by first | exact World.cell?_alloc_at _ _ _ _ rfl | simp) HNB.out (by simp; omega) (by omega) ?_; intro v4 w4 ho4 hM4 hat4; have N4 := Lib.hid ((Mod.alloc (Mod.drew (Mod.refl v3.ownBlock.toList w3)) _).trans hM4); have R4 : Hid (∀ b, v4.ownBlock = some b → w.heap.size ≤ b) := Lib.hid (fun b hb => (hat4 b hb).elim (fun h => (R3.out b h).1) (fun h => by simp at h; omega)); have hwz4 : w.heap.size ≤ w4.heap.size := (by have := hM4.size; simp at this; omega); have y3 := (hM4.blk (((BX.out).alloc _).drew) (fun hx => (R3.out _ (by simpa using hx)).2 rfl)).cell (i := 3) rfl;  have O4 := Lib.hid ho4; have M4 := Lib.hid ((Mod.drew (Mod.alloc M3.out _)).trans' hM4 (fun x hx => .inr (R3.out x (by simpa using hx)).1)); clear ho4 hM4 hat4))
        refine ⟨⟨N4.out.os, N4.out.tape, N4.out.output, N4.out.size, N4.out.block⟩, ?_⟩
        have hnotin : wr.heap.size ∉ v3.ownBlock.toList := fun hx => (R3.out _ (by simpa using hx)).2 rfl
        have HNI := Lib.hid hnotin
        have hlen5 : (pre ++ hd ++ [UInt8.ofNat data.length]).length ≤ j * 300 + 4 := by rw [List.length_append, List.length_singleton]; omega
        clear hnotin x0 x3 x4 x5
        cases x with
        | none =>
          have hnil := Sl.noneNil HSD.out
          obtain rfl : data = [] := List.eq_nil_of_length_eq_zero (by have := congrArg List.length hnil; simpa using this)
          clear hnil
          obtain ⟨a4, c4, hv4⟩ := O4.out.slice
          have hcap := O4.out
          rw [hv4] at hcap
          have hcap := own_cap hcap
          obtain ⟨L4, hL4⟩ : ∃ L4, L4 = (pre ++ hd ++ [UInt8.ofNat ([] : List UInt8).length]).length := ⟨_, rfl⟩
          rw [← hL4] at hv4 hcap
          clear hL4
          subst hv4
          go_wp2_with (at_builtin; go_must (refine app_zero a4 L4 c4 p hcap rfl _ _ rfl rfl rfl ?_))
          refine ⟨by kernel_rfl, ⟨⟨HNI.out, ISC.out⟩, trivial⟩, ?_⟩
          go_wp2_with fail
          exact ⟨⟨j + 1, clock, pre ++ hd ++ [UInt8.ofNat 0], by omega, by go_num, by go_num, by omega, by have := LEN.out; rw [HET.out] at this; exact this, by have := STEP.out _ rfl; rw [HET.out] at this; exact this, HKS.out, O4.out, M4.out⟩, by simp [intOf]; omega⟩
        | some ad =>
          go_wp2_with (at_builtin; go_must (refine app_row data ad p O4.out rfl _ _ rfl rfl rfl (Sl.cellAt (HSD.out.mod M4.out (by simp))) (by omega) (by omega) ?_; intro v5 w5 ho5 hM5 hat5; have O5 := Lib.hid ho5; have M5 := Lib.hid (M4.out.trans' hM5 (fun x hx => .inr (R4.out x (by simpa using hx)))); clear ho5 hM5 hat5))
          refine ⟨by kernel_rfl, ⟨⟨HNI.out, ISC.out⟩, trivial⟩, ?_⟩
          go_wp2_with fail
          exact ⟨⟨j + 1, clock, pre ++ hd ++ [UInt8.ofNat data.length] ++ data, by omega, by go_num, by go_num, by omega, by have := LEN.out; rw [HET.out, ← List.singleton_append, ← List.append_assoc] at this; exact this, by have := STEP.out _ rfl; rw [HET.out, ← List.singleton_append (l := data), ← List.append_assoc] at this; exact this, HKS.out, O5.out, M5.out⟩, by simp [intOf]; omega⟩
      · skip
        have HET : Hid (encTail ⟨3, clock, conn, data, n, seeds⟩ = [UInt8.ofNat n]) := Lib.hid (rfl)
        have HNB : Hid (((n : Nat) : Int) = ((UInt8.ofNat n).toNat : Int)) := Lib.hid (by rw [UInt8.toNat_ofNat']; omega)
        go_wp2_with (at_builtin; first | ((refine app_row hd ⟨wr.heap.size + 1, 0, none⟩ 3 ((HO.out.alloc (.cells #[.int .i64 ((3 : Nat) : Int), .int .i64 (clock : Int), .int .i64 (conn : Int), .slice x data.length p, .int .i64 (n : Int), .slice y seeds.length p'] 28)).alloc (.cells #[.int .u8 (((3 : Nat) : Int) + 5 * conn), .int .u8 ((dN : Int) / 256), .int .u8 ((dN : Int) % 256)] 5)) rfl _ _ rfl rfl (by rw [HHL.out]; rfl) (fun i u hu => by rw [add_eq, Nat.zero_add]; exact HB3.out.cell (by rw [← HVB.out]; exact hu)) (by simp; omega) (by rw [HHL.out]; omega) ?_; intro v3 w3 ho3 hM3 hat3; have BX := Lib.hid (hM3.blk HBX.out (fun hx => by have := (HR.out _ (by simpa using hx)).2; omega)); have M3 := Lib.hid ((Mod.alloc (Mod.alloc MR.out _) _).trans' hM3 (fun x hx => .inr (HR.out x (by simpa using hx)).1)); have O3 := Lib.hid ho3; have R3 : Hid (∀ b, v3.ownBlock = some b → w.heap.size ≤ b ∧ b ≠ wr.heap.size) := Lib.hid (fun b hb => (hat3 b hb).elim (fun h => by have := HR.out b h; omega) (fun h => by simp at h; omega)); have hs3 : wr.heap.size + 2 ≤ w3.heap.size := (by have := hM3.size; simpa using this); have hwz : w.heap.size ≤ w3.heap.size := (by omega); have x0 := BX.out.cell (i := 0) rfl; have x3 := BX.out.cell (i := 3) rfl; have x4 := BX.out.cell (i := 4) rfl; have x5 := BX.out.cell (i := 5) rfl; clear ho3 hM3 hat3 c0 c1 c2 c3 c4 c5 HO HB3 HBX)) | ((refine app_one (UInt8.ofNat n) w3.heap.size n (O3.out.alloc (.cells #[.int .u8 (n : Int)] 5)) rfl _ _ rfl rfl rfl (World.cell?_alloc_at _ _ _ _ rfl) HNB.out (by simp; omega) (by omega) ?_; intro v4 w4 ho4 hM4 hat4; have O4 := Lib.hid ho4; have M4 := Lib.hid ((Mod.alloc M3.out _).trans' hM4 (fun x hx => .inr (R3.out x (by simpa using hx)).1)); clear ho4 hM4 hat4)))
        go_wp2_with fail
        go_roundw
        case rel => exact ⟨j + 1, clock, pre ++ hd ++ [UInt8.ofNat n], by omega, by go_num, by go_num, by omega, by rw [← HET.out]; exact LEN.out, by rw [← HET.out]; exact STEP.out _ rfl, HKS.out, O4.out, M4.out⟩
        case measure => simp [intOf]; omega
      · skip
        have HET : Hid (encTail ⟨4, clock, conn, data, n, seeds⟩ = UInt8.ofNat seeds.length :: seeds.flatMap (be 8)) := Lib.hid rfl
        have HNB : Hid (((seeds.length : Nat) : Int) = ((UInt8.ofNat seeds.length).toNat : Int)) := Lib.hid (by rw [UInt8.toNat_ofNat']; omega)
        go_wp2_with (at_builtin; first | ((refine app_row hd ⟨wr.heap.size + 1, 0, none⟩ 3 ((HO.out.alloc (.cells #[.int .i64 ((4 : Nat) : Int), .int .i64 (clock : Int), .int .i64 (conn : Int), .slice x data.length p, .int .i64 (n : Int), .slice y seeds.length p'] 28)).alloc (.cells #[.int .u8 (((4 : Nat) : Int) + 5 * conn), .int .u8 ((dN : Int) / 256), .int .u8 ((dN : Int) % 256)] 5)) rfl _ _ rfl rfl (by rw [HHL.out]; rfl) (fun i u hu => by rw [add_eq, Nat.zero_add]; exact HB3.out.cell (by rw [← HVB.out]; exact hu)) (by simp; omega) (by rw [HHL.out]; omega) ?_; intro v3 w3 ho3 hM3 hat3; have BX := Lib.hid (hM3.blk HBX.out (fun hx => by have := (HR.out _ (by simpa using hx)).2; omega)); have M3 := Lib.hid ((Mod.alloc (Mod.alloc MR.out _) _).trans' hM3 (fun x hx => .inr (HR.out x (by simpa using hx)).1)); have O3 := Lib.hid ho3; have R3 : Hid (∀ b, v3.ownBlock = some b → w.heap.size ≤ b ∧ b ≠ wr.heap.size) := Lib.hid (fun b hb => (hat3 b hb).elim (fun h => by have := HR.out b h; omega) (fun h => by simp at h; omega)); have hs3 : wr.heap.size + 2 ≤ w3.heap.size := (by have := hM3.size; simpa using this); have hwz : w.heap.size ≤ w3.heap.size := (by omega); have x0 := BX.out.cell (i := 0) rfl; have x3 := BX.out.cell (i := 3) rfl; have x4 := BX.out.cell (i := 4) rfl; have x5 := BX.out.cell (i := 5) rfl; clear ho3 hM3 hat3 c0 c1 c2 c3 c4 c5 HO HB3 HBX)) | ((refine app_one (UInt8.ofNat seeds.length) w3.heap.size seeds.length (O3.out.alloc (.cells #[.int .u8 (seeds.length : Int)] 5)) rfl _ _ rfl rfl rfl (World.cell?_alloc_at _ _ _ _ rfl) HNB.out (by simp; omega) (by omega) ?_; intro v4 w4 ho4 hM4 hat4; have O4 := Lib.hid ho4; have M4 := Lib.hid ((Mod.alloc M3.out _).trans' hM4 (fun x hx => .inr (R3.out x (by simpa using hx)).1)); have hwz4 : w.heap.size ≤ w4.heap.size := (by have := hM4.size; simp at this; omega); have y5 := (hM4.blk ((BX.out).alloc _) (fun hx => (R3.out _ (by simpa using hx)).2 rfl)).cell (i := 5) rfl; clear ho4 hM4 hat4)))
        obtain ⟨pre2, hpre2⟩ : ∃ pre2, pre2 = pre ++ hd ++ [UInt8.ofNat seeds.length] := ⟨_, rfl⟩
        have hlen5 : pre2.length ≤ j * 300 + 4 := by rw [hpre2, List.length_append, List.length_singleton]; omega
        have O5 := O4.out
        rw [← hpre2] at O5
        have HO5 := Lib.hid O5
        have HP2 := Lib.hid hpre2
        clear O5 hpre2 x0 x3 x4 x5
        go_loopw [3, 72] (fun x i wx => ∃ k : Nat, k ≤ seeds.length ∧ i = .int .i64 k ∧ OwnB wx w.heap.size x (pre2 ++ (seeds.take k).flatMap (be 8)) ∧ Mod [] w wx) (fun _ i _ => seeds.length - (intOf i).toNat)
        case atStart => exact ⟨0, Nat.zero_le _, rfl, by rw [List.take_zero, List.flatMap_nil, List.append_nil]; exact HO5.out, M4.out⟩
        case round =>
          obtain ⟨k, hk, rfl, hO6, hM6⟩ := hrel
          have O6 := Lib.hid hO6
          have M6 := Lib.hid hM6
          have hz6 := hM6.size
          clear hO6 hM6
          by_cases hks : k < seeds.length
          · obtain ⟨sv, hsv⟩ : ∃ sv, seeds[k]? = some sv := ⟨_, List.getElem?_eq_getElem hks⟩
            obtain ⟨b5, off5, rfl, hb5, hc5⟩ := Sl.atA HSS.out (vs_get hsv)
            have g5 := (M6.out.cell hb5 (by simp)).trans hc5
            have hbig : sv < 18446744073709551616 := HK8.out sv (List.mem_of_getElem? hsv)
            have htk : seeds.take (k + 1) = seeds.take k ++ [sv] := by rw [List.take_add_one, hsv]; rfl
            have HTK := Lib.hid htk
            obtain ⟨pre3, hpre3⟩ : ∃ pre3, pre3 = pre2 ++ (seeds.take k).flatMap (be 8) := ⟨_, rfl⟩
            have hlen6 : pre3.length ≤ j * 300 + 4 + 8 * k := by rw [hpre3, List.length_append, flat8, List.length_take]; omega
            have O7 := O6.out
            rw [← hpre3] at O7
            have HO7 := Lib.hid O7
            have HP3 := Lib.hid hpre3
            clear hsv hc5 htk O7 hpre3
            go_wp2_with fail
            go_loopw [3, 10] (fun x i wy => ∃ (r : Nat) (z : Int), r ≤ 8 ∧ z = 8 * (r : Int) - 8 ∧ i = .int .i64 z ∧ OwnB wy w.heap.size x (pre3 ++ (be 8 sv).take (8 - r)) ∧ Mod [] w wy) (fun _ i _ => (intOf i + 8).toNat)
            case atStart => exact ⟨8, 56, by omega, by omega, rfl, by rw [Nat.sub_self, List.take_zero, List.append_nil]; exact HO7.out, M6.out⟩
            case round =>
              obtain ⟨r, z, hr, hz, rfl, hO8, hM8⟩ := hrel
              have O8 := Lib.hid hO8
              have M8 := Lib.hid hM8
              have hz8 := hM8.size
              have hrow8 := own_block hO8
              have R8 := Lib.hid hrow8
              clear hO8 hM8 hrow8
              cases r with
              | zero =>
                obtain rfl : z = -8 := by omega
                clear hz
                go_wp2_with fail
                exact ⟨⟨k + 1, by omega, by go_num, by rw [HTK.out, List.flatMap_append, ← List.append_assoc, ← HP3.out]; have := O8.out; rw [show 8 - 0 = 8 by rfl, List.take_of_length_le (by rw [be_length]; exact Nat.le_refl 8)] at this; simpa using this, M8.out⟩, by simp [intOf]; omega⟩
              | succ r =>
                obtain rfl : z = 8 * (r : Int) := by omega
                have hr8 : r < 8 := by omega
                have hby := be_byte sv r
                have HBY := Lib.hid hby
                have hlen8 : (pre3 ++ (be 8 sv).take (8 - (r + 1))).length ≤ j * 300 + 40 := by rw [List.length_append, List.length_take, be_length]; omega
                have htk8 : (be 8 sv).take (8 - r) = (be 8 sv).take (8 - (r + 1)) ++ [UInt8.ofNat (sv / 256 ^ r)] := by
                  have := be_take (k := 8) (x := sv) (j := 8 - (r + 1)) (by omega)
                  rw [show 8 - (r + 1) + 1 = 8 - r by omega, show 8 - 1 - (8 - (r + 1)) = r by omega] at this
                  exact this
                have HT8 := Lib.hid htk8
                clear hz hby htk8
                go_wp2_with (at_builtin; go_must (refine app_one (UInt8.ofNat (sv / 256 ^ r)) wr.heap.size ((sv : Int) / 2 ^ (8 * r) % 256) (O8.out.alloc (.cells #[.int .u8 ((sv : Int) / 2 ^ (8 * r) % 256)] 5)) rfl _ _ rfl rfl rfl (World.cell?_alloc_at _ _ _ _ rfl) HBY.out (by simp; omega) (by omega) ?_; intro v9 w9 ho9 hM9 hat9; have O9 := Lib.hid ho9; have M9 := Lib.hid ((Mod.alloc M8.out _).trans' hM9 (fun x hx => .inr (R8.out x (by simpa using hx)))); clear ho9 hM9 hat9))
                go_wp2_with fail
                exact ⟨⟨r, 8 * (r : Int) - 8, by omega, rfl, by go_num, by rw [HT8.out, ← List.append_assoc]; exact O9.out, M9.out⟩, by simp [intOf]; omega⟩
          · obtain rfl : k = seeds.length := by omega
            have O6' := O6.out
            rw [List.take_length, HP2.out] at O6'
            have HO6 := Lib.hid O6'
            clear O6'
            go_wp2_with fail
            exact ⟨⟨j + 1, clock, pre ++ hd ++ [UInt8.ofNat seeds.length] ++ seeds.flatMap (be 8), by omega, rfl, by go_num, by omega, by have := LEN.out; rw [HET.out, ← List.singleton_append, ← List.append_assoc] at this; exact this, by have := STEP.out _ rfl; rw [HET.out, ← List.singleton_append (l := seeds.flatMap (be 8)), ← List.append_assoc] at this; exact this, HKS.out, HO6.out, M6.out⟩, by simp [intOf]; omega⟩
      · skip
        have d2 : decide ((kind : Int) = 2) = false := by simp; omega
        have d3 : decide ((kind : Int) = 3) = false := by simp; omega
        have d4 : decide ((kind : Int) = 4) = false := by simp; omega
        have HET : Hid (encTail ⟨kind, clock, conn, data, n, seeds⟩ = []) := Lib.hid (by unfold encTail; rw [if_neg n2, if_neg n3, if_neg n4])
        go_wp2_with (at_builtin; go_must (refine app_row hd ⟨wr.heap.size + 1, 0, none⟩ 3 ((HO.out.alloc (.cells #[.int .i64 (kind : Int), .int .i64 (clock : Int), .int .i64 (conn : Int), .slice x data.length p, .int .i64 (n : Int), .slice y seeds.length p'] 28)).alloc (.cells #[.int .u8 ((kind : Int) + 5 * conn), .int .u8 ((dN : Int) / 256), .int .u8 ((dN : Int) % 256)] 5)) rfl _ _ rfl rfl (by rw [HHL.out]; rfl) (fun i u hu => by rw [add_eq, Nat.zero_add]; exact HB3.out.cell (by rw [← HVB.out]; exact hu)) (by simp; omega) (by rw [HHL.out]; omega) ?_; intro v3 w3 ho3 hM3 hat3; have BX := Lib.hid (hM3.blk HBX.out (fun hx => by have := (HR.out _ (by simpa using hx)).2; omega)); have M3 := Lib.hid ((Mod.alloc (Mod.alloc MR.out _) _).trans' hM3 (fun x hx => .inr (HR.out x (by simpa using hx)).1)); have O3 := Lib.hid ho3; have R3 : Hid (∀ b, v3.ownBlock = some b → w.heap.size ≤ b ∧ b ≠ wr.heap.size) := Lib.hid (fun b hb => (hat3 b hb).elim (fun h => by have := HR.out b h; omega) (fun h => by simp at h; omega)); have hs3 : wr.heap.size + 2 ≤ w3.heap.size := (by have := hM3.size; simpa using this); have hwz : w.heap.size ≤ w3.heap.size := (by omega); have x0 := BX.out.cell (i := 0) rfl; have x3 := BX.out.cell (i := 3) rfl; have x4 := BX.out.cell (i := 4) rfl; have x5 := BX.out.cell (i := 5) rfl; clear ho3 hM3 hat3 c0 c1 c2 c3 c4 c5 HO HB3 HBX))
        go_wp2_with fail
        go_roundw
        case rel => exact ⟨j + 1, clock, pre ++ hd, by omega, by go_num, by go_num, by omega, by have := LEN.out; rw [HET.out, List.append_nil] at this; exact this, by have := STEP.out _ rfl; rw [HET.out, List.append_nil] at this; exact this, HKS.out, O3.out, M3.out⟩
        case measure => simp [intOf]; omega
    · obtain rfl : j = l.length := by omega
      go_wp2_with fail
      go_ret
      have h := HP.out
      rw [List.drop_length] at h
      simp only [enc, List.append_nil] at h
      exact ⟨_, rfl, by rw [← h]; exact HO.out, MR.out⟩
end Go.Proofs.Ytmiagiemagdnfaa.Script
