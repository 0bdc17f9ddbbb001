/- script's laws: tame: acts as they may be written. -/
import Derived.Test.YtmiagiemagdnfaaActs
namespace Go.Proofs.Ytmiagiemagdnfaa.Script
open Go Go.RowKit Go.YtmiagiemagdnfaaMem Go.YtmiagiemagdnfaaLex Go.Proofs.Ytmiagiemagdnfaa.Frame
set_option linter.unusedVariables false
set_option linter.unusedSimpArgs false

def kindOf (k : Int) : Nat := ((k.tmod 5 + 5).tmod 5).toNat
theorem kindOf_lt (k : Int) : kindOf k < 5 := by
  unfold kindOf
  have h1 := Int.lt_tmod_of_pos k (show (0 : Int) < 5 by omega)
  have h2 := Int.tmod_lt_of_pos k (show (0 : Int) < 5 by omega)
  rw [Int.tmod_eq_emod_of_nonneg (show 0 ≤ k.tmod 5 + 5 by omega)]
  omega
theorem kindOf_eq (k : Int) : (k.tmod 5 + 5).tmod 5 = (kindOf k : Int) := by
  unfold kindOf
  have h1 := Int.lt_tmod_of_pos k (show (0 : Int) < 5 by omega)
  rw [Int.toNat_of_nonneg]
  rw [Int.tmod_eq_emod_of_nonneg (show 0 ≤ k.tmod 5 + 5 by omega)]
  omega
/-- One act as it may be written, behind the time c. -/
def tm1 (c : Nat) (q : Raw) : Act :=
  let c' := c + (q.clock % 4096).toNat
  let cn := (q.conn % 16).toNat
  if kindOf q.kind = 2 then ⟨2, c', cn, q.data.take 255, 0, []⟩
  else if kindOf q.kind = 3 then ⟨3, c', cn, [], (q.n % 256).toNat, []⟩
  else if kindOf q.kind = 4 then ⟨4, c', cn, [], 0, q.seeds.take 3⟩
  else ⟨kindOf q.kind, c', cn, [], 0, []⟩
def tameL : Nat → List Raw → List Act
  | _, [] => []
  | c, q :: l => tm1 c q :: tameL (c + (q.clock % 4096).toNat) l

theorem Sl.cut {w : World} {x : Option Addr} {n p m : Nat} {xs : List Value} (h : Sl w (.slice x n p) xs) (hm : m ≤ xs.length) (hp : m ≤ p) : Sl w (.slice x m p) (xs.take m) := by
  rcases h with ⟨h0, a, c, e⟩ | ⟨b, off, cap, e, h1, h2, h3, h4⟩
  · subst h0
    obtain rfl : m = 0 := by simpa using hm
    exact .inl ⟨rfl, _, _, rfl⟩
  · injection e with e1 e2 e3
    subst e1 e3
    have hl : (xs.take m).length = m := by rw [List.length_take]; omega
    refine .inr ⟨b, off, p, by rw [hl], by rw [hl]; exact hp, h2, h3, fun i u hu => h4 i u ?_⟩
    have hi : i < m := by have := (List.getElem?_eq_some_iff.1 hu).1; omega
    rw [List.getElem?_take_of_lt hi] at hu; exact hu
theorem Sl.capLe {w : World} {x : Option Addr} {n p : Nat} {xs : List Value} (h : Sl w (.slice x n p) xs) (hn : xs.length = n) (h0 : n ≠ 0) : n ≤ p ∧ p ≤ maxLen ∧ ∃ b off, x = some ⟨b, off, none⟩ := by
  rcases h with ⟨rfl, a, c, e⟩ | ⟨b, off, cap, e, h1, h2, h3, h4⟩
  · simp at hn; omega
  · injection e with e1 e2 e3
    subst e1 e3
    exact ⟨by omega, h2, b, off, rfl⟩

theorem Sl.le {w : World} {x : Option Addr} {n p : Nat} {xs : List Value} (h : Sl w (.slice x n p) xs) (hn : xs.length = n) : n ≤ p := by
  by_cases h0 : n = 0
  · omega
  · exact (Sl.capLe h hn h0).1

/-- Acts of one's own whose slices lie in an older world. -/
def OwnT (w0 w : World) (x : Value) (l : List ActV) : Prop := w.ownsRow w0.heap.size 28 6 x l.length (flat l) ∧ ∀ a, a ∈ l → Sl w0 a.d (vb a.act.data) ∧ Sl w0 a.s (vs a.act.seeds)
section
variable {ops : Array Oper} {rest : List Oper} {o : Oper} {act : Go.Act} {Q : Exit → Go.Act → World → Prop} {w0 w : World} {v : Value} {l : List ActV}
theorem app_tame (q : ActV) (n : Nat) (hown : OwnT w0 w v l) (hgd : o.guard = none) (s x : Operand) (ho : o.op = .call { callee := .builtin .append, args := #[s, x], argTypes := #[24, 24] })
    (hs : act.eval s = v) (hx : act.eval x = .slice (some ⟨n, 0, none⟩) 1 1) (hn : Blk w n 28 q.cells) (hB : w0.heap.size ≤ w.heap.size) (hl : l.length ≤ 900000) (h1 : ∀ u ∈ q.cells, u.oneCell' = true) (hq : Sl w0 q.d (vb q.act.data) ∧ Sl w0 q.s (vs q.act.seeds))
    (h : ∀ v' w', OwnT w0 w' v' (l ++ [q]) → Mod v.ownBlock.toList w w' → wpList Try.prog ops Q rest (act.put o.dst v') w') : wpList Try.prog ops Q (o :: rest) act w := by
  obtain ⟨i0, hi, hz0, hz1, hz2⟩ := act_info
  refine wpList_append_own_at w hgd s x 24 ho w0.heap.size 28 i0 _ 6 80 Try.underlying24 hi hz0 hz1 hz2 rfl (by decide) v l.length (flat l) hs hown.1 ⟨n, 0, none⟩ 1 1 q.cells hx rfl (fun j u hu => by rw [add_eq, Nat.zero_add]; exact hn.cell hu)
    h1 (by unfold maxLen; omega) (by omega) hB fun v' w' h1 h2 _ h4 => h v' w' ?_ (grown_mod (Mod.refl [] w) h2)
  refine ⟨by rw [flat_snoc, List.length_append]; exact h1, fun a ha => ?_⟩
  rcases List.mem_append.1 ha with ha | ha
  · exact hown.2 a ha
  · rw [List.mem_singleton.1 ha]; exact hq
end
theorem OwnT.mod {w0 w w' : World} {x : Value} {l : List ActV} (h : OwnT w0 w x l) (hm : Mod [] w w') : OwnT w0 w' x l := ⟨hm.own h.1 (fun b hb => by simp), h.2⟩
theorem blk2 (w : World) (o : Obj) (cs : List Value) (T : TypeId) : Blk ((w.alloc o).alloc (.cells cs.toArray T)).drew (w.heap.size + 1) T cs := by
  have h := Blk.new (w.alloc o) cs T
  rw [show (w.alloc o).heap.size = w.heap.size + 1 by simp] at h
  exact h
def TamePost (l : List Raw) (w : World) (e : Ending) (w' : World) : Prop := ∃ v', e = .returned v' ∧ VA w' v' ((tameL 0 l).map Act.raw) ∧ Mod [] w w'

set_option maxRecDepth 4000 in
set_option maxHeartbeats 3200000 in
theorem tame_any {w : World} {v : Value} {l : List Raw} (h : VA w v l) (hl : Light l) :
    Calls Try.prog 10 #[v] w (TamePost l w) := by
  obtain ⟨a, c, rfl, hm, hx⟩ := h
  have h100 := hl.1
  have HX := Lib.hid hx
  have HL := Lib.hid hl
  clear hx hl
  go_enter Try.func10, Try.ntmps10
  go_wp2_with fail
  go_loopw [3, 4, 12] (fun x y i wr => ∃ (j cN : Nat) (av : List ActV), j ≤ l.length ∧ y = .int .i64 cN ∧ i = .int .i64 j ∧ cN ≤ j * 4096 ∧ av.length = j ∧ av.map ActV.act ++ tameL cN (l.drop j) = tameL 0 l ∧ OwnT w wr x av ∧ Mod [] w wr) (fun _ _ i _ => l.length - (intOf i).toNat)
  case atStart => exact ⟨0, 0, [], Nat.zero_le _, rfl, rfl, Nat.le_refl _, rfl, rfl, ⟨World.ownsRow_nil w _ _ _, fun a h => by simp at h⟩, Mod.refl _ _⟩
  case round =>
    obtain ⟨j, cN, av, hj, rfl, rfl, hcN, hal, htm, hO, hM⟩ := hrel
    have HO := Lib.hid hO
    have HT := Lib.hid htm
    have MR := Lib.hid hM
    have hsz := hM.size
    obtain ⟨a3, c3, rfl⟩ := own_slice hO.1
    have hrow : ∀ b, (Value.slice a3 av.length c3).ownBlock = some b → w.heap.size ≤ b := fun b hb => own_block hO.1 b hb
    have HR := Lib.hid hrow
    clear hO htm hM hrow
    by_cases hlt : j < l.length
    · obtain ⟨q, hq⟩ : ∃ q, l[j]? = some q := ⟨_, List.getElem?_eq_getElem hlt⟩
      obtain ⟨b, off, x, y, p, p', rfl, hat⟩ := HX.out j q hq
      obtain ⟨hd4, hs10⟩ := HL.out.2 q (List.mem_of_getElem? hq)
      have hsd := hat.sd
      have hss := hat.ss
      have hat := hat.mod MR.out
      obtain ⟨hb, c0, c1, c2, c3, c4, c5, _, _⟩ := hat
      have hdrop : l.drop j = q :: l.drop (j + 1) := by rw [List.drop_eq_getElem_cons hlt]; congr 1; rw [List.getElem?_eq_getElem hlt] at hq; injection hq
      have HQ := Lib.hid hdrop
      clear hq hdrop
      obtain ⟨kind, clock, conn, n, data, seeds⟩ := q
      simp only at c0 c1 c2 c3 c4 c5 hd4 hs10 hsd hss
      have hpd : data.length ≤ p := Sl.le hsd (vb_length _)
      have hps : seeds.length ≤ p' := Sl.le hss (vs_length _)
      obtain ⟨t, ht⟩ : ∃ t : Int, kind.tmod 5 = t := ⟨_, rfl⟩
      have ht1 : -5 < t := by rw [← ht]; exact Int.lt_tmod_of_pos kind (by omega)
      have ht2 : t < 5 := by rw [← ht]; exact Int.tmod_lt_of_pos kind (by omega)
      obtain ⟨kd, hkd⟩ : ∃ kd, kd = kindOf kind := ⟨_, rfl⟩
      have hk5 : kd < 5 := by rw [hkd]; exact kindOf_lt kind
      have hke : (t + 5).tmod 5 = (kd : Int) := by rw [hkd, ← ht]; exact kindOf_eq kind
      obtain ⟨cn, hcn⟩ : ∃ cn, cn = (conn % 16).toNat := ⟨_, rfl⟩
      have and15 : bits .and .i64 conn 15 = (cn : Int) := by rw [hcn]; have := and_mask conn 4 (by decide); rw [show (2 : Int) ^ 4 - 1 = 15 by decide] at this; rw [this]; omega
      obtain ⟨dc, hdc⟩ : ∃ dc, dc = (clock % 4096).toNat := ⟨_, rfl⟩
      have and4095 : bits .and .i64 clock 4095 = (dc : Int) := by rw [hdc]; have := and_mask clock 12 (by decide); rw [show (2 : Int) ^ 12 - 1 = 4095 by decide] at this; rw [this]; omega
      have hdl : dc < 4096 := by omega
      obtain ⟨nn, hnn⟩ : ∃ nn, nn = (n % 256).toNat := ⟨_, rfl⟩
      have and255 : bits .and .i64 n 255 = (nn : Int) := by rw [hnn]; have := and_mask n 8 (by decide); rw [show (2 : Int) ^ 8 - 1 = 255 by decide] at this; rw [this]; omega
      obtain ⟨dm, hdm⟩ : ∃ dm, dm = min data.length 255 := ⟨_, rfl⟩
      obtain ⟨sm, hsm⟩ : ∃ sm, sm = min seeds.length 3 := ⟨_, rfl⟩
      have hm1 : ∀ w : World, (Builtin.min_ #[3, 3] 3 #[.int .i64 (data.length : Int), .int .i64 255]).run Try.prog w = .ok (.int .i64 dm) w := fun w => by
        show Result.ok (Value.int .i64 (if (255 : Int) < (data.length : Int) then (255 : Int) else (data.length : Int))) w = _
        congr 2; omega
      have hm2 : ∀ w : World, (Builtin.min_ #[3, 3] 3 #[.int .i64 (seeds.length : Int), .int .i64 3]).run Try.prog w = .ok (.int .i64 sm) w := fun w => by
        show Result.ok (Value.int .i64 (if (3 : Int) < (seeds.length : Int) then (3 : Int) else (seeds.length : Int))) w = _
        congr 2; omega
      have hdp : dm ≤ p := by omega
      have hsp : sm ≤ p' := by omega
      have hcd := Sl.cut hsd (m := dm) (by rw [vb_length]; omega) hdp
      rw [show (vb data).take dm = vb (data.take dm) from List.map_take.symm] at hcd
      have HSD := Lib.hid hcd
      have hcs := Sl.cut hss (m := sm) (by rw [vs_length]; omega) hsp
      rw [show (vs seeds).take sm = vs (seeds.take sm) from List.map_take.symm] at hcs
      have HSS := Lib.hid hcs
      clear hcd hcs
      have htm1 : tm1 cN ⟨kind, clock, conn, n, data, seeds⟩ = (if kd = 2 then ⟨2, cN + dc, cn, data.take 255, 0, []⟩ else if kd = 3 then ⟨3, cN + dc, cn, [], nn, []⟩ else if kd = 4 then ⟨4, cN + dc, cn, [], 0, seeds.take 3⟩ else ⟨kd, cN + dc, cn, [], 0, []⟩) := by
        rw [hkd, hdc, hcn, hnn]; rfl
      have htl : tameL cN (⟨kind, clock, conn, n, data, seeds⟩ :: l.drop (j + 1)) = tm1 cN ⟨kind, clock, conn, n, data, seeds⟩ :: tameL (cN + dc) (l.drop (j + 1)) := by rw [hdc]; rfl
      have et1 : data.take 255 = data.take dm := by rw [hdm]; rw [Nat.min_comm]; exact List.take_eq_take_min
      have et2 : seeds.take 3 = seeds.take sm := by rw [hsm]; rw [Nat.min_comm]; exact List.take_eq_take_min
      have HTM := Lib.hid htm1
      have HTL := Lib.hid htl
      have HE1 := Lib.hid et1
      have HE2 := Lib.hid et2
      clear htm1 htl et1 et2 hkd hcn hdc hnn hdm hsm hsd hss hat
      go_wp2_with fail
      refine wp_region_lex (by kernel_rfl) (by kernel_rfl) ?_
      go_wp2_with fail
      refine ⟨by kernel_rfl, ?_⟩
      have ek : kd = 2 ∨ kd = 3 ∨ kd = 4 ∨ (kd ≠ 2 ∧ kd ≠ 3 ∧ kd ≠ 4) := by omega
      rcases ek with rfl | rfl | rfl | ⟨k2, k3, k4⟩
      · skip
        obtain ⟨q, hq⟩ : ∃ q : ActV, q = ⟨⟨2, cN + dc, cn, data.take dm, 0, []⟩, .slice x dm p, .slice none 0 0⟩ := ⟨_, rfl⟩
        have hcells : q.cells = [.int .i64 2, .int .i64 ((cN : Int) + dc), .int .i64 (cn : Int), .slice x dm p, .int .i64 0, .slice none 0 0] := by subst hq; simp [ActV.cells]
        have hone : ∀ u ∈ q.cells, u.oneCell' = true := by rw [hcells]; intro u hu; simp at hu; rcases hu with rfl | rfl | rfl | rfl | rfl | rfl <;> rfl
        have hqs : Sl w q.d (vb q.act.data) ∧ Sl w q.s (vs q.act.seeds) := by subst hq; exact ⟨HSD.out, Sl.nil _ _ _⟩
        have hact : tm1 cN ⟨kind, clock, conn, n, data, seeds⟩ = q.act := by rw [HTM.out, if_pos rfl]; subst hq; rw [HE1.out]
        have hcl : q.cells.toArray = #[.int .i64 2, .int .i64 ((cN : Int) + dc), .int .i64 (cn : Int), .slice x dm p, .int .i64 0, .slice none 0 0] := by rw [hcells]
        have HB := Lib.hid (fun o => hcl ▸ blk2 wr o q.cells 28)
        have HC := Lib.hid hcells
        have HONE := Lib.hid hone
        have HQS := Lib.hid hqs
        have HACT := Lib.hid hact
        clear hq hcells hone hqs hact hcl
        go_wp2_with (at_builtin; go_must (refine app_tame q (wr.heap.size + 1) (OwnT.mod HO.out (Mod.drew (Mod.alloc (Mod.alloc (Mod.refl [] wr) _) _))) rfl _ _ rfl (by rw [hal]; rfl) rfl (HB.out _) (by simp; omega) (by omega) HONE.out HQS.out ?_; intro v3 w3 ho3 hM3; have O3 := Lib.hid ho3; have M3 := Lib.hid ((Mod.drew (Mod.alloc (Mod.alloc MR.out _) _)).trans' hM3 (fun x hx => .inr (HR.out x (by simpa using hx)))); clear ho3 hM3))
        go_wp2_with fail
        go_roundw
        case rel => exact ⟨j + 1, cN + dc, av ++ [q], by omega, by go_num, by go_num, by omega, by simp [hal], by
          have h := HT.out; rw [HQ.out, HTL.out, HACT.out] at h; rw [List.map_append, List.append_assoc]; exact h, O3.out, M3.out⟩
        case measure => simp [intOf]; omega
      · skip
        obtain ⟨q, hq⟩ : ∃ q : ActV, q = ⟨⟨3, cN + dc, cn, [], nn, []⟩, .slice none 0 0, .slice none 0 0⟩ := ⟨_, rfl⟩
        have hcells : q.cells = [.int .i64 3, .int .i64 ((cN : Int) + dc), .int .i64 (cn : Int), .slice none 0 0, .int .i64 (nn : Int), .slice none 0 0] := by subst hq; simp [ActV.cells]
        have hone : ∀ u ∈ q.cells, u.oneCell' = true := by rw [hcells]; intro u hu; simp at hu; rcases hu with rfl | rfl | rfl | rfl | rfl | rfl <;> rfl
        have hqs : Sl w q.d (vb q.act.data) ∧ Sl w q.s (vs q.act.seeds) := by subst hq; exact ⟨Sl.nil _ _ _, Sl.nil _ _ _⟩
        have hact : tm1 cN ⟨kind, clock, conn, n, data, seeds⟩ = q.act := by rw [HTM.out, if_neg (by decide), if_pos rfl]; subst hq; rfl
        have hcl : q.cells.toArray = #[.int .i64 3, .int .i64 ((cN : Int) + dc), .int .i64 (cn : Int), .slice none 0 0, .int .i64 (nn : Int), .slice none 0 0] := by rw [hcells]
        have HB := Lib.hid (fun o => hcl ▸ blk2 wr o q.cells 28)
        have HC := Lib.hid hcells
        have HONE := Lib.hid hone
        have HQS := Lib.hid hqs
        have HACT := Lib.hid hact
        clear hq hcells hone hqs hact hcl
        go_wp2_with (at_builtin; go_must (refine app_tame q (wr.heap.size + 1) (OwnT.mod HO.out (Mod.drew (Mod.alloc (Mod.alloc (Mod.refl [] wr) _) _))) rfl _ _ rfl (by rw [hal]; rfl) rfl (HB.out _) (by simp; omega) (by omega) HONE.out HQS.out ?_; intro v3 w3 ho3 hM3; have O3 := Lib.hid ho3; have M3 := Lib.hid ((Mod.drew (Mod.alloc (Mod.alloc MR.out _) _)).trans' hM3 (fun x hx => .inr (HR.out x (by simpa using hx)))); clear ho3 hM3))
        go_wp2_with fail
        go_roundw
        case rel => exact ⟨j + 1, cN + dc, av ++ [q], by omega, by go_num, by go_num, by omega, by simp [hal], by
          have h := HT.out; rw [HQ.out, HTL.out, HACT.out] at h; rw [List.map_append, List.append_assoc]; exact h, O3.out, M3.out⟩
        case measure => simp [intOf]; omega
      · skip
        obtain ⟨q, hq⟩ : ∃ q : ActV, q = ⟨⟨4, cN + dc, cn, [], 0, seeds.take sm⟩, .slice none 0 0, .slice y sm p'⟩ := ⟨_, rfl⟩
        have hcells : q.cells = [.int .i64 4, .int .i64 ((cN : Int) + dc), .int .i64 (cn : Int), .slice none 0 0, .int .i64 0, .slice y sm p'] := by subst hq; simp [ActV.cells]
        have hone : ∀ u ∈ q.cells, u.oneCell' = true := by rw [hcells]; intro u hu; simp at hu; rcases hu with rfl | rfl | rfl | rfl | rfl | rfl <;> rfl
        have hqs : Sl w q.d (vb q.act.data) ∧ Sl w q.s (vs q.act.seeds) := by subst hq; exact ⟨Sl.nil _ _ _, HSS.out⟩
        have hact : tm1 cN ⟨kind, clock, conn, n, data, seeds⟩ = q.act := by rw [HTM.out, if_neg (by decide), if_neg (by decide), if_pos rfl]; subst hq; rw [HE2.out]
        have hcl : q.cells.toArray = #[.int .i64 4, .int .i64 ((cN : Int) + dc), .int .i64 (cn : Int), .slice none 0 0, .int .i64 0, .slice y sm p'] := by rw [hcells]
        have HB := Lib.hid (fun o => hcl ▸ blk2 wr o q.cells 28)
        have HC := Lib.hid hcells
        have HONE := Lib.hid hone
        have HQS := Lib.hid hqs
        have HACT := Lib.hid hact
        clear hq hcells hone hqs hact hcl
        go_wp2_with (at_builtin; go_must (refine app_tame q (wr.heap.size + 1) (OwnT.mod HO.out (Mod.drew (Mod.alloc (Mod.alloc (Mod.refl [] wr) _) _))) rfl _ _ rfl (by rw [hal]; rfl) rfl (HB.out _) (by simp; omega) (by omega) HONE.out HQS.out ?_; intro v3 w3 ho3 hM3; have O3 := Lib.hid ho3; have M3 := Lib.hid ((Mod.drew (Mod.alloc (Mod.alloc MR.out _) _)).trans' hM3 (fun x hx => .inr (HR.out x (by simpa using hx)))); clear ho3 hM3))
        go_wp2_with fail
        go_roundw
        case rel => exact ⟨j + 1, cN + dc, av ++ [q], by omega, by go_num, by go_num, by omega, by simp [hal], by
          have h := HT.out; rw [HQ.out, HTL.out, HACT.out] at h; rw [List.map_append, List.append_assoc]; exact h, O3.out, M3.out⟩
        case measure => simp [intOf]; omega
      · have d2 : decide ((kd : Int) = 2) = false := by simp; omega
        have d3 : decide ((kd : Int) = 3) = false := by simp; omega
        have d4 : decide ((kd : Int) = 4) = false := by simp; omega
        obtain ⟨q, hq⟩ : ∃ q : ActV, q = ⟨⟨kd, cN + dc, cn, [], 0, []⟩, .slice none 0 0, .slice none 0 0⟩ := ⟨_, rfl⟩
        have hcells : q.cells = [.int .i64 (kd : Int), .int .i64 ((cN : Int) + dc), .int .i64 (cn : Int), .slice none 0 0, .int .i64 0, .slice none 0 0] := by subst hq; simp [ActV.cells]
        have hone : ∀ u ∈ q.cells, u.oneCell' = true := by rw [hcells]; intro u hu; simp at hu; rcases hu with rfl | rfl | rfl | rfl | rfl | rfl <;> rfl
        have hqs : Sl w q.d (vb q.act.data) ∧ Sl w q.s (vs q.act.seeds) := by subst hq; exact ⟨Sl.nil _ _ _, Sl.nil _ _ _⟩
        have hact : tm1 cN ⟨kind, clock, conn, n, data, seeds⟩ = q.act := by rw [HTM.out, if_neg k2, if_neg k3, if_neg k4]; subst hq; rfl
        have hcl : q.cells.toArray = #[.int .i64 (kd : Int), .int .i64 ((cN : Int) + dc), .int .i64 (cn : Int), .slice none 0 0, .int .i64 0, .slice none 0 0] := by rw [hcells]
        have HB := Lib.hid (fun o => hcl ▸ blk2 wr o q.cells 28)
        have HC := Lib.hid hcells
        have HONE := Lib.hid hone
        have HQS := Lib.hid hqs
        have HACT := Lib.hid hact
        clear hq hcells hone hqs hact hcl
        go_wp2_with (at_builtin; go_must (refine app_tame q (wr.heap.size + 1) (OwnT.mod HO.out (Mod.drew (Mod.alloc (Mod.alloc (Mod.refl [] wr) _) _))) rfl _ _ rfl (by rw [hal]; rfl) rfl (HB.out _) (by simp; omega) (by omega) HONE.out HQS.out ?_; intro v3 w3 ho3 hM3; have O3 := Lib.hid ho3; have M3 := Lib.hid ((Mod.drew (Mod.alloc (Mod.alloc MR.out _) _)).trans' hM3 (fun x hx => .inr (HR.out x (by simpa using hx)))); clear ho3 hM3))
        go_wp2_with fail
        go_roundw
        case rel => exact ⟨j + 1, cN + dc, av ++ [q], by omega, by go_num, by go_num, by omega, by simp [hal], by
          have h := HT.out; rw [HQ.out, HTL.out, HACT.out] at h; rw [List.map_append, List.append_assoc]; exact h, O3.out, M3.out⟩
        case measure => simp [intOf]; omega
    · obtain rfl : j = l.length := by omega
      go_wp2_with fail
      go_ret
      refine ⟨_, rfl, ?_, MR.out⟩
      have ht := HT.out
      rw [List.drop_length] at ht
      simp only [tameL, List.append_nil] at ht
      rw [← ht, List.map_map]
      exact VA.own HO.out.1 fun a ha => ⟨(HO.out.2 a ha).1.mod MR.out (by simp), (HO.out.2 a ha).2.mod MR.out (by simp)⟩
end Go.Proofs.Ytmiagiemagdnfaa.Script
