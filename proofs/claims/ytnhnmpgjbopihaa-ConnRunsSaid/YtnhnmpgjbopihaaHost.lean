/- conn's laws: the host that answers: Most, Answer. -/
import Derived.Test.YtnhnmpgjbopihaaConReqs
namespace Go.Proofs.Ytnhnmpgjbopihaa.Frame
open Go Go.RowKit Go.YtnhnmpgjbopihaaMem Go.YtnhnmpgjbopihaaLex
set_option linter.unusedVariables false
set_option linter.unusedSimpArgs false

section
variable {ops : Array Oper} {rest : List Oper} {o : Oper} {act : Act} {Q : Exit → Act → World → Prop} {w : World} {B : Nat} {v : Value} {l : List Req}
/-- A request behind requests of one's own; where the new row lies. -/
theorem app_req_at (q : Req) (n : Nat) (hown : OwnQ w B v l) (hgd : o.guard = none) (s x : Operand) (ho : o.op = .call { callee := .builtin .append, args := #[s, x], argTypes := #[28, 28] })
    (hs : act.eval s = v) (hx : act.eval x = .slice (some ⟨n, 0, none⟩) 1 1) (hn : Box w n q) (hB : B ≤ w.heap.size) (hl : l.length ≤ 900000)
    (h : ∀ v' w', OwnQ w' B v' (l ++ [q]) → Mod v.ownBlock.toList w w' → (∀ b, v'.ownBlock = some b → v.ownBlock = some b ∨ b = w.heap.size) → wpList Try.prog ops Q rest (act.put o.dst v') w') : wpList Try.prog ops Q (o :: rest) act w := by
  obtain ⟨i0, hi, hz0, hz1, hz2⟩ := req_info
  refine wpList_append_own_at w hgd s x 28 ho B 50 i0 Req.none0.val 5 48 Try.underlying28 hi hz0 hz1 hz2 rfl (by decide) v l.length (flat l) hs hown ⟨n, 0, none⟩ 1 1 q.cells hx rfl (fun j u hu => by rw [add_eq, Nat.zero_add]; exact hn.cell hu)
    (fun x hx => by simp only [Req.cells, List.mem_cons, List.not_mem_nil, or_false] at hx; rcases hx with rfl | rfl | rfl | rfl | rfl <;> rfl) (by unfold maxLen; omega) (by omega) hB fun v' w' h1 h2 _ h4 => h v' w' ?_ (grown_mod (Mod.refl [] w) h2) fun b hb => ?_
  · unfold OwnQ; rw [flat_snoc, List.length_append]; exact h1
  · rcases h4 with q | q
    · exact .inl (q ▸ hb)
    · rw [q] at hb; exact .inr (by simpa using hb.symm)
end
def ansOf (q : Req) : List UInt8 := List.replicate (q.cost % 30) (b8 q.key.length)
theorem ansOf_length (q : Req) : (ansOf q).length = q.cost % 30 := by simp [ansOf]
/-- A host's block: the requests that it answered, in a row of its own above B. -/
def Hst (w : World) (hb B : Nat) (v : Value) (l : List Req) : Prop := Blk w hb 30 [v] ∧ OwnQ w B v l ∧ hb < B ∧ B ≤ w.heap.size
theorem most_any (w : World) (hb : Nat) (q : Req) :
    Calls Try.prog 57 #[.pointer (some ⟨hb, 0, none⟩), q.val] w fun e w' => e = .returned (.int .i64 ((q.cost % 30 : Nat) + 1 : Int)) ∧ Mod [] w w' := by
  obtain ⟨op, rule, cost, key, k⟩ := q
  have hc : cost % 30 < 30 := Nat.mod_lt _ (by decide)
  simp only [Req.val]
  go_enter Try.func57, Try.ntmps57
  go_wp2_with fail
  go_ret
  exact ⟨rfl, (Mod.refl [] w).alloc _⟩

def AnswerPost (w : World) (hb B : Nat) (v : Value) (l : List Req) (q : Req) (e : Ending) (w' : World) : Prop :=
  ∃ x v', e = .returned x ∧ Sl w' x (vb (ansOf q)) ∧ (∀ b, x.ownBlock = some b → w.heap.size ≤ b) ∧ Hst w' hb B v' (l ++ [q]) ∧ Mod (hb :: v.ownBlock.toList) w w' ∧ (∀ b, v'.ownBlock = some b → v.ownBlock = some b ∨ w.heap.size ≤ b)
theorem make_ans (n : Nat) (hn : n < 30) (w : World) : (Instr.makeSlice 22 (.int .u32 (n : Int)) (.int .u32 (n : Int))).run Try.prog w = .ok (.slice (some ⟨w.heap.size, 0, none⟩) n n) (w.alloc (.cells (vb (List.replicate n 0)).toArray 5)) := by
  obtain ⟨i, hi, hz⟩ : ∃ i, Try.prog.info? 5 = some i ∧ i.zero = some (.int .u8 0) ∧ i.size = 1 ∧ i.bytes = 1 := info_parts (show (Try.prog.info? 5).map (fun i => (i.zero, i.size, i.bytes)) = some (some ((.int .u8 0)), 1, 1) by kernel_rfl)
  rw [run_make (P := Try.prog) (w := w) 22 5 i _ Try.underlying22 hi hz.1 .u32 .u32 n n (by omega) (by omega) (by rw [hz.2.2]; omega) (by omega)]
  have : madeCells (Value.int IntKind.u8 0).cells ((n : Int).toNat * i.size) = (vb (List.replicate n 0)).toArray := by
    rw [hz.2.1, Nat.mul_one, Int.toNat_natCast]
    apply Array.ext'
    rw [show (Value.int IntKind.u8 0).cells = #[Value.int .u8 0] from rfl, toList_madeCells_one]
    simp [vb]
  rw [this, Int.toNat_natCast]
/-- The answer's bytes, the first j laid. -/
def laid (n j : Nat) (c : UInt8) : List UInt8 := List.replicate j c ++ List.replicate (n - j) 0

theorem laid_set {n j : Nat} {c : UInt8} (h : j < n) : (laid n j c).set j c = laid n (j + 1) c := by
  unfold laid
  rw [List.set_append_right _ _ (by simp), List.length_replicate, Nat.sub_self, show n - j = (n - (j + 1)) + 1 by omega, List.replicate_succ, List.set_cons_zero, List.replicate_succ', List.append_assoc]
  rfl
theorem laid_length {n j : Nat} {c : UInt8} (h : j ≤ n) : (laid n j c).length = n := by simp [laid]; omega
set_option maxRecDepth 4000 in
set_option maxHeartbeats 1600000 in
theorem answer_any {w : World} {hb B : Nat} {v : Value} {l : List Req} (h : Hst w hb B v l) (q : Req) (hl : l.length ≤ 800000) :
    Calls Try.prog 56 #[.pointer (some ⟨hb, 0, none⟩), q.val] w (AnswerPost w hb B v l q) := by
  obtain ⟨hB, hO, hltB, hBs⟩ := h
  obtain ⟨av, cv, rfl⟩ := hO.slice
  have hown := own_block hO
  have hbox : Box (w.alloc (.cells q.cells.toArray 50)) w.heap.size q := Box.new w q rfl
  have HB := Lib.hid hB
  have HO := Lib.hid hO
  have HOWN := Lib.hid hown
  have HBX := Lib.hid hbox
  have hbl := hB.lt
  obtain ⟨op, rule, cost, key, k⟩ := q
  have c0 : (w.alloc (.cells (Req.cells ⟨op, rule, cost, key, k⟩).toArray 50)).cell? ⟨hb, 0, none⟩ = some (.slice av l.length cv) := ((Mod.refl [] w).alloc _).cell hbl (by simp) |>.trans (hB.cell rfl)
  clear hB hO hown hbox
  simp only [Req.val, Req.cells] at *
  go_enter Try.func56, Try.ntmps56
  go_wp2_with fail
  refine wp_region_held [] [4] (Value.slice av l.length cv).ownBlock.toList (by kernel_rfl) (by kernel_rfl) ?_
  simp only [wpCut, List.take_succ_cons, List.take_zero, List.drop_succ_cons, List.drop_zero]
  have hbN : hb ∉ (Value.slice av l.length cv).ownBlock.toList := fun hx => by have := HOWN.out hb (by simpa using hx); omega
  have HBN := Lib.hid hbN
  have isch : IsC (w.alloc (.cells (Req.cells ⟨op, rule, cost, key, k⟩).toArray 50)).drew hb := isC_of_cell (w := (w.alloc (.cells (Req.cells ⟨op, rule, cost, key, k⟩).toArray 50)).drew) c0
  have ISC := Lib.hid isch
  have b0 := Box.facts ((Box.new w ⟨op, rule, cost, key, k⟩ rfl))
  clear hbN isch
  go_wp2_with (at_builtin; go_must (refine app_req_at ⟨op, rule, cost, key, k⟩ (w.heap.size + 1) ((OwnQ.mod HO.out (((Mod.refl [] w).alloc (.cells (Req.cells ⟨op, rule, cost, key, k⟩).toArray 50)).alloc (.cells (Req.cells ⟨op, rule, cost, key, k⟩).toArray 50)).drew (by simp))) rfl _ _ rfl rfl rfl (Blk.drew (Box.new (w.alloc (.cells (Req.cells ⟨op, rule, cost, key, k⟩).toArray 50)) ⟨op, rule, cost, key, k⟩ (by simp))) (by show B ≤ ((w.alloc _).alloc _).heap.size; simp; omega) (by omega) ?_; intro v3 w3 ho3 hM3 hat3; obtain ⟨a3, k3, rfl⟩ := own_slice ho3; rw [List.length_append, List.length_singleton] at ho3 hat3; have BH := Lib.hid (hM3.blk (((HB.out.alloc (.cells (Req.cells ⟨op, rule, cost, key, k⟩).toArray 50)).alloc (.cells (Req.cells ⟨op, rule, cost, key, k⟩).toArray 50)).drew) HBN.out); have h0 := BH.out.cell (i := 0) rfl; have f0 := BH.out.free 0; have O3 := Lib.hid ho3; have N3 := Lib.hid hM3; have HAT := Lib.hid hat3; have hs3 : w.heap.size + 2 ≤ w3.heap.size := (by have := hM3.size; change ((w.alloc _).alloc _).heap.size ≤ _ at this; simpa using this); clear ho3 hM3 hat3))
  refine ⟨by kernel_rfl, ⟨⟨HBN.out, ISC.out⟩, trivial⟩, ?_⟩
  have hbxN : w.heap.size ∉ (Value.slice av l.length cv).ownBlock.toList := fun hx => by have := (HO.out.lt _ (by simpa using hx)).2; omega
  have BX4 : Box (w3.setCell ⟨hb, 0, none⟩ (.slice a3 (l.length + 1) k3)) w.heap.size ⟨op, rule, cost, key, k⟩ := Blk.other (N3.out.blk (((HBX.out.alloc (.cells (Req.cells ⟨op, rule, cost, key, k⟩).toArray 50)).drew)) hbxN) (by show w.heap.size ≠ hb; omega) _
  have BX := Lib.hid BX4
  obtain ⟨p0, p1, p2, p3, p4⟩ := Box.facts BX4
  obtain ⟨n, hn⟩ : ∃ n, cost % 30 = n := ⟨_, rfl⟩
  have hnI : (cost : Int) % 30 = (n : Int) := by omega
  have hn30 : n < 30 := by omega
  have hmk := make_ans n hn30
  have HN := Lib.hid hn
  clear hn BX4 hbxN h0 f0 b0
  go_wp2_with fail
  have M4 : Hid (Mod (hb :: (Value.slice av l.length cv).ownBlock.toList) w (w3.setCell ⟨hb, 0, none⟩ (.slice a3 (l.length + 1) k3))) := Lib.hid (((((Mod.refl _ w).alloc (.cells (Req.cells ⟨op, rule, cost, key, k⟩).toArray 50)).alloc (.cells (Req.cells ⟨op, rule, cost, key, k⟩).toArray 50)).drew.trans' N3.out (fun x hx => .inl (List.mem_cons_of_mem _ hx))).setCell (p := ⟨hb, 0, none⟩) (.inl List.mem_cons_self) _)
  clear hmk
  go_loopw [23] (fun i wr => ∃ j : Nat, j ≤ n ∧ i = .int .i64 j ∧ Blk wr w3.heap.size 5 (vb (laid n j (b8 key.length))) ∧ Mod [] (w3.setCell ⟨hb, 0, none⟩ (.slice a3 (l.length + 1) k3)) wr) (fun i _ => n - (intOf i).toNat)
  case atStart =>
    refine ⟨0, Nat.zero_le _, rfl, ?_, (Mod.refl [] _).alloc _⟩
    have h := Blk.new (w3.setCell ⟨hb, 0, none⟩ (.slice a3 (l.length + 1) k3)) (vb (List.replicate n 0)) 5
    rw [show (w3.setCell ⟨hb, 0, none⟩ (.slice a3 (l.length + 1) k3)).heap.size = w3.heap.size by simp] at h
    have e : laid n 0 (b8 key.length) = List.replicate n 0 := by simp [laid]
    rw [e]; exact h
  case round =>
    obtain ⟨j, hj, rfl, hbk, hM⟩ := hrel
    have HBK := Lib.hid hbk
    have MR := Lib.hid hM
    by_cases hlt : j < n
    · obtain ⟨old, cd⟩ : ∃ old, wr.cell? ⟨w3.heap.size, j, none⟩ = some old := ⟨_, hbk.cell (List.getElem?_eq_getElem (by rw [vb_length, laid_length hj]; omega))⟩
      have hf := hbk.free j
      obtain ⟨y0, y1, y2, y3, y4⟩ := Box.facts (BX.out.mod hM)
      have hkv := b8_val (key.length : Int)
      clear hbk hM p0 p1 p2 p3 p4 y0 y1 y2 y4
      go_wp2_with fail
      refine ⟨⟨j + 1, by omega, by go_num, ?_, MR.out.setCell (p := ⟨w3.heap.size, j, none⟩) (by simp) _⟩, by simp [intOf]; omega⟩
      have h := HBK.out.set j (.int .u8 ((b8 (key.length : Int)).toNat : Int))
      have e : (vb (laid n j (b8 key.length))).set j (.int .u8 ((b8 (key.length : Int)).toNat : Int)) = vb ((laid n j (b8 key.length)).set j (b8 key.length)) := by simp [vb, List.map_set]
      rw [e, laid_set hlt] at h
      exact h
    · obtain rfl : j = n := by omega
      clear hbk hM p0 p1 p2 p3 p4
      go_wp2_with fail
      go_ret
      have hb3 := HBK.out
      have e : laid j j (b8 key.length) = ansOf ⟨op, rule, cost, key, k⟩ := by simp [laid, ansOf, HN.out]
      rw [e] at hb3
      have hn := HN.out
      have hlb := hb3.lt
      have hs3' := MR.out.size
      have hlen : (vb (ansOf ⟨op, rule, cost, key, k⟩)).length = j := by rw [vb_length, ansOf_length]; exact hn
      refine ⟨_, _, rfl, .inr ⟨w3.heap.size, 0, j, by rw [hlen]; rfl, by rw [hlen]; exact Nat.le_refl _, by unfold maxLen; omega, hlb, fun i u hu => by rw [Nat.zero_add]; exact hb3.cell hu⟩, fun b hb => ?_, ⟨MR.out.blk (BH.out.set 0 _) (by simp), (O3.out.mod ((Mod.refl [hb] w3).setCell (p := ⟨hb, 0, none⟩) (by simp) _) (by simpa using hltB)).mod MR.out (by simp), hltB, ?_⟩, M4.out.trans (MR.out.mono (by simp)), fun b hb => ?_⟩
      · have hb' : w3.heap.size = b := by simpa [Value.ownBlock] using hb
        omega
      · simp at hs3'; omega
      · rcases HAT.out b hb with h | h
        · exact .inl h
        · right
          have h' : b = ((w.alloc (.cells (Req.cells ⟨op, rule, cost, key, k⟩).toArray 50)).alloc (.cells (Req.cells ⟨op, rule, cost, key, k⟩).toArray 50)).heap.size := h
          rw [h']; simp; omega
end Go.Proofs.Ytnhnmpgjbopihaa.Frame
