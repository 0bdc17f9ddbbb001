/- conn's laws: a host that is told of requests. -/
import Derived.Test.YtnhnmpgjbopihaaHost
namespace Go.Proofs.Ytnhnmpgjbopihaa.Frame
open Go Go.RowKit Go.YtnhnmpgjbopihaaMem Go.YtnhnmpgjbopihaaLex
set_option linter.unusedVariables false
set_option linter.unusedSimpArgs false

/-- A block at whose head a host lies. -/
def HstG (T : TypeId) (rest : List Value) (w : World) (hb B : Nat) (v : Value) (l : List Req) : Prop := Blk w hb T (v :: rest) ∧ OwnQ w B v l ∧ hb < B ∧ B ≤ w.heap.size
def AnswerPostG (T : TypeId) (rest : List Value) (w : World) (hb B : Nat) (v : Value) (l : List Req) (q : Req) (e : Ending) (w' : World) : Prop :=
  ∃ x v', e = .returned x ∧ Sl w' x (vb (ansOf q)) ∧ (∀ b, x.ownBlock = some b → w.heap.size ≤ b) ∧ HstG T rest w' hb B v' (l ++ [q]) ∧ Mod (hb :: v.ownBlock.toList) w w' ∧ (∀ b, v'.ownBlock = some b → v.ownBlock = some b ∨ w.heap.size ≤ b)
set_option maxRecDepth 4000 in
set_option maxHeartbeats 1600000 in
theorem answer_anyG {T : TypeId} {rest : List Value} {w : World} {hb B : Nat} {v : Value} {l : List Req} (h : HstG T rest w hb B v l) (q : Req) (hl : l.length ≤ 800000) :
    Calls Try.prog 56 #[.pointer (some ⟨hb, 0, none⟩), q.val] w (AnswerPostG T rest w hb B v l q) := by
  obtain ⟨hB, hO, hltB, hBs⟩ := h
  obtain ⟨av, cv, rfl⟩ := hO.slice
  have hown := own_block hO
  have hbox : Box (w.alloc (.cells q.cells.toArray 50)) w.heap.size q := Box.new w q rfl
  have HB := Lib.hid hB
  have HO := Lib.hid hO
  have HOWN := Lib.hid hown
  have HBX := Lib.hid hbox
  have hbl := hB.lt
  obtain ⟨op, rule, cost, key, k⟩ := q
  have c0 : (w.alloc (.cells (Req.cells ⟨op, rule, cost, key, k⟩).toArray 50)).cell? ⟨hb, 0, none⟩ = some (.slice av l.length cv) := ((Mod.refl [] w).alloc _).cell hbl (by simp) |>.trans (hB.cell rfl)
  clear hB hO hown hbox
  simp only [Req.val, Req.cells] at *
  go_enter Try.func56, Try.ntmps56
  go_wp2_with fail
  refine wp_region_held [] [4] (Value.slice av l.length cv).ownBlock.toList (by kernel_rfl) (by kernel_rfl) ?_
  simp only [wpCut, List.take_succ_cons, List.take_zero, List.drop_succ_cons, List.drop_zero]
  have hbN : hb ∉ (Value.slice av l.length cv).ownBlock.toList := fun hx => by have := HOWN.out hb (by simpa using hx); omega
  have HBN := Lib.hid hbN
  have isch : IsC (w.alloc (.cells (Req.cells ⟨op, rule, cost, key, k⟩).toArray 50)).drew hb := isC_of_cell (w := (w.alloc (.cells (Req.cells ⟨op, rule, cost, key, k⟩).toArray 50)).drew) c0
  have ISC := Lib.hid isch
  have b0 := Box.facts ((Box.new w ⟨op, rule, cost, key, k⟩ rfl))
  clear hbN isch
  go_wp2_with (at_builtin; go_must (refine app_req_at ⟨op, rule, cost, key, k⟩ (w.heap.size + 1) ((OwnQ.mod HO.out (((Mod.refl [] w).alloc (.cells (Req.cells ⟨op, rule, cost, key, k⟩).toArray 50)).alloc (.cells (Req.cells ⟨op, rule, cost, key, k⟩).toArray 50)).drew (by simp))) rfl _ _ rfl rfl rfl (Blk.drew (Box.new (w.alloc (.cells (Req.cells ⟨op, rule, cost, key, k⟩).toArray 50)) ⟨op, rule, cost, key, k⟩ (by simp))) (by show B ≤ ((w.alloc _).alloc _).heap.size; simp; omega) (by omega) ?_; intro v3 w3 ho3 hM3 hat3; obtain ⟨a3, k3, rfl⟩ := own_slice ho3; rw [List.length_append, List.length_singleton] at ho3 hat3; have BH := Lib.hid (hM3.blk (((HB.out.alloc (.cells (Req.cells ⟨op, rule, cost, key, k⟩).toArray 50)).alloc (.cells (Req.cells ⟨op, rule, cost, key, k⟩).toArray 50)).drew) HBN.out); have h0 := BH.out.cell (i := 0) rfl; have f0 := BH.out.free 0; have O3 := Lib.hid ho3; have N3 := Lib.hid hM3; have HAT := Lib.hid hat3; have hs3 : w.heap.size + 2 ≤ w3.heap.size := (by have := hM3.size; change ((w.alloc _).alloc _).heap.size ≤ _ at this; simpa using this); clear ho3 hM3 hat3))
  refine ⟨by kernel_rfl, ⟨⟨HBN.out, ISC.out⟩, trivial⟩, ?_⟩
  have hbxN : w.heap.size ∉ (Value.slice av l.length cv).ownBlock.toList := fun hx => by have := (HO.out.lt _ (by simpa using hx)).2; omega
  have BX4 : Box (w3.setCell ⟨hb, 0, none⟩ (.slice a3 (l.length + 1) k3)) w.heap.size ⟨op, rule, cost, key, k⟩ := Blk.other (N3.out.blk (((HBX.out.alloc (.cells (Req.cells ⟨op, rule, cost, key, k⟩).toArray 50)).drew)) hbxN) (by show w.heap.size ≠ hb; omega) _
  have BX := Lib.hid BX4
  obtain ⟨p0, p1, p2, p3, p4⟩ := Box.facts BX4
  obtain ⟨n, hn⟩ : ∃ n, cost % 30 = n := ⟨_, rfl⟩
  have hnI : (cost : Int) % 30 = (n : Int) := by omega
  have hn30 : n < 30 := by omega
  have hmk := make_ans n hn30
  have HN := Lib.hid hn
  clear hn BX4 hbxN h0 f0 b0
  go_wp2_with fail
  have M4 : Hid (Mod (hb :: (Value.slice av l.length cv).ownBlock.toList) w (w3.setCell ⟨hb, 0, none⟩ (.slice a3 (l.length + 1) k3))) := Lib.hid (((((Mod.refl _ w).alloc (.cells (Req.cells ⟨op, rule, cost, key, k⟩).toArray 50)).alloc (.cells (Req.cells ⟨op, rule, cost, key, k⟩).toArray 50)).drew.trans' N3.out (fun x hx => .inl (List.mem_cons_of_mem _ hx))).setCell (p := ⟨hb, 0, none⟩) (.inl List.mem_cons_self) _)
  clear hmk
  go_loopw [23] (fun i wr => ∃ j : Nat, j ≤ n ∧ i = .int .i64 j ∧ Blk wr w3.heap.size 5 (vb (laid n j (b8 key.length))) ∧ Mod [] (w3.setCell ⟨hb, 0, none⟩ (.slice a3 (l.length + 1) k3)) wr) (fun i _ => n - (intOf i).toNat)
  case atStart =>
    refine ⟨0, Nat.zero_le _, rfl, ?_, (Mod.refl [] _).alloc _⟩
    have h := Blk.new (w3.setCell ⟨hb, 0, none⟩ (.slice a3 (l.length + 1) k3)) (vb (List.replicate n 0)) 5
    rw [show (w3.setCell ⟨hb, 0, none⟩ (.slice a3 (l.length + 1) k3)).heap.size = w3.heap.size by simp] at h
    have e : laid n 0 (b8 key.length) = List.replicate n 0 := by simp [laid]
    rw [e]; exact h
  case round =>
    obtain ⟨j, hj, rfl, hbk, hM⟩ := hrel
    have HBK := Lib.hid hbk
    have MR := Lib.hid hM
    by_cases hlt : j < n
    · obtain ⟨old, cd⟩ : ∃ old, wr.cell? ⟨w3.heap.size, j, none⟩ = some old := ⟨_, hbk.cell (List.getElem?_eq_getElem (by rw [vb_length, laid_length hj]; omega))⟩
      have hf := hbk.free j
      obtain ⟨y0, y1, y2, y3, y4⟩ := Box.facts (BX.out.mod hM)
      have hkv := b8_val (key.length : Int)
      clear hbk hM p0 p1 p2 p3 p4 y0 y1 y2 y4
      go_wp2_with fail
      refine ⟨⟨j + 1, by omega, by go_num, ?_, MR.out.setCell (p := ⟨w3.heap.size, j, none⟩) (by simp) _⟩, by simp [intOf]; omega⟩
      have h := HBK.out.set j (.int .u8 ((b8 (key.length : Int)).toNat : Int))
      have e : (vb (laid n j (b8 key.length))).set j (.int .u8 ((b8 (key.length : Int)).toNat : Int)) = vb ((laid n j (b8 key.length)).set j (b8 key.length)) := by simp [vb, List.map_set]
      rw [e, laid_set hlt] at h
      exact h
    · obtain rfl : j = n := by omega
      clear hbk hM p0 p1 p2 p3 p4
      go_wp2_with fail
      go_ret
      have hb3 := HBK.out
      have e : laid j j (b8 key.length) = ansOf ⟨op, rule, cost, key, k⟩ := by simp [laid, ansOf, HN.out]
      rw [e] at hb3
      have hn := HN.out
      have hlb := hb3.lt
      have hs3' := MR.out.size
      have hlen : (vb (ansOf ⟨op, rule, cost, key, k⟩)).length = j := by rw [vb_length, ansOf_length]; exact hn
      refine ⟨_, _, rfl, .inr ⟨w3.heap.size, 0, j, by rw [hlen]; rfl, by rw [hlen]; exact Nat.le_refl _, by unfold maxLen; omega, hlb, fun i u hu => by rw [Nat.zero_add]; exact hb3.cell hu⟩, fun b hb => ?_, ⟨MR.out.blk (BH.out.set 0 _) (by simp), (O3.out.mod ((Mod.refl [hb] w3).setCell (p := ⟨hb, 0, none⟩) (by simp) _) (by simpa using hltB)).mod MR.out (by simp), hltB, ?_⟩, M4.out.trans (MR.out.mono (by simp)), fun b hb => ?_⟩
      · have hb' : w3.heap.size = b := by simpa [Value.ownBlock] using hb
        omega
      · simp at hs3'; omega
      · rcases HAT.out b hb with h | h
        · exact .inl h
        · right
          have h' : b = ((w.alloc (.cells (Req.cells ⟨op, rule, cost, key, k⟩).toArray 50)).alloc (.cells (Req.cells ⟨op, rule, cost, key, k⟩).toArray 50)).heap.size := h
          rw [h']; simp; omega

/-- A watcher's block: the requests that it answered, and those that it was told of. -/
def Wst (w : World) (hb B : Nat) (v sv : Value) (l l2 : List Req) : Prop := HstG 47 [sv] w hb B v l ∧ OwnQ w B sv l2 ∧ ∀ b, v.ownBlock = some b → sv.ownBlock ≠ some b
def SeenPost (w : World) (hb B : Nat) (v sv : Value) (l l2 : List Req) (q : Req) (e : Ending) (w' : World) : Prop :=
  ∃ sv', e = .returned (.tuple #[]) ∧ Wst w' hb B v sv' l (l2 ++ [q]) ∧ Mod (hb :: sv.ownBlock.toList) w w' ∧ (∀ b, sv'.ownBlock = some b → sv.ownBlock = some b ∨ w.heap.size ≤ b)
set_option maxRecDepth 4000 in
set_option maxHeartbeats 1600000 in
theorem seen_any {w : World} {hb B : Nat} {v sv : Value} {l l2 : List Req} (h : Wst w hb B v sv l l2) (q : Req) (hl : l2.length ≤ 800000) :
    Calls Try.prog 59 #[.pointer (some ⟨hb, 0, none⟩), q.val] w (SeenPost w hb B v sv l l2 q) := by
  obtain ⟨⟨hB, hOv, hltB, hBs⟩, hO, hdis⟩ := h
  obtain ⟨av, cv, rfl⟩ := hO.slice
  have hown := own_block hO
  have HB := Lib.hid hB
  have HO := Lib.hid hO
  have HOV := Lib.hid hOv
  have HDIS := Lib.hid hdis
  have HOWN := Lib.hid hown
  have hbl := hB.lt
  obtain ⟨op, rule, cost, key, k⟩ := q
  have c0 : (w.alloc (.cells (Req.cells ⟨op, rule, cost, key, k⟩).toArray 50)).cell? ⟨hb, 1, none⟩ = some (.slice av l2.length cv) := ((Mod.refl [] w).alloc _).cell hbl (by simp) |>.trans (hB.cell rfl)
  clear hB hO hown hOv hdis
  simp only [Req.val, Req.cells] at *
  go_enter Try.func59, Try.ntmps59
  go_wp2_with fail
  refine wp_region_held [] [4] (Value.slice av l2.length cv).ownBlock.toList (by kernel_rfl) (by kernel_rfl) ?_
  simp only [wpCut, List.take_succ_cons, List.take_zero, List.drop_succ_cons, List.drop_zero]
  have hbN : hb ∉ (Value.slice av l2.length cv).ownBlock.toList := fun hx => by have := HOWN.out hb (by simpa using hx); omega
  have HBN := Lib.hid hbN
  have isch : IsC (w.alloc (.cells (Req.cells ⟨op, rule, cost, key, k⟩).toArray 50)).drew hb := isC_of_cell (w := (w.alloc (.cells (Req.cells ⟨op, rule, cost, key, k⟩).toArray 50)).drew) c0
  have ISC := Lib.hid isch
  have b0 := Box.facts ((Box.new w ⟨op, rule, cost, key, k⟩ rfl))
  clear hbN isch
  go_wp2_with (at_builtin; go_must (refine app_req_at ⟨op, rule, cost, key, k⟩ (w.heap.size + 1) ((OwnQ.mod HO.out (((Mod.refl [] w).alloc (.cells (Req.cells ⟨op, rule, cost, key, k⟩).toArray 50)).alloc (.cells (Req.cells ⟨op, rule, cost, key, k⟩).toArray 50)).drew (by simp))) rfl _ _ rfl rfl rfl (Blk.drew (Box.new (w.alloc (.cells (Req.cells ⟨op, rule, cost, key, k⟩).toArray 50)) ⟨op, rule, cost, key, k⟩ (by simp))) (by show B ≤ ((w.alloc _).alloc _).heap.size; simp; omega) (by omega) ?_; intro v3 w3 ho3 hM3 hat3; obtain ⟨a3, k3, rfl⟩ := own_slice ho3; rw [List.length_append, List.length_singleton] at ho3 hat3; have BH := Lib.hid (hM3.blk (((HB.out.alloc (.cells (Req.cells ⟨op, rule, cost, key, k⟩).toArray 50)).alloc (.cells (Req.cells ⟨op, rule, cost, key, k⟩).toArray 50)).drew) HBN.out); have h0 := BH.out.cell (i := 1) rfl; have f0 := BH.out.free 1; have O3 := Lib.hid ho3; have N3 := Lib.hid hM3; have HAT := Lib.hid hat3; have hs3 : w.heap.size + 2 ≤ w3.heap.size := (by have := hM3.size; change ((w.alloc _).alloc _).heap.size ≤ _ at this; simpa using this); clear ho3 hM3 hat3))
  refine ⟨by kernel_rfl, ⟨⟨HBN.out, ISC.out⟩, trivial⟩, ?_⟩
  clear h0 f0 b0
  go_wp2_with fail
  go_end0
  have M1 : Mod (Value.slice av l2.length cv).ownBlock.toList w w3 := (((Mod.refl _ w).alloc (.cells (Req.cells ⟨op, rule, cost, key, k⟩).toArray 50)).alloc (.cells (Req.cells ⟨op, rule, cost, key, k⟩).toArray 50)).drew.trans N3.out
  have hat : ∀ b, (Value.slice a3 (l2.length + 1) k3).ownBlock = some b → (Value.slice av l2.length cv).ownBlock = some b ∨ w.heap.size ≤ b := fun b hb => by
    rcases HAT.out b hb with h | h
    · exact .inl h
    · right
      have h' : b = ((w.alloc (.cells (Req.cells ⟨op, rule, cost, key, k⟩).toArray 50)).alloc (.cells (Req.cells ⟨op, rule, cost, key, k⟩).toArray 50)).heap.size := h
      rw [h']; simp; omega
  have hvs := HOV.out.lt
  refine ⟨.slice a3 (l2.length + 1) k3, rfl, ⟨⟨BH.out.set 1 _, ?_, hltB, by simp; omega⟩, O3.out.mod ((Mod.refl [hb] w3).setCell (p := ⟨hb, 1, none⟩) (by simp) _) (by simpa using hltB), fun b hb hsb => ?_⟩, (M1.mono (fun x hx => .inl (List.mem_cons_of_mem _ hx))).setCell (p := ⟨hb, 1, none⟩) (.inl List.mem_cons_self) _, hat⟩
  · have h1 : OwnQ w3 B v l := M1.own HOV.out (fun b hb hx => HDIS.out b hb (by simpa using hx))
    exact h1.mod ((Mod.refl [hb] w3).setCell (p := ⟨hb, 1, none⟩) (by simp) _) (by simpa using hltB)
  · rcases hat b hsb with h | h
    · exact HDIS.out b hb h
    · have := (hvs b hb).2; omega
end Go.Proofs.Ytnhnmpgjbopihaa.Frame
