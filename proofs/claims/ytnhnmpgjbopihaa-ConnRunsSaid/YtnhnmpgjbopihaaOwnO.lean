/- Rows of bytes of one's own that may begin behind their block's head: cut in front, appended to. -/
import Derived.Test.YtnhnmpgjbopihaaFrameA
import Derived.ArgAppend
namespace Go.Proofs.Ytnhnmpgjbopihaa.Frame
open Go Go.RowKit Go.YtnhnmpgjbopihaaMem Go.YtnhnmpgjbopihaaLex
set_option linter.unusedVariables false
set_option linter.unusedSimpArgs false

/-- Bytes in a row of one's own above block B, from wherever in their block. -/
def OwnO (w : World) (B : Nat) (v : Value) (bs : List UInt8) : Prop :=
  (v = .slice none 0 0 ∧ bs = []) ∨ ∃ g off cap cur, v = .slice (some ⟨g, off, none⟩) bs.length cap ∧ B ≤ g ∧ w.heap[g]? = some (.cells cur 5 (0, 0)) ∧ bs.length ≤ cap ∧ cap ≤ maxLen ∧ off + cap ≤ cur.size ∧ (cur.toList.drop off).take bs.length = vb bs
theorem OwnO.nil (w : World) (B : Nat) : OwnO w B (.slice none 0 0) [] := .inl ⟨rfl, rfl⟩
theorem OwnO.of {w : World} {B : Nat} {v : Value} {bs : List UInt8} (h : OwnB w B v bs) : OwnO w B v bs := by
  rcases h.2 with ⟨rfl, h0⟩ | ⟨g, cap, cur, rfl, h1, h2, h3, h4, h5, h6⟩
  · exact .inl ⟨rfl, List.eq_nil_of_length_eq_zero h0⟩
  · exact .inr ⟨g, 0, cap, cur, rfl, h1, h2, h3, h4, by omega, by rw [List.drop_zero]; rw [Nat.mul_one] at h6; exact h6⟩
theorem OwnO.slice {w : World} {B : Nat} {v : Value} {bs : List UInt8} (h : OwnO w B v bs) : ∃ a c, v = .slice a bs.length c ∧ bs.length ≤ c ∧ c ≤ maxLen := by
  rcases h with ⟨rfl, rfl⟩ | ⟨g, off, cap, cur, rfl, _, _, h3, h4, _⟩
  · exact ⟨_, _, rfl, Nat.le_refl _, Nat.zero_le _⟩
  · exact ⟨_, _, rfl, h3, h4⟩
theorem OwnO.lt {w : World} {B : Nat} {v : Value} {bs : List UInt8} (h : OwnO w B v bs) : ∀ b, v.ownBlock = some b → B ≤ b ∧ b < w.heap.size := by
  intro b hb
  rcases h with ⟨rfl, rfl⟩ | ⟨g, off, cap, cur, rfl, h1, h2, _⟩
  · cases hb
  · simp only [Value.ownBlock, Option.some.injEq] at hb
    subst hb
    exact ⟨h1, lt_of_some h2⟩
theorem OwnO.mod {S : List Nat} {w w' : World} {B : Nat} {v : Value} {bs : List UInt8} (h : OwnO w B v bs) (hm : Mod S w w') (hn : ∀ b, v.ownBlock = some b → b ∉ S) : OwnO w' B v bs := by
  rcases h with h | ⟨g, off, cap, cur, rfl, h1, h2, h3⟩
  · exact .inl h
  · exact .inr ⟨g, off, cap, cur, rfl, h1, hm.heap h2 (hn g rfl), h3⟩
theorem cur_cells {w : World} {g off : Nat} {cur : Array Value} {bs : List UInt8} (h2 : w.heap[g]? = some (.cells cur 5 (0, 0))) (h6 : (cur.toList.drop off).take bs.length = vb bs) :
    ∀ i u, (vb bs)[i]? = some u → w.cell? ⟨g, off + i, none⟩ = some u := by
  intro i u hu
  rw [cell_of_row w g (off + i) cur 5 (0, 0) h2]
  rw [← h6, List.getElem?_take] at hu
  split at hu
  · rw [List.getElem?_drop] at hu; simpa using hu
  · cases hu
theorem OwnO.sl {w : World} {B : Nat} {v : Value} {bs : List UInt8} (h : OwnO w B v bs) : Sl w v (vb bs) := by
  rcases h with ⟨rfl, rfl⟩ | ⟨g, off, cap, cur, rfl, h1, h2, h3, h4, h5, h6⟩
  · exact .inl ⟨rfl, none, 0, rfl⟩
  · rw [Sl, vb_length]
    exact .inr ⟨g, off, cap, rfl, h3, h4, lt_of_some h2, cur_cells h2 h6⟩
/-- What is left behind the first n. -/
theorem OwnO.cut {w : World} {B n : Nat} {a : Option Addr} {c : Nat} {bs : List UInt8} (h : OwnO w B (.slice a bs.length c) bs) (hn : n ≤ bs.length) (hc : n ≠ c) :
    OwnO w B (.slice (Option.map (fun x => x.add n) a) (bs.length - n) (c - n)) (bs.drop n) := by
  rcases h with ⟨h0, rfl⟩ | ⟨g, off, cap, cur, h0, h1, h2, h3, h4, h5, h6⟩
  · injection h0 with e1 e2 e3; subst e1; subst e3
    simp only [List.length_nil] at hn
    omega
  · injection h0 with e1 e2 e3; subst e1; subst e3
    refine .inr ⟨g, off + n, c - n, cur, ?_, h1, h2, by rw [List.length_drop]; omega, by omega, by omega, ?_⟩
    · rw [List.length_drop]; simp [add_eq]
    · rw [List.length_drop, ← List.drop_drop, show (bs.length - n) = bs.length - n from rfl]
      have e := congrArg (List.drop n) h6
      rw [List.drop_take] at e
      rw [e]; simp [vb]
theorem OwnO.cut0 {w : World} {B n : Nat} {a : Option Addr} {bs : List UInt8} (h : OwnO w B (.slice a bs.length n) bs) (hn : n ≤ bs.length) : OwnO w B (.slice a (bs.length - n) (n - n)) (bs.drop n) := by
  have e0 : bs.length - n = 0 := by
    obtain ⟨a', c', he, hle, _⟩ := h.slice
    injection he with e1 e2 e3; omega
  have e1 : bs.drop n = [] := List.eq_nil_of_length_eq_zero (by rw [List.length_drop]; exact e0)
  rw [e0, e1, Nat.sub_self]
  rcases h with ⟨h0, rfl⟩ | ⟨g, off, cap, cur, h0, h1, h2, h3, h4, h5, h6⟩
  · injection h0 with e1 e2 e3; subst e1; exact .nil w B
  · injection h0 with e1 e2 e3; subst e1; subst e3
    exact .inr ⟨g, off, 0, cur, rfl, h1, h2, Nat.le_refl _, Nat.zero_le _, by omega, by simp⟩

/-- The first n of them. -/
theorem OwnO.take {w : World} {B n : Nat} {a : Option Addr} {c : Nat} {bs : List UInt8} (h : OwnO w B (.slice a bs.length c) bs) (hn : n ≤ bs.length) : OwnO w B (.slice a n c) (bs.take n) := by
  have e0 : (bs.take n).length = n := by rw [List.length_take]; omega
  rcases h with ⟨h0, rfl⟩ | ⟨g, off, cap, cur, h0, h1, h2, h3, h4, h5, h6⟩
  · injection h0 with e1 e2 e3; subst e1; subst e3
    simp only [List.length_nil] at hn
    obtain rfl : n = 0 := by omega
    exact .nil w B
  · injection h0 with e1 e2 e3; subst e1; subst e3
    refine .inr ⟨g, off, c, cur, by rw [e0], h1, h2, by omega, h4, h5, ?_⟩
    rw [e0]
    have e := congrArg (List.take n) h6
    rw [List.take_take, show min n bs.length = n by omega] at e
    rw [e]; simp [vb, List.map_take]

theorem run_append_off {P : Program} (w : World) (t ty e : TypeId) (i : TypeInfo) (ht : P.underlying t = some (.slice e)) (hi : P.info? e = some i) (hs : i.size = 1)
    (g off sLen sCap : Nat) (cur : Array Value) (hg : w.heap[g]? = some (.cells cur e (0, 0)))
    (a : Addr) (m c : Nat) (news : List Value) (hl : news.length = m) (hnews : ∀ j u, news[j]? = some u → w.cell? (a.add j) = some u) (h1 : ∀ u ∈ news, u.oneCell' = true)
    (hroom : sLen + m ≤ sCap) (hfit : off + sLen + news.length ≤ cur.size) :
    (Builtin.append_ #[t, t] ty #[.slice (some ⟨g, off, none⟩) sLen sCap, .slice (some a) m c]).run P w =
      .ok (.slice (some ⟨g, off, none⟩) (sLen + m) sCap) (w.setRow g (cur.toList.take (off + sLen) ++ news ++ cur.toList.drop (off + sLen + news.length)).toArray) := by
  have hf := run_firstCells_some (P := P) w i.size m a m c news (by rw [hs]; omega) hnews
  have hst := run_storeCells_at P g (off + sLen) e news 0 cur w hg (by simpa using hfit) h1
  simp only [Nat.add_zero] at hst
  rw [hs] at hf
  simp [Builtin.append_, run_underlying ht, sizeOf, typeInfo, hi, Builtin.lenOf, hroom, hf, Addr.add_lit, hs]
  rw [hst]
  simp

section
variable {ops : Array Oper} {rest : List Oper} {o : Oper} {act : Act} {Q : Exit → Act → World → Prop} {w : World} {B : Nat} {v : Value} {bs : List UInt8}
/-- Bytes behind bytes of one's own, wherever they begin. -/
theorem app_off (news : List UInt8) (ad : Addr) (c : Nat) (hown : OwnO w B v bs) (hgd : o.guard = none) (s x : Operand) (ho : o.op = .call { callee := .builtin .append, args := #[s, x], argTypes := #[22, 22] })
    (hs : act.eval s = v) (hx : act.eval x = .slice (some ad) news.length c) (hn : ∀ j u, (vb news)[j]? = some u → w.cell? (ad.add j) = some u) (hB : B ≤ w.heap.size) (hl : bs.length + news.length ≤ 1000000)
    (h : ∀ v' w', OwnO w' B v' (bs ++ news) → Mod v.ownBlock.toList w w' → (∀ b, v'.ownBlock = some b → v.ownBlock = some b ∨ w.heap.size ≤ b) → wpList Try.prog ops Q rest (act.put o.dst v') w') : wpList Try.prog ops Q (o :: rest) act w := by
  obtain ⟨i0, hi, hz0, hz1, hz2⟩ := u8_info
  rcases hown with ⟨rfl, rfl⟩ | ⟨g, off, cap, cur, rfl, h1, h2, h3, h4, h5, h6⟩
  · exact app_row (bs := []) news ad c (World.ownsRow_nil w B _ _ : OwnB w B (.slice none 0 0) []) hgd s x ho hs hx hn hB hl fun v' w' k1 k2 k3 => h v' w' (OwnO.of k1) k2 (fun b hb => (k3 b hb).imp id (fun e => Nat.le_of_eq e.symm))
  · have one : ∀ u ∈ vb news, u.oneCell' = true := fun x hx => by simp only [vb, List.mem_map] at hx; obtain ⟨y, _, rfl⟩ := hx; rfl
    have hcl : cur.toList.length = cur.size := by simp
    refine wpList_plain hgd fun K hK => ?_
    by_cases hroom : bs.length + news.length ≤ cap
    · have hr := run_append_off (P := Try.prog) w 22 o.type 5 i0 Try.underlying22 hi hz1 g off bs.length cap cur h2 ad news.length c (vb news) (by simp) hn one hroom (by rw [vb_length]; omega)
      unfold Oper.wp execOp
      simp only [ho, resolve, invoke, builtin, Sem.run_bind, Sem.run_pure, Result.andThen_ok, List.map_toArray, List.map_cons, List.map_nil, hs, hx, hr]
      refine hK _ _ (h _ _ (.inr ⟨g, off, cap, _, by rw [List.length_append], h1, setRow_heap w g cur _ 5 _ h2, by rw [List.length_append]; exact hroom, h4, ?_, ?_⟩) ⟨rfl, rfl, rfl, by simp, fun k _ hk => setRow_other w g k _ (fun e => hk (by simp [Value.ownBlock, e]))⟩ fun b hb => .inl hb)
      · simp only [List.size_toArray, List.length_append, List.length_take, List.length_drop, vb_length]
        omega
      · refine List.ext_getElem? fun k => ?_
        rw [List.getElem?_take, vb_append, List.getElem?_drop]
        by_cases hk : k < (bs ++ news).length
        · rw [if_pos hk, List.append_assoc]
          rw [List.length_append] at hk
          have hlt : (cur.toList.take (off + bs.length)).length = off + bs.length := by rw [List.length_take]; omega
          by_cases hk1 : k < bs.length
          · rw [List.getElem?_append_left (by rw [hlt]; omega), List.getElem?_append_left (by rw [vb_length]; exact hk1), List.getElem?_take, if_pos (by omega), ← h6, List.getElem?_take, if_pos hk1, List.getElem?_drop]
          · have e1 : (List.take (off + bs.length) cur.toList ++ (vb news ++ List.drop (off + bs.length + (vb news).length) cur.toList))[off + k]? = (vb news)[k - bs.length]? := by
              rw [List.getElem?_append_right (by rw [hlt]; omega), hlt, List.getElem?_append_left (by rw [vb_length]; omega), show off + k - (off + bs.length) = k - bs.length by omega]
            have e2 : (vb bs ++ vb news)[k]? = (vb news)[k - bs.length]? := by rw [List.getElem?_append_right (by rw [vb_length]; omega), vb_length]
            rw [e1, e2]
        · rw [if_neg hk, List.getElem?_eq_none (by rw [List.length_append, vb_length, vb_length]; rw [List.length_append] at hk; omega)]
    · obtain ⟨v', w', hr, r1, r2⟩ := run_append_arg_grows (P := Try.prog) w 22 o.type 5 i0 (.int .u8 0) 1 1 Try.underlying22 hi hz0 hz1 hz2 rfl (by decide) ⟨g, off, none⟩ bs.length cap (vb bs) (by simp) (fun j u hj => by rw [add_eq]; exact cur_cells h2 h6 j u hj) ad news.length c (vb news) (by simp) hn (by omega) (by unfold maxLen; omega) (by omega)
      unfold Oper.wp execOp
      simp only [ho, resolve, invoke, builtin, Sem.run_bind, Sem.run_pure, Result.andThen_ok, List.map_toArray, List.map_cons, List.map_nil, hs, hx, hr]
      refine hK _ _ (h _ _ (OwnO.of ?_) ((Mod.refl _ w).grown r2 (fun k hk => by cases hk)) (fun b hb => .inr ((own_block r1 b hb))))
      unfold OwnB; rw [vb_append, List.length_append]; exact own_base r1 hB
/-- One byte behind them. -/
theorem app_off_one (b : UInt8) (n : Nat) (z : Int) (hown : OwnO w B v bs) (hgd : o.guard = none) (s x : Operand) (ho : o.op = .call { callee := .builtin .append, args := #[s, x], argTypes := #[22, 22] })
    (hs : act.eval s = v) (hx : act.eval x = .slice (some ⟨n, 0, none⟩) 1 1) (hn : w.cell? ⟨n, 0, none⟩ = some (.int .u8 z)) (hz : z = b.toNat) (hB : B ≤ w.heap.size) (hl : bs.length ≤ 900000)
    (h : ∀ v' w', OwnO w' B v' (bs ++ [b]) → Mod v.ownBlock.toList w w' → (∀ b, v'.ownBlock = some b → v.ownBlock = some b ∨ w.heap.size ≤ b) → wpList Try.prog ops Q rest (act.put o.dst v') w') : wpList Try.prog ops Q (o :: rest) act w :=
  app_off [b] ⟨n, 0, none⟩ 1 hown hgd s x ho hs hx (by subst hz; exact cells_one hn) hB (by simp; omega) h
end
end Go.Proofs.Ytnhnmpgjbopihaa.Frame
