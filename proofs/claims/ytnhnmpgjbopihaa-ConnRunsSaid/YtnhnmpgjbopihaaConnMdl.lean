/- conn's laws: the connection as lists that ConnRuns keeps: what its accept does. -/
import Derived.Test.YtnhnmpgjbopihaaConnPlain
import Derived.Test.YtnhnmpgjbopihaaOwnO
import Derived.Test.YtnhnmpgjbopihaaParseRef
namespace Go.Proofs.Ytnhnmpgjbopihaa.Frame
open Go Go.RowKit Go.YtnhnmpgjbopihaaMem Go.YtnhnmpgjbopihaaLex
set_option linter.unusedVariables false
set_option linter.unusedSimpArgs false
theorem run_nilnil (w : World) (ty : TypeId) : (Builtin.append_ #[22, 22] ty #[.slice none 0 0, .slice none 0 0]).run Try.prog w = .ok (.slice none 0 0) w := by
  obtain ⟨i, hi, _⟩ := u8_info
  simp [Builtin.append_, run_underlying Try.underlying22, run_underlying Try.underlying5, sizeOf, typeInfo, hi, Builtin.lenOf, Builtin.firstCells, loadCells, loadCellsFrom]
section
variable {ops : Array Oper} {rest : List Oper} {o : Oper} {act : Act} {Q : Exit → Act → World → Prop} {w : World} {B : Nat} {v : Value} {bs : List UInt8}
/-- A copy of bytes of one's own. -/
theorem app_copy (hown : OwnB w B v bs) (hz : bs = [] → v = .slice none 0 0) (hgd : o.guard = none) (s x : Operand) (ho : o.op = .call { callee := .builtin .append, args := #[s, x], argTypes := #[22, 22] })
    (hs : act.eval s = .slice none 0 0) (hx : act.eval x = v) (hl : bs.length ≤ 1000000)
    (h : ∀ v' w', OwnB w' w.heap.size v' bs → Mod [] w w' → wpList Try.prog ops Q rest (act.put o.dst v') w') : wpList Try.prog ops Q (o :: rest) act w := by
  cases bs with
  | nil =>
    refine wpList_plain hgd fun K hK' => ?_
    have hv := hz rfl
    subst hv
    have hrun := run_nilnil w o.type
    unfold Oper.wp
    simp [execOp, ho, resolve, invoke, builtin, hs, hx, hrun, Result.andThen]
    exact hK' _ _ (h _ _ (World.ownsRow_nil w _ _ _) (Mod.refl [] w))
  | cons c cs =>
    obtain ⟨g, cap, rfl, _, _, hc⟩ := own_one hown (by simp)
    refine app_row (B := w.heap.size) (v := .slice none 0 0) (bs := []) (c :: cs) ⟨g, 0, none⟩ cap (World.ownsRow_nil w _ _ _) hgd s x ho hs hx (fun j u hu => by rw [add_eq, Nat.zero_add]; exact hc j u hu) (Nat.le_refl _) (by simpa using hl) fun v' w' h1 h2 _ => h v' w' h1 h2
end
end Go.Proofs.Ytnhnmpgjbopihaa.Frame
namespace Go.Proofs.Ytnhnmpgjbopihaa.Conn
open Go Go.RowKit Go.YtnhnmpgjbopihaaMem Go.YtnhnmpgjbopihaaLex Go.Proofs.Ytnhnmpgjbopihaa.Frame Go.Proofs.Ytnhnmpgjbopihaa.Out
set_option linter.unusedVariables false
set_option linter.unusedSimpArgs false

/-- The model's block mb, its rows of its own above B: what came of a frame, what waits, was there a fault, is it open. -/
structure Mdl (w : World) (mb B : Nat) (vi vo : Value) (inn out : List UInt8) (er opn : Bool) : Prop where
  blk : Blk w mb 57 [vi, vo, .bool er, .bool opn]
  fi : OwnB w B vi inn
  fz : inn = [] → vi = .slice none 0 0
  fo : OwnO w B vo out
  dj : ∀ b, vi.ownBlock = some b → vo.ownBlock ≠ some b
  lt : mb < B
  le : B ≤ w.heap.size
theorem Mdl.mod {S : List Nat} {w w' : World} {mb B : Nat} {vi vo : Value} {inn out : List UInt8} {er opn : Bool} (h : Mdl w mb B vi vo inn out er opn) (hm : Mod S w w') (h1 : mb ∉ S) (h2 : ∀ b, vi.ownBlock = some b → b ∉ S) (h3 : ∀ b, vo.ownBlock = some b → b ∉ S) : Mdl w' mb B vi vo inn out er opn :=
  ⟨hm.blk h.blk h1, hm.own h.fi h2, h.fz, h.fo.mod hm h3, h.dj, h.lt, Nat.le_trans h.le hm.size⟩
theorem Mdl.mod0 {w w' : World} {mb B : Nat} {vi vo : Value} {inn out : List UInt8} {er opn : Bool} (h : Mdl w mb B vi vo inn out er opn) (hm : Mod [] w w') : Mdl w' mb B vi vo inn out er opn := h.mod hm (by simp) (by simp) (by simp)
def MAccPost (w : World) (mb B : Nat) (vi vo : Value) (r : Nat × CS) (e : Ending) (w' : World) : Prop :=
  ∃ vl vi' vo' inn', e = .returned (.tuple #[.int .i64 (r.1 : Nat), vl]) ∧ OwnQ w' w.heap.size vl r.2.reqs ∧ Mdl w' mb B vi' vo' inn' r.2.out (decide (r.2.err ≠ 0)) true ∧ (r.2.err = 0 → inn' = r.2.pend) ∧ Mod (mb :: vo.ownBlock.toList) w w' ∧
    (∀ b, vi'.ownBlock = some b → vi.ownBlock = some b ∨ w.heap.size ≤ b) ∧ (∀ b, vo'.ownBlock = some b → vo.ownBlock = some b ∨ w.heap.size ≤ b)

set_option maxRecDepth 8000 in
set_option maxHeartbeats 6400000 in
theorem mdl_accept {w : World} {mb B b off cap N : Nat} {rules : Int} {vi vo : Value} {inn bs : List UInt8} (s0 : CS) (hD : Mdl w mb B vi vo inn s0.out (decide (s0.err ≠ 0)) true) (hin : s0.err = 0 → inn = s0.pend) (hq0 : s0.reqs = [])
    (hp0 : s0.pend.length ≤ 100) (ho0 : s0.out.length ≤ N) (hN : N ≤ 1000) (hl : bs.length ≤ 100000) (hbB : b < mb) (hcell : ∀ i u, (vb bs)[i]? = some u → w.cell? ⟨b, off + i, none⟩ = some u) :
    Calls Try.prog 19 #[.pointer (some ⟨mb, 0, none⟩), .slice (some ⟨b, off, none⟩) bs.length cap, .int .i64 rules, .int .i64 N] w (MAccPost w mb B vi vo (crun rules N s0 bs)) := by
  have HD0 := Lib.hid hD
  have HX := Lib.hid hcell
  have HIN := Lib.hid hin
  have c3 := hD.blk.cell (i := 3) rfl
  have hBw := hD.le
  have hmB := hD.lt
  clear hD hcell hin
  go_enter Try.func19, Try.ntmps19
  go_wp2_with fail
  clear c3
  go_loopw [10, 24] (fun l i wr => ∃ (j : Nat) (s : CS) (vi' vo' : Value) (inn' : List UInt8), j ≤ bs.length ∧ i = .int .i64 j ∧ crun rules N s0 bs = (j + (crun rules N s (bs.drop j)).1, (crun rules N s (bs.drop j)).2) ∧ s.reqs.length ≤ j ∧ s.pend.length ≤ 100 + j ∧ s.out.length ≤ N ∧
      OwnQ wr w.heap.size l s.reqs ∧ Mdl wr mb B vi' vo' inn' s.out (decide (s.err ≠ 0)) true ∧ (s.err = 0 → inn' = s.pend) ∧ Mod (mb :: vo.ownBlock.toList) w wr ∧
      (∀ b, vi'.ownBlock = some b → vi.ownBlock = some b ∨ w.heap.size ≤ b) ∧ (∀ b, vo'.ownBlock = some b → vo.ownBlock = some b ∨ w.heap.size ≤ b) ∧ (∀ b, l.ownBlock = some b → vi'.ownBlock ≠ some b ∧ vo'.ownBlock ≠ some b)) (fun _ i _ => bs.length - (intOf i).toNat)
  case atStart => exact ⟨0, s0, vi, vo, inn, Nat.zero_le _, rfl, by simp, by rw [hq0]; exact Nat.le_refl _, by omega, ho0, by rw [hq0]; exact OwnQ.nil w _, HD0.out, HIN.out, Mod.refl _ w, fun b h => .inl h, fun b h => .inl h, fun b h => by cases h⟩
  case round =>
    obtain ⟨j, s, vi', vo', inn', hj, rfl, hrun, hrl, hpl, hol, hL, hD, hin, hM, hai, hao, hdj⟩ := hrel
    obtain ⟨al, cl, rfl⟩ := hL.slice
    obtain ⟨ao, co, rfl, -, -⟩ := hD.fo.slice
    have RUN := Lib.hid hrun
    have LR := Lib.hid hL
    have DR := Lib.hid hD
    have INR := Lib.hid hin
    have MR := Lib.hid hM
    have AI := Lib.hid hai
    have AO := Lib.hid hao
    have DJ := Lib.hid hdj
    by_cases hlt : j < bs.length
    · obtain ⟨c, hc⟩ : ∃ c, bs[j]? = some c := ⟨_, List.getElem?_eq_getElem hlt⟩
      have hbw : b ∉ (mb :: vo.ownBlock.toList) := by
        simp only [List.mem_cons, not_or]
        exact ⟨by omega, fun hx => by have := (HD0.out.fo.lt b (by simpa using hx)).1; omega⟩
      have cj : wr.cell? ⟨b, off + j, none⟩ = some (.int .u8 c.toNat) := (MR.out.cell (by show b < _; omega) hbw).trans (HX.out j _ (vb_get hc))
      have hdrop : bs.drop j = c :: bs.drop (j + 1) := by
        rw [List.drop_eq_getElem_cons hlt]; congr 1
        rw [List.getElem?_eq_getElem hlt] at hc; injection hc
      have HDR := Lib.hid hdrop
      have m0 := hD.blk.cell (i := 0) rfl
      have m1 := hD.blk.cell (i := 1) rfl
      have m2 := hD.blk.cell (i := 2) rfl
      have hsz := hM.size
      clear hrun hL hD hin hM hai hao hdj hbw hc hdrop
      by_cases he : s.err = 0
      · have HE := Lib.hid he
        have dE : decide (s.err ≠ 0) = false := by simp [he]
        rw [dE] at m2
        have DR' : Hid (Mdl wr mb B vi' (.slice ao s.out.length co) inn' s.out false true) := Lib.hid (by have := DR.out; rw [dE] at this; exact this)
        have hinn : inn' = s.pend := INR.out he
        subst hinn
        clear he dE DR INR
        obtain ⟨⟨op, rule, cost, key, k⟩, n, e, hp⟩ : ∃ q n e, parse (s.pend ++ [c]) rules = (q, n, e) := ⟨_, _, _, rfl⟩
        have HP := Lib.hid hp
        have ht : tried s.pend rules 0 c = (⟨op, rule, cost, key, k⟩, decide (0 < n), e) := by unfold tried; rw [if_neg (by simp), hp]
        have HT := Lib.hid ht
        clear hp ht
        have hcz : ((c.toNat : Nat) : Int) = ((c.toNat : Nat) : Int) := rfl
        go_wp2_with (at_builtin; first
          | ((refine app_copy DR'.out.fi DR'.out.fz rfl _ _ rfl rfl rfl (by omega) ?_; intro v3 w3 ho3 hM3; have O3 := Lib.hid ho3; have M3 := Lib.hid hM3; have z3 : wr.heap.size ≤ w3.heap.size := hM3.size; clear ho3 hM3 m0))
          | ((refine app_one c w3.heap.size c.toNat (O3.out.alloc (.cells #[.int .u8 (c.toNat : Int)] 5)) rfl _ _ rfl rfl rfl (World.cell?_alloc_at _ _ _ _ rfl) rfl (by simp; omega) (by omega) ?_; intro v4 w4 ho4 hM4 hat4; obtain ⟨a4, k4, rfl⟩ := own_slice ho4; rw [List.length_append, List.length_singleton] at ho4 hat4; have O4 := Lib.hid ho4; have M4 : Hid (Mod [] wr w4) := Lib.hid (((M3.out.alloc (.cells #[.int .u8 (c.toNat : Int)] 5)).trans' hM4 (fun x hx => .inr (own_block O3.out x (by simpa using hx))))); have z4 : w3.heap.size ≤ w4.heap.size := (by have := hM4.size; simp at this; omega); clear ho4 hM4 hat4)))
        have hpp : (s.pend ++ [c]).length ≤ 1000000 := by rw [List.length_append, List.length_singleton]; omega
        have hPar := refParse_any (Sl.own O4.out) hpp rules
        unfold ParsePost at hPar
        rw [HP.out] at hPar
        refine hPar.mono ?_
        rintro e5 w5 ⟨rfl, hM5⟩
        simp only [Req.val]
        clear hPar hpp
        have A5 := Lib.hid ((Mod.refl [] w5).alloc (.cells #[.int .i64 op, .int .i64 rule, .int .u32 cost, .string ⟨key.toArray⟩, .int .i64 k] 50))
        have M5 := Lib.hid ((M4.out.trans hM5).trans A5.out)
        have BX5 : Hid (Box (w5.alloc (.cells #[.int .i64 op, .int .i64 rule, .int .u32 cost, .string ⟨key.toArray⟩, .int .i64 k] 50)) w5.heap.size ⟨op, rule, cost, key, k⟩) := Lib.hid (Box.new w5 ⟨op, rule, cost, key, k⟩ rfl)
        have D5 := Lib.hid (DR'.out.mod0 M5.out)
        have O5 : Hid (OwnB (w5.alloc (.cells #[.int .i64 op, .int .i64 rule, .int .u32 cost, .string ⟨key.toArray⟩, .int .i64 k] 50)) wr.heap.size (.slice a4 (s.pend.length + 1) k4) (s.pend ++ [c])) := Lib.hid (by
          have h := O4.out
          exact (hM5.trans A5.out).own h (by simp))
        have L5 : Hid (OwnQ (w5.alloc (.cells #[.int .i64 op, .int .i64 rule, .int .u32 cost, .string ⟨key.toArray⟩, .int .i64 k] 50)) w.heap.size (.slice al s.reqs.length cl) s.reqs) := Lib.hid (LR.out.mod M5.out (by simp))
        have WM5 := Lib.hid (MR.out.trans (M5.out.mono (by simp)))
        have z5 : w4.heap.size ≤ w5.heap.size := hM5.size
        have zr : wr.heap.size ≤ w5.heap.size := (M4.out.trans hM5).size
        have V4 : Hid (∀ b, (Value.slice a4 (s.pend.length + 1) k4).ownBlock = some b → wr.heap.size ≤ b ∧ b < w5.heap.size) := Lib.hid (fun b hb => ⟨own_block O5.out b hb, Nat.lt_of_lt_of_le (O4.out.lt b hb).2 z5⟩)
        have VI : Hid (∀ b, vi'.ownBlock = some b → b < wr.heap.size) := Lib.hid (fun b hb => (DR'.out.fi.lt b hb).2)
        have VO : Hid (∀ b, (Value.slice ao s.out.length co).ownBlock = some b → b < wr.heap.size) := Lib.hid (fun b hb => (DR'.out.fo.lt b hb).2)
        have b0 := D5.out.blk.cell (i := 0) rfl
        have b1 := D5.out.blk.cell (i := 1) rfl
        have b2 := D5.out.blk.cell (i := 2) rfl
        have g0 := D5.out.blk.free 0
        have g1 := D5.out.blk.free 1
        have g2 := D5.out.blk.free 2
        have dE : decide (s.err ≠ 0) = false := by simp [HE.out]
        have DE := Lib.hid dE
        clear hM5 m1 m2 z3 z4 dE
        by_cases hee : e = 0
        · subst hee
          by_cases hn : n = 0
          · subst hn
            have hst : Hid (cstep rules N s c = some ⟨s.pend ++ [c], 0, s.out, s.reqs⟩) := Lib.hid (by simp only [cstep, HE.out, HT.out]; rw [if_neg (by simp), if_neg (by simp), if_neg (by simp)])
            go_wp2_with fail
            exact ⟨⟨j + 1, ⟨s.pend ++ [c], 0, s.out, s.reqs⟩, .slice a4 (s.pend.length + 1) k4, .slice ao s.out.length co, s.pend ++ [c], by omega, by go_num, step_run RUN.out HDR.out hst.out, by show s.reqs.length ≤ _; omega, by show (s.pend ++ [c]).length ≤ _; rw [List.length_append, List.length_singleton]; omega, hol, L5.out.mod ((Mod.refl [mb] _).setCell (p := ⟨mb, 0, none⟩) (by simp) (.slice a4 (s.pend.length + 1) k4)) (by simp; omega),
              ⟨D5.out.blk.set 0 (.slice a4 (s.pend.length + 1) k4), ((Mod.refl [mb] _).setCell (p := ⟨mb, 0, none⟩) (by simp) (.slice a4 (s.pend.length + 1) k4)).own (own_base O5.out (by omega)) (fun b hb => by have := V4.out b hb; simp; omega), fun h => by simp at h, D5.out.fo.mod ((Mod.refl [mb] _).setCell (p := ⟨mb, 0, none⟩) (by simp) (.slice a4 (s.pend.length + 1) k4)) (fun b hb => by have := (D5.out.fo.lt b hb).1; simp; omega), fun b h1 h2 => by have := V4.out b h1; have := VO.out b h2; omega, hmB, by have := D5.out.le; simpa using this⟩,
              fun _ => rfl, WM5.out.setCell (p := ⟨mb, 0, none⟩) (by simp) (.slice a4 (s.pend.length + 1) k4), fun b hb => .inr (by have := V4.out b hb; omega), AO.out, fun b hb => ⟨fun h => by have := V4.out b h; have := (LR.out.lt b hb).2; omega, (DJ.out b hb).2⟩⟩, by simp [intOf]; omega⟩
          · have hn1 : decide ((0 : Int) < (n : Int)) = true := by simp; omega
            have dn : decide (0 < n) = true := by simp; omega
            obtain ⟨n3, hn3⟩ : ∃ n3, cost % 30 = n3 := ⟨_, rfl⟩
            have hnI : (cost : Int) % 30 = (n3 : Int) := by omega
            have hn30 : n3 < 30 := by omega
            have HN3 := Lib.hid hn3
            have DN := Lib.hid dn
            clear hn3 dn
            go_wp2_with fail
            refine wp_region_lex (by kernel_rfl) (by kernel_rfl) ?_
            go_wp2_with fail
            refine ⟨by kernel_rfl, ?_⟩
            by_cases hroom : N < s.out.length + (n3 + 1)
            · have dr : decide ((N : Int) < (s.out.length : Int) + (n3 : Int) + 1) = true := by simp; omega
              have hst : Hid (crun rules N s (bs.drop j) = (0, s)) := Lib.hid (by rw [HDR.out]; unfold crun; simp only [cstep, HE.out, HT.out, HN3.out, DN.out]; rw [if_neg (by simp), if_neg (by simp), if_pos trivial, if_pos hroom])
              go_wp2_with fail
              go_ret2
              refine ⟨.slice al s.reqs.length cl, vi', .slice ao s.out.length co, s.pend, ?_, ?_, ?_, fun _ => ?_, WM5.out.drew, AI.out, AO.out⟩
              all_goals rw [RUN.out, hst.out]
              · simp
              · exact L5.out
              · show Mdl _ _ _ _ _ _ s.out (decide (s.err ≠ 0)) true
                rw [DE.out]; exact D5.out.mod0 (Mod.drew (Mod.refl [] _))
            · have dr : decide ((N : Int) < (s.out.length : Int) + (n3 : Int) + 1) = false := by simp; omega
              have hst : Hid (cstep rules N s c = some ⟨[], 0, s.out ++ ansOf ⟨op, rule, cost, key, k⟩, s.reqs ++ [⟨op, rule, cost, key, k⟩]⟩) := Lib.hid (by simp only [cstep, HE.out, HT.out, HN3.out, DN.out]; rw [if_neg (by simp), if_neg (by simp), if_pos trivial, if_neg hroom])
              have A6 := Lib.hid ((Mod.drew (Mod.refl [] (w5.alloc (.cells #[.int .i64 op, .int .i64 rule, .int .u32 cost, .string ⟨key.toArray⟩, .int .i64 k] 50)))).alloc (.cells #[.int .i64 op, .int .i64 rule, .int .u32 cost, .string ⟨key.toArray⟩, .int .i64 k] 50))
              go_wp2_with (at_builtin; go_must (refine app_req_at ⟨op, rule, cost, key, k⟩ (w5.heap.size + 1) (L5.out.mod A6.out (by simp)) rfl _ _ rfl rfl rfl (Box.new (w5.alloc (.cells #[.int .i64 op, .int .i64 rule, .int .u32 cost, .string ⟨key.toArray⟩, .int .i64 k] 50)).drew ⟨op, rule, cost, key, k⟩ (by simp)) (by simp; omega) (by omega) ?_; intro v7 w7 ho7 hM7 hat7; obtain ⟨a7, k7, rfl⟩ := ho7.slice; rw [List.length_append, List.length_singleton] at ho7 hat7; have O7 := Lib.hid ho7; have N7 : Hid (Mod (Value.slice al s.reqs.length cl).ownBlock.toList (w5.alloc (.cells #[.int .i64 op, .int .i64 rule, .int .u32 cost, .string ⟨key.toArray⟩, .int .i64 k] 50)) w7) := Lib.hid ((A6.out.mono (by simp)).trans hM7); have HAT7 := Lib.hid hat7; have LL : Hid (∀ x, x ∈ (Value.slice al s.reqs.length cl).ownBlock.toList → w.heap.size ≤ x ∧ x < wr.heap.size ∧ vi'.ownBlock ≠ some x ∧ (Value.slice ao s.out.length co).ownBlock ≠ some x) := Lib.hid (fun x hx => ⟨own_block LR.out x (by simpa using hx), (LR.out.lt x (by simpa using hx)).2, DJ.out x (by simpa using hx)⟩); have BX7 : Hid (Box w7 w5.heap.size ⟨op, rule, cost, key, k⟩) := Lib.hid (N7.out.blk BX5.out (fun hx => by have := LL.out _ hx; omega)); have q2 := BX7.out.cell (i := 2) rfl; clear ho7 hM7 hat7))
              have D7 : Hid (Mdl w7 mb B vi' (.slice ao s.out.length co) s.pend s.out false true) := Lib.hid (D5.out.mod N7.out (fun hx => by have := LL.out _ hx; omega) (fun b hb hx => (LL.out b hx).2.2.1 hb) (fun b hb hx => (LL.out b hx).2.2.2 hb))
              have W7 : Hid (Mod (mb :: vo.ownBlock.toList) w w7) := Lib.hid (WM5.out.trans' N7.out (fun x hx => .inr (LL.out x hx).1))
              have z7 : w5.heap.size + 1 ≤ w7.heap.size := by have := N7.out.size; simpa using this
              clear b0 b1 b2 g0 g1 g2 q2
              obtain ⟨wb, rfl⟩ : ∃ wb, wb = wr := ⟨_, rfl⟩
              go_loopw [101] (fun i wi => ∃ (m : Nat) (v8 : Value), m ≤ n3 ∧ i = .int .u32 (m : Int) ∧ Mdl wi mb B vi' v8 s.pend (s.out ++ List.replicate m (b8 key.length)) false true ∧ Mod (mb :: (Value.slice ao s.out.length co).ownBlock.toList) w7 wi ∧ (∀ b, v8.ownBlock = some b → (Value.slice ao s.out.length co).ownBlock = some b ∨ w7.heap.size ≤ b)) (fun i _ => n3 - (intOf i).toNat)
              case atStart => exact ⟨0, .slice ao s.out.length co, Nat.zero_le _, rfl, by simpa using D7.out, Mod.refl _ w7, fun b h => .inl h⟩
              case round =>
                obtain ⟨m, v8, hm, rfl, hD8, hM8, hat8⟩ := hrel
                obtain ⟨a8, k8, rfl, -, -⟩ := hD8.fo.slice
                have hlen8 : (s.out ++ List.replicate m (b8 key.length)).length = s.out.length + m := by rw [List.length_append, List.length_replicate]
                rw [hlen8] at hD8 hat8
                have D8 := Lib.hid hD8
                have M8 := Lib.hid hM8
                have AT8 := Lib.hid hat8
                have VOL : Hid (∀ x, x ∈ (Value.slice ao s.out.length co).ownBlock.toList → x < wb.heap.size ∧ (vo.ownBlock = some x ∨ w.heap.size ≤ x)) := Lib.hid (fun x hx => ⟨VO.out x (by simpa using hx), AO.out x (by simpa using hx)⟩)
                have BX8 : Hid (Box wr w5.heap.size ⟨op, rule, cost, key, k⟩) := Lib.hid (hM8.blk BX7.out (fun hx => by rcases List.mem_cons.1 hx with h | h; (omega); (have := (VOL.out _ h).1; omega)))
                have mbN : mb ∉ (Value.slice a8 (s.out.length + m) k8).ownBlock.toList := fun hx => by have := (hD8.fo.lt mb (by simpa using hx)).1; omega
                have MBN := Lib.hid mbN
                have z8 : w7.heap.size ≤ wr.heap.size := hM8.size
                clear hM8 hat8 mbN
                by_cases hlt3 : m < n3
                · have c1 := hD8.blk.cell (i := 1) rfl
                  have p3 := BX8.out.cell (i := 3) rfl
                  have hkv := b8_val (key.length : Int)
                  have ISC := Lib.hid (show IsC wr.drew mb from isC_of_cell (w := wr.drew) c1)
                  clear hD8
                  go_wp2_with fail
                  refine wp_region_held [] [4] (Value.slice a8 (s.out.length + m) k8).ownBlock.toList (by kernel_rfl) (by kernel_rfl) ?_
                  simp only [wpCut, List.take_succ_cons, List.take_zero, List.drop_succ_cons, List.drop_zero]
                  go_wp2_with (at_builtin; go_must (refine app_off_one (b8 key.length) wr.heap.size (b8 key.length).toNat (D8.out.fo.mod (Mod.drew ((Mod.refl [] wr).alloc (.cells #[.int .u8 ((b8 (key.length : Int)).toNat : Int)] 5))) (by simp)) rfl _ _ rfl rfl rfl ((Blk.new wr [.int .u8 ((b8 (key.length : Int)).toNat : Int)] 5).drew.cell (i := 0) rfl) rfl (by have := D8.out.le; simp; omega) (by omega) ?_; intro v9 w9 ho9 hM9 hat9; obtain ⟨a9, k9, rfl, -, -⟩ := ho9.slice; rw [List.append_assoc, ← List.replicate_succ'] at ho9 hat9; have hlen9 : (s.out ++ List.replicate (m + 1) (b8 key.length)).length = s.out.length + (m + 1) := (by rw [List.length_append, List.length_replicate]); rw [hlen9] at ho9 hat9; have O9 := Lib.hid ho9; have N9 : Hid (Mod (Value.slice a8 (s.out.length + m) k8).ownBlock.toList wr w9) := Lib.hid (((Mod.drew ((Mod.refl [] wr).alloc (.cells #[.int .u8 ((b8 (key.length : Int)).toNat : Int)] 5))).mono (by simp)).trans hM9); have HAT9 := Lib.hid hat9; have b1 := (N9.out.blk D8.out.blk MBN.out).cell (i := 1) rfl; have g1 := (N9.out.blk D8.out.blk MBN.out).free 1; have z9 : wr.heap.size ≤ w9.heap.size := N9.out.size; clear ho9 hM9 hat9 hlen9 c1 p3))
                  refine ⟨by kernel_rfl, ⟨⟨MBN.out, ISC.out⟩, trivial⟩, ?_⟩
                  go_wp2_with fail
                  have MS : Hid (Mod [mb] w9 (w9.setCell ⟨mb, 1, none⟩ (.slice a9 (s.out.length + (m + 1)) k9))) := Lib.hid ((Mod.refl [mb] w9).setCell (p := ⟨mb, 1, none⟩) (.inl (by simp)) (.slice a9 (s.out.length + (m + 1)) k9))
                  refine ⟨⟨m + 1, .slice a9 (s.out.length + (m + 1)) k9, by omega, by go_num, ⟨(N9.out.blk D8.out.blk MBN.out).set 1 _, MS.out.own (N9.out.own D8.out.fi (fun b hb hx => D8.out.dj b hb (by simpa using hx))) (fun b hb => by have := own_block D8.out.fi b hb; simp; omega), D8.out.fz, O9.out.mod MS.out (fun b hb => by have := (O9.out.lt b hb).1; simp; omega), fun b h1 h2 => ?_, hmB, by have := D8.out.le; simp; omega⟩,
                    (M8.out.trans' N9.out (fun x hx => (AT8.out x (by simpa using hx)).imp (fun h => List.mem_cons_of_mem _ (by simpa using h)) id)).trans (MS.out.mono (by simp)), fun b hb => (HAT9.out b hb).elim (fun h => AT8.out b h) (fun h => .inr ?_)⟩, by simp [intOf]; omega⟩
                  · refine (HAT9.out b h2).elim (fun h => D8.out.dj b h1 h) (fun h => ?_)
                    have h3 := (D8.out.fi.lt b h1).2
                    simp at h
                    omega
                  · simp at h
                    omega
                · obtain rfl : m = n3 := by omega
                  have b0 := hD8.blk.cell (i := 0) rfl
                  have g0 := hD8.blk.free 0
                  clear hD8
                  go_wp2_with fail
                  have MS : Hid (Mod [mb] wr (wr.setCell ⟨mb, 0, none⟩ (.slice none 0 0))) := Lib.hid ((Mod.refl [mb] wr).setCell (p := ⟨mb, 0, none⟩) (.inl (by simp)) (.slice none 0 0))
                  have ANS : Hid (s.out ++ List.replicate m (b8 key.length) = s.out ++ ansOf ⟨op, rule, cost, key, k⟩) := Lib.hid (by unfold ansOf; rw [HN3.out])
                  have L8 : Hid (OwnQ wr w.heap.size (.slice a7 (s.reqs.length + 1) k7) (s.reqs ++ [⟨op, rule, cost, key, k⟩])) := Lib.hid (M8.out.own O7.out (fun b hb hx => by
                    have h1 := own_block O7.out b hb
                    rcases List.mem_cons.1 hx with h | h
                    · omega
                    · have h2 := (VOL.out b h).1
                      rcases HAT7.out b hb with h3 | h3
                      · exact (LL.out b (by simpa using h3)).2.2.2 (by simpa using h)
                      · simp at h3; omega))
                  refine ⟨⟨j + 1, ⟨[], 0, s.out ++ ansOf ⟨op, rule, cost, key, k⟩, s.reqs ++ [(⟨op, rule, cost, key, k⟩ : Req)]⟩, .slice none 0 0, .slice a8 (s.out.length + m) k8, [], by omega, by go_num, step_run RUN.out HDR.out hst.out, by show (s.reqs ++ [_]).length ≤ _; rw [List.length_append, List.length_singleton]; omega, by simp, ?_, MS.out.own L8.out (fun b hb => by have := own_block O7.out b hb; simp; omega),
                    ⟨D8.out.blk.set 0 _, World.ownsRow_nil _ _ _ _, fun _ => rfl, by have h := D8.out.fo.mod MS.out (fun b hb => by have := (D8.out.fo.lt b hb).1; simp; omega); rw [ANS.out] at h; exact h, fun b h1 => (by cases h1), hmB, by have := D8.out.le; simp; omega⟩,
                    fun _ => rfl, (W7.out.trans' M8.out (fun x hx => by
                      rcases List.mem_cons.1 hx with h | h
                      · left; simp [h]
                      · exact (VOL.out x h).2.imp (fun h => List.mem_cons_of_mem _ (by simpa using h)) id)).trans (MS.out.mono (by simp)), fun b hb => (by cases hb), fun b hb => (AT8.out b hb).elim (fun h => AO.out b h) (fun h => .inr ?_), fun b hb => ⟨fun h => (by cases h), fun h => ?_⟩⟩, by simp [intOf]; omega⟩
                  · show (s.out ++ ansOf ⟨op, rule, cost, key, k⟩).length ≤ N
                    rw [← ANS.out, hlen8]; omega
                  · have := W7.out.size; omega
                  · rcases AT8.out b h with h1 | h1
                    · have h2 := (VOL.out b (by simpa using h1)).1
                      rcases HAT7.out b hb with h3 | h3
                      · exact (LL.out b (by simpa using h3)).2.2.2 h1
                      · simp at h3; omega
                    · have := (O7.out.lt b hb).2; omega
        · have hee1 : ((e : Int) != 0) = true := by simp; omega
          by_cases hroom : N < s.out.length + 6
          · have dr : decide ((N : Int) < (s.out.length : Int) + 6) = true := by simp; omega
            have hst : Hid (crun rules N s (bs.drop j) = (0, s)) := Lib.hid (by rw [HDR.out]; unfold crun; simp only [cstep, HE.out, HT.out]; rw [if_neg (by simp), if_pos hee, if_pos hroom])
            go_wp2_with fail
            go_ret2
            refine ⟨.slice al s.reqs.length cl, vi', .slice ao s.out.length co, s.pend, ?_, ?_, ?_, fun _ => ?_, WM5.out, AI.out, AO.out⟩
            all_goals rw [RUN.out, hst.out]
            · simp
            · exact L5.out
            · show Mdl _ _ _ _ _ _ s.out (decide (s.err ≠ 0)) true
              rw [DE.out]; exact D5.out
          · have dr : decide ((N : Int) < (s.out.length : Int) + 6) = false := by simp; omega
            have hst : Hid (cstep rules N s c = some ⟨[], e, s.out ++ faultB e, s.reqs⟩) := Lib.hid (by simp only [cstep, HE.out, HT.out]; rw [if_neg (by simp), if_pos hee, if_neg hroom])
            have ISC := Lib.hid (show IsC (w5.alloc (.cells #[.int .i64 op, .int .i64 rule, .int .u32 cost, .string ⟨key.toArray⟩, .int .i64 k] 50)).drew mb from isC_of_cell (w := (w5.alloc (.cells #[.int .i64 op, .int .i64 rule, .int .u32 cost, .string ⟨key.toArray⟩, .int .i64 k] 50)).drew) b1)
            go_wp2_with fail
            refine wp_region_held [7] [4] [] (by kernel_rfl) (by kernel_rfl) ?_
            simp only [wpCut, List.take_succ_cons, List.take_zero, List.drop_succ_cons, List.drop_zero]
            go_wp2_with fail
            refine (refFaulted _ e).mono ?_
            rintro x w6 ⟨v6, rfl, ho6, hM6⟩
            obtain ⟨g6, cap6, rfl, hg6, hg6l, hx6⟩ := own_one ho6 (by simp [frame])
            have M56 : Hid (Mod [] (w5.alloc (.cells #[.int .i64 op, .int .i64 rule, .int .u32 cost, .string ⟨key.toArray⟩, .int .i64 k] 50)) w6) := Lib.hid ((Mod.drew (Mod.refl [] _)).trans hM6)
            have D6 := Lib.hid (D5.out.mod0 M56.out)
            have N6 := Lib.hid hM6
            have HX6 := Lib.hid hx6
            have z6 : w5.heap.size + 1 ≤ w6.heap.size := by have := M56.out.size; simpa using this
            have b0' := D6.out.blk.cell (i := 0) rfl
            have b2' := D6.out.blk.cell (i := 2) rfl
            clear ho6 hM6 hx6 hg6 b0 b1 b2 g0 g1 g2
            go_wp2_with fail
            refine ⟨N6.out, ?_⟩
            go_wp2_with (at_builtin; go_must (refine app_off (faultB e) ⟨g6, 0, none⟩ cap6 D6.out.fo rfl _ _ rfl rfl rfl (fun i u hu => by rw [add_eq, Nat.zero_add]; exact HX6.out i u hu) D6.out.le (by rw [faultB_length]; omega) ?_; intro v7 w7 ho7 hM7 hat7; obtain ⟨a7, k7, rfl, -, -⟩ := ho7.slice; rw [List.length_append, faultB_length] at ho7 hat7; have O7 := Lib.hid ho7; have N7 := Lib.hid hM7; have HAT7 := Lib.hid hat7; have mbN : mb ∉ (Value.slice ao s.out.length co).ownBlock.toList := (fun hx => by have := (D6.out.fo.lt mb (by simpa using hx)).1; omega); have MBN := Lib.hid mbN; have b0 := (hM7.blk D6.out.blk mbN).cell (i := 0) rfl; have b1 := (hM7.blk D6.out.blk mbN).cell (i := 1) rfl; have b2 := (hM7.blk D6.out.blk mbN).cell (i := 2) rfl; have g0 := (hM7.blk D6.out.blk mbN).free 0; have g1 := (hM7.blk D6.out.blk mbN).free 1; have g2 := (hM7.blk D6.out.blk mbN).free 2; clear ho7 hM7 hat7 mbN b0' b2'))
            refine ⟨by kernel_rfl, ⟨⟨by simp, ISC.out⟩, trivial⟩, ?_⟩
            go_wp2_with fail
            have MS : Hid (Mod [mb] w7 (((w7.setCell ⟨mb, 1, none⟩ (.slice a7 (s.out.length + 6) k7)).setCell ⟨mb, 2, none⟩ (.bool true)).setCell ⟨mb, 0, none⟩ (.slice a4 (s.pend.length + 1) k4))) := Lib.hid ((((Mod.refl [mb] w7).setCell (p := ⟨mb, 1, none⟩) (.inl (by simp)) (.slice a7 (s.out.length + 6) k7)).setCell (p := ⟨mb, 2, none⟩) (.inl (by simp)) (.bool true)).setCell (p := ⟨mb, 0, none⟩) (.inl (by simp)) (.slice a4 (s.pend.length + 1) k4))
            have VOL : Hid (∀ x, x ∈ (Value.slice ao s.out.length co).ownBlock.toList → x < wr.heap.size ∧ (vo.ownBlock = some x ∨ w.heap.size ≤ x) ∧ ∀ y, (Value.slice al s.reqs.length cl).ownBlock = some y → y ≠ x) := Lib.hid (fun x hx => ⟨VO.out x (by simpa using hx), AO.out x (by simpa using hx), fun y hy e => (DJ.out y hy).2 (by rw [e]; simpa using hx)⟩)
            have hz67 : w6.heap.size ≤ w7.heap.size := N7.out.size
            have BK7 := Lib.hid (N7.out.blk D6.out.blk MBN.out)
            have L7 : Hid (OwnQ w7 w.heap.size (.slice al s.reqs.length cl) s.reqs) := Lib.hid (N7.out.own (L5.out.mod M56.out (by simp)) (fun b hb hx => (VOL.out b hx).2.2 b hb rfl))
            have O47 : Hid (OwnB w7 wr.heap.size (.slice a4 (s.pend.length + 1) k4) (s.pend ++ [c])) := Lib.hid (N7.out.own (M56.out.own O5.out (by simp)) (fun b hb hx => by have := V4.out b hb; have := (VOL.out b hx).1; omega))
            refine ⟨⟨j + 1, ⟨[], e, s.out ++ faultB e, s.reqs⟩, .slice a4 (s.pend.length + 1) k4, .slice a7 (s.out.length + 6) k7, s.pend ++ [c], by omega, by go_num, step_run RUN.out HDR.out hst.out, by show s.reqs.length ≤ _; omega, by simp, by show (s.out ++ faultB e).length ≤ N; rw [List.length_append, faultB_length]; omega, MS.out.own L7.out (fun b hb => by have := own_block L7.out b hb; simp; omega),
              ⟨?_, MS.out.own (own_base O47.out (by omega)) (fun b hb => by have := V4.out b hb; simp; omega), fun h => by simp at h, O7.out.mod MS.out (fun b hb => by have := (O7.out.lt b hb).1; simp; omega), fun b h1 h2 => by have := V4.out b h1; exact (HAT7.out b h2).elim (fun h => by have := (VOL.out b (by simpa using h)).1; omega) (fun h => by omega), hmB, by have := D6.out.le; simp; omega⟩,
              fun h => absurd h hee, (((WM5.out.trans (M56.out.mono (by simp))).trans' N7.out (fun x hx => (VOL.out x hx).2.1.imp (fun h => List.mem_cons_of_mem _ (by simpa using h)) id)).trans (MS.out.mono (by simp))), fun b hb => .inr (by have := V4.out b hb; omega), fun b hb => (HAT7.out b hb).elim (fun h => AO.out b h) (fun h => .inr (by omega)), fun b hb => ⟨fun h => by have := V4.out b h; have := (LR.out.lt b hb).2; omega, fun h => by have := (LR.out.lt b hb).2; exact (HAT7.out b h).elim (fun h => (DJ.out b hb).2 h) (fun h => by omega)⟩⟩, by simp [intOf]; omega⟩
            have := ((BK7.out.set 1 (.slice a7 (s.out.length + 6) k7)).set 2 (.bool true)).set 0 (.slice a4 (s.pend.length + 1) k4)
            have dE1 : decide (e ≠ 0) = true := by simpa using hee
            show Blk _ mb _ [_, _, .bool (decide (e ≠ 0)), _]
            rw [dE1]; exact this
      · have HE := Lib.hid he
        have dE : decide (s.err ≠ 0) = true := by simpa using he
        rw [dE] at m2
        have hst : Hid (crun rules N s (bs.drop j) = (0, s)) := Lib.hid (by rw [HDR.out]; unfold crun; simp only [cstep, if_pos he])
        clear he dE
        go_wp2_with fail
        go_ret2
        refine ⟨.slice al s.reqs.length cl, vi', .slice ao s.out.length co, inn', ?_, ?_, ?_, ?_, MR.out, AI.out, AO.out⟩
        all_goals rw [RUN.out, hst.out]
        · simp
        · exact LR.out
        · exact DR.out
        · exact INR.out
    · obtain rfl : j = bs.length := by omega
      have hst : Hid (crun rules N s (bs.drop bs.length) = (0, s)) := Lib.hid (by rw [List.drop_length]; rfl)
      clear hrun hL hD hin hM hai hao hdj
      go_wp2_with fail
      go_ret2
      refine ⟨.slice al s.reqs.length cl, vi', .slice ao s.out.length co, inn', ?_, ?_, ?_, ?_, MR.out, AI.out, AO.out⟩
      all_goals rw [RUN.out, hst.out]
      · simp
      · exact LR.out
      · exact DR.out
      · exact INR.out
end Go.Proofs.Ytnhnmpgjbopihaa.Conn
