/- The law's own model of a summary: offer, walked. -/
import Derived.Test.YtpobjhmfidebbaaSumMdl
import Derived.Test.YtpobjhmfidebbaaOwn
import Derived.Test.YtpobjhmfidebbaaSumLaw2
import Derived.Deep.Cut
import Derived.Maps.AppendAt
namespace Go.Proofs.Ytpobjhmfidebbaa.Sum
open Go Go.RowKit Go.YtpobjhmfidebbaaMem Go.YtpobjhmfidebbaaLex Go.YtpobjhmfidebbaaRange Go.Proofs.Ytpobjhmfidebbaa.Hash Go.Proofs.Ytpobjhmfidebbaa.Keys Go.Proofs.Ytpobjhmfidebbaa.Index
set_option linter.unusedVariables false
set_option linter.unusedSimpArgs false

abbrev rowE (w : World) (base : Nat) (v : Value) (E : List Ent) : Prop := w.ownsRow base 46 3 v E.length (flatE E)
theorem app_ent {ops : Array Oper} {rest : List Oper} {o : Oper} {act : Go.Act} {Q : Exit → Go.Act → World → Prop} {w : World} {v : Value} {B : Nat} {E : List Ent} (e : Ent) (g : Nat) (hown : rowE w B v E) (hgd : o.guard = none) (sl x : Operand) (ho : o.op = .call { callee := .builtin .append, args := #[sl, x], argTypes := #[49, 49] })
    (hs : act.eval sl = v) (hx : act.eval x = .slice (some ⟨g, 0, none⟩) 1 1) (hn : Blk w g 46 e.cells) (hB : B ≤ w.heap.size) (hl : E.length ≤ 900000)
    (h : ∀ v' w', rowE w' B v' (E ++ [e]) → Mod v.ownBlock.toList w w' → (v'.ownBlock = v.ownBlock ∨ v'.ownBlock = some w.heap.size) → wpList Try.prog ops Q rest (act.put o.dst v') w') : wpList Try.prog ops Q (o :: rest) act w := by
  obtain ⟨i0, hi, hz0, hz1, hz2⟩ := count_info
  refine wpList_append_own_at w hgd sl x 49 ho B 46 i0 _ 3 32 Try.underlying49 hi hz0 hz1 hz2 rfl (by decide) v E.length (flatE E) hs hown ⟨g, 0, none⟩ 1 1 e.cells hx rfl (fun j u hu => by rw [add_eq, Nat.zero_add]; exact hn.cell hu)
    (fun x hx => by simp [Ent.cells] at hx; rcases hx with rfl | rfl | rfl <;> rfl) (by unfold maxLen; omega) (by omega) hB fun v' w' h1 h2 _ h4 => h v' w' (by unfold rowE; rw [flatE_snoc, List.length_append]; exact h1) (grown_mod (Mod.refl [] w) h2) h4
theorem flatE_length (E : List Ent) : (flatE E).length = E.length * 3 := by
  unfold flatE
  induction E with
  | nil => rfl
  | cons x E ih => rw [List.flatMap_cons, List.length_append, ih]; simp [Ent.cells]; omega
theorem flatE_set : ∀ (E : List Ent) (i : Nat) (c : Ent), i < E.length → flatE (E.set i c) = (((flatE E).set (i * 3) (.string ⟨c.key.toArray⟩)).set (i * 3 + 1) (.int .i64 c.n)).set (i * 3 + 2) (.int .i64 c.err)
  | [], i, c, h => by simp at h
  | x :: C, 0, c, h => by
    unfold flatE
    rw [List.set_cons_zero, List.flatMap_cons, List.flatMap_cons]
    rfl
  | x :: C, i + 1, c, h => by
    have ih := flatE_set C i c (by simpa using h)
    unfold flatE at *
    rw [List.set_cons_succ, List.flatMap_cons, List.flatMap_cons, ih]
    have e : x.cells.length = 3 := rfl
    have hs : ∀ (A B : List Value) (k : Nat) (v : Value), A.length = 3 → (A ++ B).set (k + 3) v = A ++ B.set k v := fun A B k v ha => by
      rw [List.set_append, if_neg (by omega)]; congr 2; omega
    rw [show (i + 1) * 3 = i * 3 + 3 by omega, show i * 3 + 3 + 1 = i * 3 + 1 + 3 by omega, show i * 3 + 3 + 2 = i * 3 + 2 + 3 by omega, hs _ _ _ _ e, hs _ _ _ _ e, hs _ _ _ _ e]
theorem flatE_n {E : List Ent} {i : Nat} {c : Ent} (h : E[i]? = some c) (z : Int) : (flatE E).set (i * 3 + 1) (.int .i64 z) = flatE (E.set i { c with n := z }) := by
  rw [flatE_set E i _ (List.getElem?_eq_some_iff.1 h).1]
  have h0 := flatE_get E i c h 0 (by omega)
  have h2 := flatE_get E i c h 2 (by omega)
  have hs : ∀ (L : List Value) (j : Nat) (u : Value), L[j]? = some u → L.set j u = L := fun L j u hj => by
    apply List.ext_getElem?
    intro m
    by_cases hm : j = m
    · subst hm; rw [List.getElem?_set_self (List.getElem?_eq_some_iff.1 hj).1, hj]
    · rw [List.getElem?_set_ne hm]
  rw [hs (flatE E) (i * 3) (.string ⟨c.key.toArray⟩) (by rw [Nat.add_zero] at h0; rw [h0]; rfl), hs _ (i * 3 + 2) (.int .i64 c.err) (by rw [List.getElem?_set_ne (by omega), h2]; rfl)]
theorem flatE_take (E : List Ent) (m : Nat) : (flatE E).take (m * 3) = flatE (E.take m) := by
  induction E generalizing m with
  | nil => simp [flatE]
  | cons x E ih =>
    cases m with
    | zero => simp [flatE]
    | succ m =>
      have := ih m
      unfold flatE at *
      rw [List.take_succ_cons, List.flatMap_cons, List.flatMap_cons, ← this, show (m + 1) * 3 = x.cells.length + m * 3 by simp [Ent.cells]; omega, List.take_append, List.take_of_length_le (by omega)]
      congr 2; omega
theorem ownBlock_len (a : Option Addr) (u c u' c' : Nat) : (Value.slice a u c).ownBlock = (Value.slice a u' c').ownBlock := by cases a <;> rfl
/-- The model's memory. -/
structure MdlAt (w : World) (mb base : Nat) (v : Value) (s : List Ent × Int) : Prop where
  blk : Blk w mb 59 [v, .int .i64 s.2]
  row : rowE w base v s.1
theorem MdlAt.mod {S : List Nat} {w w' : World} {mb base : Nat} {v : Value} {s : List Ent × Int} (h : MdlAt w mb base v s) (hm : Mod S w w') (h1 : mb ∉ S) (h2 : ∀ b, v.ownBlock = some b → b ∉ S) : MdlAt w' mb base v s := ⟨hm.blk h.blk h1, hm.own h.row h2⟩
def MdlPost (mb base : Nat) (v : Value) (s : List Ent × Int) (w : World) (e : Ending) (w' : World) : Prop := (∃ u, e = .returned u) ∧ (∃ v', MdlAt w' mb base v' s) ∧ Mod (mb :: v.ownBlock.toList) w w'
set_option maxRecDepth 8000 in
theorem mdl_none {w : World} {mb base : Nat} {v : Value} {s : List Ent × Int} (h : MdlAt w mb base v s) (n : Nat) (key : List UInt8) (hk : key.length ≤ 1000000) (z : Int) (hz : -9223372036854775808 ≤ z ∧ z ≤ 9223372036854775807) (hg : z < 1 ∨ 4611686018427387904 ≤ z ∨ 64 < key.length) :
    Calls Try.prog 23 #[.pointer (some ⟨mb, 0, none⟩), .int .i64 (n : Int), .string ⟨key.toArray⟩, .int .i64 z] w (MdlPost mb base v s w) := by
  have H := Lib.hid h
  clear h
  have hsz : (ByteArray.mk key.toArray).size = key.length := by simp [ByteArray.size]
  by_cases h1 : z < 1
  · have d1 : decide (z < 1) = true := by simpa using h1
    clear hg
    go_enter Try.func23, Try.ntmps23
    go_wp2_with fail
    exact bodyPost_ret (results_none rfl _ _ _) rfl ⟨⟨_, rfl⟩, ⟨v, H.out⟩, Mod.refl _ _⟩
  · have d1 : decide (z < 1) = false := by simpa using h1
    by_cases h2 : 4611686018427387904 ≤ z
    · have d2 : decide (4611686018427387904 ≤ z) = true := by simpa using h2
      clear hg
      go_enter Try.func23, Try.ntmps23
      go_wp2_with fail
      exact bodyPost_ret (results_none rfl _ _ _) rfl ⟨⟨_, rfl⟩, ⟨v, H.out⟩, Mod.refl _ _⟩
    · have d2 : decide (4611686018427387904 ≤ z) = false := by simpa using h2
      have h3 : 64 < key.length := by omega
      have d3 : decide ((64 : Int) < key.length) = true := by simp; omega
      have d4 : decide (64 < key.length) = true := by simp; omega
      clear hg
      go_enter Try.func23, Try.ntmps23
      go_wp2_with fail
      exact bodyPost_ret (results_none rfl _ _ _) rfl ⟨⟨_, rfl⟩, ⟨v, H.out⟩, Mod.refl _ _⟩
set_option maxRecDepth 8000 in
set_option maxHeartbeats 6400000 in
theorem mdl_some {w : World} {mb base n : Nat} {v : Value} {E : List Ent} {t : Int} (h : MdlAt w mb base v (E, t)) (ho : OkE n E t) (hn : 1 ≤ n ∧ n ≤ 16) (key : List UInt8) (hk : key.length ≤ 64) (z : Int) (hz : 1 ≤ z ∧ z < 4611686018427387904) (hc : t < 4611686018427387904 - z) (hB : mb < base ∧ base ≤ w.heap.size) {k : Nat} (hf : findE E key = some k) :
    Calls Try.prog 23 #[.pointer (some ⟨mb, 0, none⟩), .int .i64 (n : Int), .string ⟨key.toArray⟩, .int .i64 z] w (MdlPost mb base v (offerE n E key z, t + z) w) := by
  have hsz : (ByteArray.mk key.toArray).size = key.length := by simp [ByteArray.size]
  have d1 : decide (z < 1) = false := by simp; omega
  have d2 : decide (4611686018427387904 ≤ z) = false := by simp; omega
  have d3 : decide ((64 : Int) < key.length) = false := by simp; omega
  have d4 : decide (64 < key.length) = false := by simp; omega
  have d5 : decide (4611686018427387904 - z ≤ t) = false := by simp; omega
  have ht0 := ho.lt
  obtain ⟨e, he, hek⟩ := findE_get hf
  have hkl := (List.getElem?_eq_some_iff.1 he).1
  have hEl := ho.len
  obtain ⟨g, c, rfl, hg1, hg2, hg3⟩ := own_nil_iff (n := E.length) h.row (by omega)
  have hG := ho.each e (List.mem_of_getElem? he)
  have HO := Lib.hid ho
  have HB := Lib.hid h.blk
  have HR := Lib.hid h.row
  have HF := Lib.hid hf
  have HOF : Hid (offerE n E key z = bumpAt E k z) := Lib.hid (by unfold offerE; rw [hf])
  have HE := Lib.hid he
  have b0 := h.blk.cell (i := 0) rfl
  have b1 := h.blk.cell (i := 1) rfl
  have f1 := h.blk.free 1
  have S1 := Lib.hid (show Blk (w.setCell ⟨mb, 1, none⟩ (.int .i64 (t + z))) mb 59 [.slice (some ⟨g, 0, none⟩) E.length c, .int .i64 (t + z)] from h.blk.set 1 _)
  have SM := Lib.hid ((Mod.refl [mb] w).setCell (p := ⟨mb, 1, none⟩) (.inl (by simp)) (.int .i64 (t + z)))
  have hgm : g ≠ mb := fun e => (own_ne h.row h.blk (by decide)) (by simp [Value.ownBlock, e])
  have SR := Lib.hid (SM.out.own h.row (fun b hb => by simp [Value.ownBlock] at hb; subst hb; simpa using hgm))
  have s0 := S1.out.cell (i := 0) rfl
  clear h ho hf he
  go_enter Try.func23, Try.ntmps23
  go_wp2_with fail
  obtain ⟨w1, hw1⟩ : ∃ w1, w.setCell ⟨mb, 1, none⟩ (.int .i64 (t + z)) = w1 := ⟨_, rfl⟩
  rw [hw1] at S1 SM SR s0 ⊢
  clear hw1 b0 b1 f1
  go_loopw [49, 8] (fun i at_ wr => ∃ j : Nat, j ≤ E.length ∧ i = .int .i64 (j : Int) ∧ at_ = .int .i64 (lastAt E key j) ∧ Mod [] w1 wr) (fun i _ _ => E.length - (intOf i).toNat)
  case atStart => exact ⟨0, Nat.zero_le _, rfl, by rw [lastAt_zero], Mod.refl _ _⟩
  case round =>
    obtain ⟨j, hj, rfl, rfl, hM⟩ := hrel
    have MR := Lib.hid hM
    by_cases hlt : j < E.length
    · obtain ⟨x, hx⟩ : ∃ x, E[j]? = some x := ⟨_, List.getElem?_eq_getElem hlt⟩
      have RW := MR.out.own SR.out (by simp)
      have x0 := own_get RW (i := j * 3) (by have := flatE_get E j x hx 0 (by omega); rw [Nat.add_zero] at this; rw [this]; rfl)
      have x1 := own_get RW (i := j * 3 + 1) (by rw [flatE_get E j x hx 1 (by omega)]; rfl)
      have x2 := own_get RW (i := j * 3 + 2) (by rw [flatE_get E j x hx 2 (by omega)]; rfl)
      have A1 := Lib.hid ((Mod.refl [] wr).alloc (.cells x.cells.toArray 46))
      by_cases hxk : x.key = key
      · have hh := (lastAt_hit HO.out.nd hx hxk).2
        have HH := Lib.hid hh
        obtain ⟨xk, xn, xe⟩ := x
        simp only [Ent.cells] at *
        obtain rfl : xk = key := hxk
        clear hM RW hx hh
        go_wp2_with fail
        go_roundw
        case rel => exact ⟨j + 1, by omega, by go_num, by rw [HH.out], MR.out.trans A1.out⟩
        case measure => simp [intOf]; omega
      · have hh := lastAt_miss hx hxk
        have HH := Lib.hid hh
        obtain ⟨lj, hlj⟩ : ∃ lj, lastAt E key j = lj := ⟨_, rfl⟩
        rw [hlj] at HH ⊢
        have dk : (x.key == key) = false := by simpa using hxk
        obtain ⟨xk, xn, xe⟩ := x
        simp only [Ent.cells] at *
        clear hM RW hx hh hlj
        go_wp2_with fail
        go_roundw
        case rel => exact ⟨j + 1, by omega, by go_num, by rw [HH.out], MR.out.trans A1.out⟩
        case measure => simp [intOf]; omega
    · obtain rfl : j = E.length := by omega
      have hla : lastAt E key E.length = (k : Int) := by rw [lastAt_all, HF.out]
      rw [hla]
      obtain ⟨G, hGE⟩ : ∃ G, E = G := ⟨_, rfl⟩
      obtain ⟨p, hpk⟩ : ∃ p, k = p := ⟨_, rfl⟩
      have OWt := Lib.hid (show rowE wr base (.slice (some ⟨g, 0, none⟩) G.length c) G by rw [← hGE]; exact MR.out.own SR.out (by simp))
      have MBt := Lib.hid (show Blk wr mb 59 [.slice (some ⟨g, 0, none⟩) G.length c, .int .i64 (t + z)] by rw [← hGE]; exact MR.out.blk S1.out (by simp))
      have HGp : Hid (G[p]? = some e) := Lib.hid (by rw [← hGE, ← hpk]; exact HE.out)
      have MTt : Hid (Mod (mb :: (Value.slice (some ⟨g, 0, none⟩) E.length c).ownBlock.toList) w wr) := Lib.hid ((SM.out.mono (by simp)).trans (MR.out.mono (by simp)))
      obtain ⟨tt, htt⟩ : ∃ tt, t + z = tt := ⟨_, rfl⟩
      obtain ⟨V0, hV0⟩ : ∃ V0, V0 = Value.slice (some ⟨g, 0, none⟩) E.length c := ⟨_, rfl⟩
      obtain ⟨ML, hML⟩ : ∃ ML, ML = mb :: V0.ownBlock.toList := ⟨_, rfl⟩
      have HML : Hid ((⟨g, p * 3 + 1, none⟩ : Addr).block ∈ ML ∨ w.heap.size ≤ (⟨g, p * 3 + 1, none⟩ : Addr).block) := Lib.hid (.inl (by rw [hML, hV0]; simp [Value.ownBlock]))
      have HMV : Hid (∀ x, x ∈ ML → x ∈ mb :: V0.ownBlock.toList ∨ w.heap.size ≤ x) := Lib.hid fun x hx => .inl (by rw [← hML]; exact hx)
      rw [← hV0, ← hML] at MTt
      rw [htt] at MBt
      have FIN : Hid (∀ e W, MdlPost mb base V0 (bumpAt G p z, tt) w e W → MdlPost mb base (.slice (some ⟨g, 0, none⟩) E.length c) (offerE n E key z, t + z) w e W) := Lib.hid fun e W h => by rw [← hV0, htt, HOF.out, hGE, hpk]; exact h
      rw [hGE] at hkl hEl hla ⊢
      rw [hpk] at hkl hla ⊢
      clear hM hGE hpk htt hV0 hML
      -- the count, then ahead of those with less
      have cn := own_get OWt.out (i := p * 3 + 1) (by rw [flatE_get G p _ HGp.out 1 (by omega)]; rfl)
      have fn_ := own_free OWt.out (p * 3 + 1)
      have mb0 := MBt.out.cell (i := 0) rfl
      have hgm : g ≠ mb := fun e => (own_ne OWt.out MBt.out (by decide)) (by simp [Value.ownBlock, e])
      go_wp2_with fail
      obtain ⟨W1, hW1⟩ : ∃ W1, wr.setCell ⟨g, p * 3 + 1, none⟩ (.int .i64 (e.n + z)) = W1 := ⟨_, rfl⟩
      obtain ⟨F, hFe⟩ : ∃ F, more G p z = F := ⟨_, rfl⟩
      have hgd : G.getD p default = e := getD_some HGp.out
      have hFl : F.length = G.length := by rw [← hFe, more_length]
      have hFp : F.getD p default = { e with n := e.n + z } := by rw [← hFe, more_at hkl, if_pos rfl, hgd]; show (⟨_, _, _⟩ : Ent) = _; rw [show nAt G p = e.n by show (G.getD p default).n = _; rw [hgd]]
      have OW1 : Hid (W1.ownsRow base 46 3 (.slice (some ⟨g, 0, none⟩) G.length c) G.length (flatE F)) := Lib.hid (by
        have := own_set OWt.out (p * 3 + 1) (.int .i64 (e.n + z))
        rw [flatE_n HGp.out, hW1] at this
        rw [← hFe]; unfold more; rw [hgd]; exact this)
      have MB1 : Hid (Blk W1 mb 59 [.slice (some ⟨g, 0, none⟩) G.length c, .int .i64 tt]) := Lib.hid (by rw [← hW1]; exact MBt.out.other (by simpa using fun h => hgm h.symm) _)
      have MT1 : Hid (Mod ML w W1) := Lib.hid (by rw [← hW1]; exact MTt.out.setCell (p := ⟨g, p * 3 + 1, none⟩) HML.out _)
      have hnv : nAt F p = e.n + z := by show (F.getD p default).n = _; rw [hFp]
      obtain ⟨nv, hnve⟩ : ∃ nv, e.n + z = nv := ⟨_, rfl⟩
      rw [hnve] at hnv
      have HFE := Lib.hid hFe
      have HNV := Lib.hid hnv
      rw [hW1]
      clear hW1 hFe hFp hgd cn fn_ mb0 hnv hnve
      go_loopw [8] (fun at_ W => ∃ a : Nat, a ≤ p ∧ at_ = .int .i64 (a : Int) ∧ W.ownsRow base 46 3 (.slice (some ⟨g, 0, none⟩) G.length c) G.length (flatE (move p a F)) ∧ (∀ j, a ≤ j → j < p → nAt F j < nv) ∧ Blk W mb 59 [.slice (some ⟨g, 0, none⟩) G.length c, .int .i64 tt] ∧ Mod ML w W) (fun at_ _ => (intOf at_).toNat)
      case atStart => exact ⟨p, Nat.le_refl _, rfl, by rw [move_self (by omega)]; exact OW1.out, fun j h1 h2 => by omega, MB1.out, MT1.out⟩
      case round =>
        clear OW1 MB1 MT1 OWt MBt MTt
        obtain ⟨a, ha, rfl, hO2, hJ, hB2, hM2⟩ := hrel
        have OR := Lib.hid hO2
        have JR := Lib.hid hJ
        have BR := Lib.hid hB2
        have MR2 := Lib.hid hM2
        have mb0 := hB2.cell (i := 0) rfl
        have DONE : Hid (a = 0 ∨ (∃ b, a = b + 1 ∧ ¬ nAt F b < nv) → MdlPost mb base V0 (bumpAt G p z, tt) w (.returned (.tuple #[])) wr.drew) := Lib.hid fun hd => by
          have hr : riseTo F nv p = a := riseTo_eq ha JR.out hd
          have hb : bumpAt G p z = move p a F := by
            unfold bumpAt
            rw [HFE.out, show (G.getD p default).n + z = nv by rw [← HNV.out]; show _ = (F.getD p default).n; rw [← HFE.out, more_at hkl, if_pos rfl], hr]
          have hl2 : (move p a F).length = G.length := by rw [move_length (by omega) ha, hFl]
          exact ⟨⟨_, rfl⟩, ⟨_, BR.out.drew, by show rowE _ _ _ (bumpAt G p z); rw [hb]; unfold rowE; rw [hl2]; exact (Mod.refl [] wr).drew.own OR.out (by simp)⟩, (MR2.out.mono HMV.out).drew⟩
        cases a with
        | zero =>
          have DN := Lib.hid (DONE.out (.inl rfl))
          clear hO2 hJ hB2 hM2 DONE
          go_wp2_with fail
          refine wp_region_lex (by kernel_rfl) (by kernel_rfl) ?_
          go_wp2_with fail
          refine ⟨by kernel_rfl, ?_⟩
          go_wp2_with fail
          exact bodyPost_end (results_none rfl _ _ _) rfl (FIN.out _ _ DN.out)
        | succ b =>
          have hpv := move_before (F := F) (k := p) (a := b) (by omega) ha
          have hcv := move_now (F := F) (k := p) (a := b + 1) (by omega) ha
          obtain ⟨pe, hpe⟩ : ∃ pe, F.getD b default = pe := ⟨_, rfl⟩
          obtain ⟨ce, hce⟩ : ∃ ce, F.getD p default = ce := ⟨_, rfl⟩
          have hpn : nAt F b = pe.n := by show (F.getD b default).n = _; rw [hpe]
          have hcn : nv = ce.n := by rw [← HNV.out]; show (F.getD p default).n = _; rw [hce]
          rw [hpe] at hpv
          rw [hce] at hcv
          have p0 := own_get hO2 (i := b * 3) ((flatE_get _ b pe hpv 0 (by omega)).trans rfl)
          have p1 := own_get hO2 (i := b * 3 + 1) (by rw [flatE_get _ b pe hpv 1 (by omega)]; rfl)
          have p2 := own_get hO2 (i := b * 3 + 2) (by rw [flatE_get _ b pe hpv 2 (by omega)]; rfl)
          have q0 := own_get hO2 (i := (b + 1) * 3) ((flatE_get _ (b + 1) ce hcv 0 (by omega)).trans rfl)
          have q1 := own_get hO2 (i := (b + 1) * 3 + 1) (by rw [flatE_get _ (b + 1) ce hcv 1 (by omega)]; rfl)
          have q2 := own_get hO2 (i := (b + 1) * 3 + 2) (by rw [flatE_get _ (b + 1) ce hcv 2 (by omega)]; rfl)
          have ff := fun i => own_free hO2 i
          have HP := Lib.hid hpe
          have HC := Lib.hid hce
          have HPN := Lib.hid hpn
          by_cases hlt2 : pe.n < nv
          · have dd : decide (pe.n < ce.n) = true := by rw [← hcn]; simpa using hlt2
            have HCN := Lib.hid hcn
            obtain ⟨pk, pn, pr⟩ := pe
            obtain ⟨ck, cn', cr⟩ := ce
            simp only at *
            clear hO2 hJ hB2 hM2 DONE hpv hcv hpe hce hpn hcn
            go_wp2_with fail
            refine wp_region_lex (by kernel_rfl) (by kernel_rfl) ?_
            go_wp2_with fail
            refine ⟨by kernel_rfl, ?_⟩
            go_wp2_with fail
            refine wp_region_lex (by kernel_rfl) (by kernel_rfl) ?_
            go_wp2_with fail
            refine ⟨by kernel_rfl, ?_⟩
            obtain ⟨W6, hW6⟩ : ∃ W6, ((((((wr.setCell ⟨g, b * 3, none⟩ (.string ⟨ck.toArray⟩)).setCell ⟨g, b * 3 + 1, none⟩ (.int .i64 cn')).setCell ⟨g, b * 3 + 2, none⟩ (.int .i64 cr)).setCell ⟨g, (b + 1) * 3, none⟩ (.string ⟨pk.toArray⟩)).setCell ⟨g, (b + 1) * 3 + 1, none⟩ (.int .i64 pn)).setCell ⟨g, (b + 1) * 3 + 2, none⟩ (.int .i64 pr)) = W6 := ⟨_, rfl⟩
            have O6 : Hid (W6.ownsRow base 46 3 (.slice (some ⟨g, 0, none⟩) G.length c) G.length (flatE (move p b F))) := Lib.hid (by
              rw [← hW6, ← move_swap (by omega) (by omega), HC.out, HP.out, flatE_set _ _ _ (by rw [List.length_set, move_length (by omega) (by omega)]; omega), flatE_set _ _ _ (by rw [move_length (by omega) (by omega)]; omega)]
              exact own_set (own_set (own_set (own_set (own_set (own_set OR.out _ _) _ _) _ _) _ _) _ _) _ _)
            have M6 : Hid (Mod ML w W6) := Lib.hid (by
              rw [← hW6]
              exact (((((MR2.out.setCell (p := ⟨g, _, none⟩) HML.out _).setCell (p := ⟨g, _, none⟩) HML.out _).setCell (p := ⟨g, _, none⟩) HML.out _).setCell (p := ⟨g, _, none⟩) HML.out _).setCell (p := ⟨g, _, none⟩) HML.out _).setCell (p := ⟨g, _, none⟩) HML.out _)
            have B6 : Hid (Blk W6 mb 59 [.slice (some ⟨g, 0, none⟩) G.length c, .int .i64 tt]) := Lib.hid (by
              rw [← hW6]
              exact ((((((BR.out.other (by simpa using fun h => hgm h.symm) _).other (by simpa using fun h => hgm h.symm) _).other (by simpa using fun h => hgm h.symm) _).other (by simpa using fun h => hgm h.symm) _).other (by simpa using fun h => hgm h.symm) _).other (by simpa using fun h => hgm h.symm) _))
            rw [hW6]
            clear hW6 ff p0 p1 p2 q0 q1 q2 mb0
            go_wp2_with fail
            go_roundw
            case rel => exact ⟨b, by omega, (by first | rfl | go_num), (Mod.refl [] W6).drew.drew.own O6.out (by simp), fun j h1 h2 => by
              by_cases hj : j = b
              · subst hj; rw [HPN.out]; exact hlt2
              · exact JR.out j (by omega) h2, B6.out.drew.drew, M6.out.drew.drew⟩
            case measure => first | (simp [intOf]; done) | (simp [intOf]; omega)
          · have dd : decide (pe.n < ce.n) = false := by rw [← hcn]; simpa using hlt2
            have DN := Lib.hid (DONE.out (.inr ⟨b, rfl, by rw [hpn]; exact hlt2⟩))
            obtain ⟨pk, pn, pr⟩ := pe
            obtain ⟨ck, cn', cr⟩ := ce
            simp only at *
            clear hO2 hJ hB2 hM2 DONE hpv hcv hpe hce hpn hcn
            go_wp2_with fail
            refine wp_region_lex (by kernel_rfl) (by kernel_rfl) ?_
            go_wp2_with fail
            refine ⟨by kernel_rfl, ?_⟩
            go_wp2_with fail
            exact bodyPost_end (results_none rfl _ _ _) rfl (FIN.out _ _ DN.out)
end Go.Proofs.Ytpobjhmfidebbaa.Sum
