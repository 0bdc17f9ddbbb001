/- summary.Summary: Top. -/
import Derived.Test.YtpobjhmfidebbaaSum7
namespace Go.Proofs.Ytpobjhmfidebbaa.Sum
open Go Go.RowKit Go.YtpobjhmfidebbaaMem Go.YtpobjhmfidebbaaLex Go.YtpobjhmfidebbaaRange Go.Proofs.Ytpobjhmfidebbaa.Hash Go.Proofs.Ytpobjhmfidebbaa.Keys Go.Proofs.Ytpobjhmfidebbaa.Index
set_option linter.unusedVariables false
set_option linter.unusedSimpArgs false
attribute [local go_sem] Oper.semAt_some

def Ent.cells (e : Ent) : List Value := [.string ⟨e.key.toArray⟩, .int .i64 e.n, .int .i64 e.err]
def flatE (E : List Ent) : List Value := E.flatMap Ent.cells
theorem flatE_snoc (E : List Ent) (e : Ent) : flatE (E ++ [e]) = flatE E ++ e.cells := by simp [flatE]
theorem count_info : ∃ i, Try.prog.info? 46 = some i ∧ i.zero = some (.agg #[.string ⟨#[]⟩, .int .i64 0, .int .i64 0]) ∧ i.size = 3 ∧ i.bytes = 32 := info_parts (show (Try.prog.info? 46).map (fun i => (i.zero, i.size, i.bytes)) = some (some (.agg #[.string ⟨#[]⟩, .int .i64 0, .int .i64 0]), 3, 32) by kernel_rfl)
theorem Under.of_mod2 {B : Nat} {S S' : List Nat} {w w' : World} (h : Mod S w w') (hB : B ≤ w.heap.size) (hs : ∀ x, x ∈ S → x < B → x ∈ S') : Under B S' w w' :=
  ⟨h.os, h.tape, h.output, h.size, fun k h1 h2 => h.block k (Nat.lt_of_lt_of_le h1 hB) (fun hm => h2 (hs k hm h1))⟩
theorem app_ent_in {F : Fence} {n : Nat} {ops : Array Oper} {rest : List Oper} {o : Oper} {act : Go.Act} {Q : Exit → Go.Act → World → Prop} {w : World} {v : Value} {B m : Nat} {us : List Value} (e : Ent) (g : Nat) (hown : w.ownsRow B 46 3 v m us) (hgd : o.guard = none) (sl x : Operand) (ho : o.op = .call { callee := .builtin .append, args := #[sl, x], argTypes := #[49, 49] })
    (hs : act.eval sl = v) (hx : act.eval x = .slice (some ⟨g, 0, none⟩) 1 1) (hn : Blk w g 46 e.cells) (hB : B ≤ w.heap.size) (hl : m ≤ 900000)
    (h : ∀ v' w', w'.ownsRow B 46 3 v' (m + 1) (us ++ e.cells) → Mod v.ownBlock.toList w w' → wpListIn F n Try.prog ops Q rest (act.put o.dst v') w') : wpListIn F n Try.prog ops Q (o :: rest) act w := by
  obtain ⟨i0, hi, hz0, hz1, hz2⟩ := count_info
  refine wpListIn_append_own w hgd sl x 49 ho B 46 i0 _ 3 32 Try.underlying49 hi hz0 hz1 hz2 rfl (by decide) v m us hs hown ⟨g, 0, none⟩ 1 1 e.cells hx rfl (fun j u hu => by rw [add_eq, Nat.zero_add]; exact hn.cell hu)
    (fun x hx => by simp [Ent.cells] at hx; rcases hx with rfl | rfl | rfl <;> rfl) (by unfold maxLen; omega) (by omega) hB fun v' w' h1 h2 _ => h v' w' h1 (grown_mod (Mod.refl [] w) h2)
/-- How many are told. -/
def topN (n : Nat) (k : Int) : Nat := (min (max k 1) (n : Int)).toNat
/-- A list of entries, of its own. -/
def TopPost (B0 : Nat) (T : List Ent) (w : World) (e : Ending) (w' : World) : Prop := ∃ v, e = .returned v ∧ w'.ownsRow B0 46 3 v T.length (flatE T) ∧ Mod [] w w'
set_option maxRecDepth 8000 in
set_option maxHeartbeats 6400000 in
theorem top_any {w : World} {B : SB} {n : Nat} {E : List Ent} {total : Int} (h : SumAt w B n E total) (hn : 1 ≤ n) (hle : E.length ≤ n) (k : Int) (hk : -9223372036854775808 ≤ k ∧ k ≤ 9223372036854775807) :
    Calls Try.prog 22 #[.pointer (some ⟨B.p, 0, none⟩), .int .i64 k] w (TopPost w.heap.size (E.take (topN n k)) w) := by
  have HA := Lib.hid h
  have HB : Hid (∀ b, b ∈ B.all → b < w.heap.size) := Lib.hid h.lt
  have hn2 : n ≤ 2000 := by
    obtain ⟨S, fl, N, Er, O, W, ps, h1, h2, h3⟩ := h
    have := h2.few; omega
  obtain ⟨kk, hkk⟩ : ∃ kk, topN n k = kk := ⟨_, rfl⟩
  have hk1 : min (max k 1) (n : Int) = (kk : Int) := by unfold topN at hkk; omega
  have hkn : kk ≤ n := by omega
  rw [hkk]
  have X3 := Lib.hid ((Blk.new w [.int .i64 k] 3).alloc (.cells #[.slice none 0 0] 49))
  have X5 := Lib.hid (Blk.new (w.alloc (.cells #[.int .i64 k] 3)) [.slice none 0 0] 49)
  have hsz1 : (w.alloc (.cells #[.int .i64 k] 3)).heap.size = w.heap.size + 1 := by simp
  rw [hsz1] at X5
  have M0 := Lib.hid (((Mod.refl [] w).alloc (.cells #[.int .i64 k] 3)).alloc (.cells #[.slice none 0 0] 49))
  obtain ⟨S, fl, N, Er, O, W, ps, h1, h2, h3⟩ := h
  have c2 := h2.blk.cell (i := 2) rfl
  have hBp := h2.blk.lt
  rw [h1] at c2
  clear h1 h2 h3 hkk hsz1
  refine calls_of_wp_marks Try.func22 rfl ?_
  simp only [Try.ntmps22, List.size_toArray, List.length_cons, List.length_nil, Nat.reduceAdd, Nat.reduceSub, Array.replicate_succ, Array.replicate_zero, List.push_toArray, List.append_toArray, List.nil_append, List.cons_append]
  have x3 := X3.out.cell (i := 0) rfl
  have g3 := X3.out.free 0
  by_cases q1 : k < 1
  · have q2 : ¬ ((n : Int) < 1) := by omega
    have q3 : 1 ≤ n := hn
    go_wp2_with fail
    refine wp_region_lex (by kernel_rfl) (by kernel_rfl) ?_
    go_wp2_with fail
    refine ⟨by kernel_rfl, ?_⟩
    have Y3 := Lib.hid (((Blk.new w [.int .i64 1] 3).alloc (.cells #[.slice none 0 0] 49)).drew)
    have Y5 := Lib.hid ((Blk.new (w.alloc (.cells #[.int .i64 1] 3)) [.slice none 0 0] 49).drew)
    rw [show (w.alloc (.cells #[.int .i64 1] 3)).heap.size = w.heap.size + 1 by simp] at Y5
    have MY := Lib.hid ((((Mod.refl [] w).alloc (.cells #[.int .i64 1] 3)).alloc (.cells #[.slice none 0 0] 49)).drew)
    have AY := Lib.hid (HA.out.mod MY.out (by simp))
    have hsY : (((w.alloc (.cells #[.int .i64 1] 3)).alloc (.cells #[.slice none 0 0] 49)).drew).heap.size = w.heap.size + 2 := by show ((w.alloc _).alloc _).heap.size = _; simp
    obtain ⟨w8, hw8⟩ : ∃ w8, ((w.alloc (.cells #[.int .i64 1] 3)).alloc (.cells #[.slice none 0 0] 49)).drew = w8 := ⟨_, rfl⟩
    rw [hw8] at Y3 Y5 MY AY hsY
    have hs8 : w.heap.size + 1 < w8.heap.size := by omega
    have VK := Lib.hid (show (1 : Int) = (kk : Int) by omega)
    rw [VK.out] at Y3
    clear hsY x3 g3 c2
    go_wp2_with fail
    clear hw8
    refine wp_range2 (Kp := Under w8.heap.size [w.heap.size + 1]) (encs := encS) (xs := E) rfl (enters_of Try.func19 (by kernel_rfl) rfl)
      (all_iter AY.out (fun A A' hA hK b hb => hK.block b (AY.out.lt b hb) (by simp; have := HB.out b hb; omega)))
      (fun h k => h.trans k) (fun h => h.mono (by simp)) (fun _ => rfl)
      (fun pre W => Mod [w.heap.size + 1] w8 W ∧ pre.length ≤ kk ∧ ∃ v, Blk W (w.heap.size + 1) 49 [v] ∧ W.ownsRow (w8.heap.size + 2) 46 3 v pre.length (flatE pre))
      (fun c pre W => c = .exit 0 ∧ pre.length = kk + 1 ∧ Mod [w.heap.size + 1] w8 W ∧ ∃ v, Blk W (w.heap.size + 1) 49 [v] ∧ W.ownsRow (w8.heap.size + 2) 46 3 v kk (flatE (pre.take kk)))
      ?hI ?hIx ⟨Mod.refl _ _, by simp, _, Y5.out, World.ownsRow_nil _ _ _ _⟩ ?round ?done ?stop
    case hI =>
      intro pre A B' h hu hm
      obtain ⟨h1, h0, v, h2, h3⟩ := h
      exact ⟨mod_under h1 hu, h0, v, blk_under h2 hu (by omega), hm.own h3 (fun b hb => by have := own_block h3 b hb; simp; omega)⟩
    case hIx =>
      intro c pre A B' h hu hm
      obtain ⟨hc, h0, h1, v, h2, h3⟩ := h
      exact ⟨hc, h0, mod_under h1 hu, v, blk_under h2 hu (by omega), hm.own h3 (fun b hb => by have := own_block h3 b hb; simp; omega)⟩
    case round =>
      rintro l0 pre x W rfl hl2 ⟨hM, hpk, v, hv, hown⟩ ⟨post, hx⟩
      have MW := Lib.hid hM
      have hWs := hM.size
      obtain ⟨va, vc, hva⟩ := own_slice hown
      subst hva
      have NB := Lib.hid (Blk.new W x.cells 46)
      have D7 := Lib.hid ((Mod.refl [] W).alloc (.cells x.cells.toArray 46))
      obtain ⟨key, en, ee⟩ := x
      simp only [Ent.cells, encS, Ent.val] at *
      have VB := Lib.hid (D7.out.blk hv (by simp))
      have OW := Lib.hid (D7.out.own hown (by simp))
      clear hM hv hown hx
      gi_wp2
      refine ⟨Two.of_mod D7.out (by simp), Under.of_mod (D7.out.mono (by simp)) hWs, fun o => ?_⟩
      obtain ⟨W2, hW2⟩ : ∃ W2, (W.alloc (.cells #[.string ⟨key.toArray⟩, .int .i64 en, .int .i64 ee] 46)).putObj (w8.heap.size + 1) o = W2 := ⟨_, rfl⟩
      have M2 : Hid (Mod [w8.heap.size + 1] (W.alloc (.cells #[.string ⟨key.toArray⟩, .int .i64 en, .int .i64 ee] 46)) W2) := Lib.hid (by rw [← hW2]; exact mod_putObj _ _ _)
      rw [hW2]
      clear hW2
      have N2 := Lib.hid (M2.out.blk NB.out (by simp; omega))
      have V2 := Lib.hid (M2.out.blk VB.out (by simp; omega))
      have O2 := Lib.hid (M2.out.own OW.out (fun b hb => by have := own_block OW.out b hb; simp; omega))
      have MW2 := Lib.hid ((MW.out.trans (D7.out.mono (by simp))).trans' M2.out (fun b hb => .inr (by simp at hb; omega)))
      have hW2s := MW2.out.size
      have h22 := M2.out.size
      have hWal : (W.alloc (.cells #[.string ⟨key.toArray⟩, .int .i64 en, .int .i64 ee] 46)).heap.size = W.heap.size + 1 := by simp
      have c5 := V2.out.cell (i := 0) rfl
      have c3 := (MW2.out.blk Y3.out (by simp)).cell (i := 0) rfl
      by_cases hfull : pre.length = kk
      · have d9 : ((pre.length : Int) == (kk : Int)) = true := by simp; omega
        gi_wp2
        refine ⟨Two.of_mod (Mod.refl [] _) (by simp), rfl, by simp; omega, MW2.out, _, V2.out, ?_⟩
        rw [List.take_append_of_le_length (by omega), List.take_of_length_le (by omega)]
        have := O2.out
        rw [hfull] at this ⊢
        exact this
      · have d9 : ((pre.length : Int) == (kk : Int)) = false := by simp; omega
        have n0 := N2.out.cell (i := 0) rfl
        have n1 := N2.out.cell (i := 1) rfl
        have n2 := N2.out.cell (i := 2) rfl
        have f5 := V2.out.alloc (.cells #[.string ⟨key.toArray⟩, .int .i64 en, .int .i64 ee] 46)
        have OA := Lib.hid (World.ownsRow.alloc O2.out (.cells #[.string ⟨key.toArray⟩, .int .i64 en, .int .i64 ee] 46))
        have MA := Lib.hid ((Mod.refl [] W2).alloc (.cells #[.string ⟨key.toArray⟩, .int .i64 en, .int .i64 ee] 46))
        have NN := Lib.hid (Blk.new W2 [.string ⟨key.toArray⟩, .int .i64 en, .int .i64 ee] 46)
        have hpl : pre.length ≤ 900000 := by omega
        gi_wp2_with (gi_at_builtin; go_loud (refine app_ent_in ⟨key, en, ee⟩ _ OA.out rfl _ _ rfl rfl rfl NN.out (by simp; omega) hpl ?_); intro v' w' ho' hM'; obtain ⟨va', vc', hva'⟩ := own_slice ho'; subst hva'; have O3 := Lib.hid ho'; have M3 := Lib.hid hM'; have V3 := Lib.hid (hM'.blk f5 (own_not (own_block O2.out) (by omega))); have g13 := V3.out.cell (i := 0) rfl; have h13 := V3.out.free 0; clear ho' hM' c5 f5)
        have MS : Hid (Mod [w.heap.size + 1] w' (w'.setCell ⟨w.heap.size + 1, 0, none⟩ (.slice va' (pre.length + 1) vc'))) := Lib.hid ((Mod.refl [w.heap.size + 1] w').setCell (p := ⟨w.heap.size + 1, 0, none⟩) (.inl (by simp)) _)
        have hob := own_block O2.out
        have M5 : Hid (Mod ((w.heap.size + 1) :: (Value.slice va pre.length vc).ownBlock.toList) W2 (w'.setCell ⟨w.heap.size + 1, 0, none⟩ (.slice va' (pre.length + 1) vc'))) := Lib.hid (((MA.out.mono (by simp)).trans (M3.out.mono (fun b hb => .inl (List.mem_cons_of_mem (w.heap.size + 1) hb)))).trans (MS.out.mono (by simp)))
        refine ⟨Two.of_mod M5.out ?_, Under.of_mod2 M5.out hW2s ?_, ?_, ?_, _, V3.out.set 0 _, ?_⟩
        · intro b hb
          rcases List.mem_cons.1 hb with rfl | hb
          · omega
          · have := hob b (by simpa using hb); omega
        · intro b hb hlt
          rcases List.mem_cons.1 hb with rfl | hb
          · simp
          · have := hob b (by simpa using hb); omega
        · refine MW2.out.trans' M5.out (fun b hb => ?_)
          rcases List.mem_cons.1 hb with rfl | hb
          · exact .inl (by simp)
          · have := hob b (by simpa using hb); exact .inr (by omega)
        · simp; omega
        · have := MS.out.own O3.out (fun b hb => by have := own_block O3.out b hb; simp; omega)
          rw [flatE_snoc, List.length_append]
          exact this
    case done =>
      rintro D W hD ⟨hM, hpk, v, hv, hown⟩ hK
      obtain ⟨va, vc, hva⟩ := own_slice hown
      subst hva
      have c5 := hv.cell (i := 0) rfl
      have ME := putObj_mod (MY.out.trans' hM (fun b hb => .inr (by simp at hb; omega))) (D := D) (by omega) (.deferred none)
      have HK := Lib.hid hK
      have H2 := Lib.hid ME
      have H3 := Lib.hid ((mod_putObj W D (.deferred none)).own hown (fun b hb => by
        have h1 := own_block hown b hb
        obtain ⟨hl, hh⟩ := hown
        rcases hh with ⟨h, _⟩ | ⟨g, cap, cur, h, hg, hcell, _⟩
        · rw [h] at hb; cases hb
        · rw [h] at hb
          obtain rfl : g = b := by simpa [Value.ownBlock] using hb
          simp only [List.mem_singleton]
          rintro rfl
          rw [hK] at hcell; cases hcell))
      clear hK ME hv hM hown
      go_wp2_with fail
      refine leave1 HK.out (v := .slice va E.length vc) (by simp [results, Try.results22, go_sem]) ⟨_, rfl, ?_, H2.out⟩
      rw [List.take_of_length_le hpk]
      exact own_base H3.out (by omega)
    case stop =>
      rintro D c pre x post W hD hx ⟨rfl, hpk, hM, v, hv, hown⟩ hK
      obtain ⟨va, vc, hva⟩ := own_slice hown
      subst hva
      have c5 := hv.cell (i := 0) rfl
      have ME := putObj_mod (MY.out.trans' hM (fun b hb => .inr (by simp at hb; omega))) (D := D) (by omega) (.deferred none)
      have HK := Lib.hid hK
      have H2 := Lib.hid ME
      have hpre : pre.length = kk := by simpa using hpk
      have H3 := Lib.hid ((mod_putObj W D (.deferred none)).own hown (fun b hb => by
        have h1 := own_block hown b hb
        obtain ⟨hl, hh⟩ := hown
        rcases hh with ⟨h, _⟩ | ⟨g, cap, cur, h, hg, hcell, _⟩
        · rw [h] at hb; cases hb
        · rw [h] at hb
          obtain rfl : g = b := by simpa [Value.ownBlock] using hb
          simp only [List.mem_singleton]
          rintro rfl
          rw [hK] at hcell; cases hcell))
      have hT : E.take kk = (pre ++ [x]).take kk := by rw [hx, ← hpre]; simp
      have HT := Lib.hid hT
      clear hK ME hv hM hown hT hx
      go_wp2_with fail
      refine leave1 HK.out (v := .slice va kk vc) (by simp [results, Try.results22, go_sem]) ⟨_, rfl, ?_, H2.out⟩
      rw [HT.out]
      have hl : ((pre ++ [x]).take kk).length = kk := by rw [List.length_take]; simp; omega
      rw [hl]
      exact own_base H3.out (by omega)
  · by_cases q2 : (n : Int) < k
    · go_wp2_with fail
      refine wp_region_lex (by kernel_rfl) (by kernel_rfl) ?_
      go_wp2_with fail
      refine ⟨by kernel_rfl, ?_⟩
      have Y3 := Lib.hid (((Blk.new w [.int .i64 (n : Int)] 3).alloc (.cells #[.slice none 0 0] 49)).drew)
      have Y5 := Lib.hid ((Blk.new (w.alloc (.cells #[.int .i64 (n : Int)] 3)) [.slice none 0 0] 49).drew)
      rw [show (w.alloc (.cells #[.int .i64 (n : Int)] 3)).heap.size = w.heap.size + 1 by simp] at Y5
      have MY := Lib.hid ((((Mod.refl [] w).alloc (.cells #[.int .i64 (n : Int)] 3)).alloc (.cells #[.slice none 0 0] 49)).drew)
      have AY := Lib.hid (HA.out.mod MY.out (by simp))
      have hsY : (((w.alloc (.cells #[.int .i64 (n : Int)] 3)).alloc (.cells #[.slice none 0 0] 49)).drew).heap.size = w.heap.size + 2 := by show ((w.alloc _).alloc _).heap.size = _; simp
      obtain ⟨w8, hw8⟩ : ∃ w8, ((w.alloc (.cells #[.int .i64 (n : Int)] 3)).alloc (.cells #[.slice none 0 0] 49)).drew = w8 := ⟨_, rfl⟩
      rw [hw8] at Y3 Y5 MY AY hsY
      have hs8 : w.heap.size + 1 < w8.heap.size := by omega
      have VK := Lib.hid (show ((n : Int) : Int) = (kk : Int) by omega)
      rw [VK.out] at Y3
      clear hsY x3 g3 c2
      go_wp2_with fail
      clear hw8
      refine wp_range2 (Kp := Under w8.heap.size [w.heap.size + 1]) (encs := encS) (xs := E) rfl (enters_of Try.func19 (by kernel_rfl) rfl)
        (all_iter AY.out (fun A A' hA hK b hb => hK.block b (AY.out.lt b hb) (by simp; have := HB.out b hb; omega)))
        (fun h k => h.trans k) (fun h => h.mono (by simp)) (fun _ => rfl)
        (fun pre W => Mod [w.heap.size + 1] w8 W ∧ pre.length ≤ kk ∧ ∃ v, Blk W (w.heap.size + 1) 49 [v] ∧ W.ownsRow (w8.heap.size + 2) 46 3 v pre.length (flatE pre))
        (fun c pre W => c = .exit 0 ∧ pre.length = kk + 1 ∧ Mod [w.heap.size + 1] w8 W ∧ ∃ v, Blk W (w.heap.size + 1) 49 [v] ∧ W.ownsRow (w8.heap.size + 2) 46 3 v kk (flatE (pre.take kk)))
        ?hI ?hIx ⟨Mod.refl _ _, by simp, _, Y5.out, World.ownsRow_nil _ _ _ _⟩ ?round ?done ?stop
      case hI =>
        intro pre A B' h hu hm
        obtain ⟨h1, h0, v, h2, h3⟩ := h
        exact ⟨mod_under h1 hu, h0, v, blk_under h2 hu (by omega), hm.own h3 (fun b hb => by have := own_block h3 b hb; simp; omega)⟩
      case hIx =>
        intro c pre A B' h hu hm
        obtain ⟨hc, h0, h1, v, h2, h3⟩ := h
        exact ⟨hc, h0, mod_under h1 hu, v, blk_under h2 hu (by omega), hm.own h3 (fun b hb => by have := own_block h3 b hb; simp; omega)⟩
      case round =>
        rintro l0 pre x W rfl hl2 ⟨hM, hpk, v, hv, hown⟩ ⟨post, hx⟩
        have MW := Lib.hid hM
        have hWs := hM.size
        obtain ⟨va, vc, hva⟩ := own_slice hown
        subst hva
        have NB := Lib.hid (Blk.new W x.cells 46)
        have D7 := Lib.hid ((Mod.refl [] W).alloc (.cells x.cells.toArray 46))
        obtain ⟨key, en, ee⟩ := x
        simp only [Ent.cells, encS, Ent.val] at *
        have VB := Lib.hid (D7.out.blk hv (by simp))
        have OW := Lib.hid (D7.out.own hown (by simp))
        clear hM hv hown hx
        gi_wp2
        refine ⟨Two.of_mod D7.out (by simp), Under.of_mod (D7.out.mono (by simp)) hWs, fun o => ?_⟩
        obtain ⟨W2, hW2⟩ : ∃ W2, (W.alloc (.cells #[.string ⟨key.toArray⟩, .int .i64 en, .int .i64 ee] 46)).putObj (w8.heap.size + 1) o = W2 := ⟨_, rfl⟩
        have M2 : Hid (Mod [w8.heap.size + 1] (W.alloc (.cells #[.string ⟨key.toArray⟩, .int .i64 en, .int .i64 ee] 46)) W2) := Lib.hid (by rw [← hW2]; exact mod_putObj _ _ _)
        rw [hW2]
        clear hW2
        have N2 := Lib.hid (M2.out.blk NB.out (by simp; omega))
        have V2 := Lib.hid (M2.out.blk VB.out (by simp; omega))
        have O2 := Lib.hid (M2.out.own OW.out (fun b hb => by have := own_block OW.out b hb; simp; omega))
        have MW2 := Lib.hid ((MW.out.trans (D7.out.mono (by simp))).trans' M2.out (fun b hb => .inr (by simp at hb; omega)))
        have hW2s := MW2.out.size
        have h22 := M2.out.size
        have hWal : (W.alloc (.cells #[.string ⟨key.toArray⟩, .int .i64 en, .int .i64 ee] 46)).heap.size = W.heap.size + 1 := by simp
        have c5 := V2.out.cell (i := 0) rfl
        have c3 := (MW2.out.blk Y3.out (by simp)).cell (i := 0) rfl
        by_cases hfull : pre.length = kk
        · have d9 : ((pre.length : Int) == (kk : Int)) = true := by simp; omega
          gi_wp2
          refine ⟨Two.of_mod (Mod.refl [] _) (by simp), rfl, by simp; omega, MW2.out, _, V2.out, ?_⟩
          rw [List.take_append_of_le_length (by omega), List.take_of_length_le (by omega)]
          have := O2.out
          rw [hfull] at this ⊢
          exact this
        · have d9 : ((pre.length : Int) == (kk : Int)) = false := by simp; omega
          have n0 := N2.out.cell (i := 0) rfl
          have n1 := N2.out.cell (i := 1) rfl
          have n2 := N2.out.cell (i := 2) rfl
          have f5 := V2.out.alloc (.cells #[.string ⟨key.toArray⟩, .int .i64 en, .int .i64 ee] 46)
          have OA := Lib.hid (World.ownsRow.alloc O2.out (.cells #[.string ⟨key.toArray⟩, .int .i64 en, .int .i64 ee] 46))
          have MA := Lib.hid ((Mod.refl [] W2).alloc (.cells #[.string ⟨key.toArray⟩, .int .i64 en, .int .i64 ee] 46))
          have NN := Lib.hid (Blk.new W2 [.string ⟨key.toArray⟩, .int .i64 en, .int .i64 ee] 46)
          have hpl : pre.length ≤ 900000 := by omega
          gi_wp2_with (gi_at_builtin; go_loud (refine app_ent_in ⟨key, en, ee⟩ _ OA.out rfl _ _ rfl rfl rfl NN.out (by simp; omega) hpl ?_); intro v' w' ho' hM'; obtain ⟨va', vc', hva'⟩ := own_slice ho'; subst hva'; have O3 := Lib.hid ho'; have M3 := Lib.hid hM'; have V3 := Lib.hid (hM'.blk f5 (own_not (own_block O2.out) (by omega))); have g13 := V3.out.cell (i := 0) rfl; have h13 := V3.out.free 0; clear ho' hM' c5 f5)
          have MS : Hid (Mod [w.heap.size + 1] w' (w'.setCell ⟨w.heap.size + 1, 0, none⟩ (.slice va' (pre.length + 1) vc'))) := Lib.hid ((Mod.refl [w.heap.size + 1] w').setCell (p := ⟨w.heap.size + 1, 0, none⟩) (.inl (by simp)) _)
          have hob := own_block O2.out
          have M5 : Hid (Mod ((w.heap.size + 1) :: (Value.slice va pre.length vc).ownBlock.toList) W2 (w'.setCell ⟨w.heap.size + 1, 0, none⟩ (.slice va' (pre.length + 1) vc'))) := Lib.hid (((MA.out.mono (by simp)).trans (M3.out.mono (fun b hb => .inl (List.mem_cons_of_mem (w.heap.size + 1) hb)))).trans (MS.out.mono (by simp)))
          refine ⟨Two.of_mod M5.out ?_, Under.of_mod2 M5.out hW2s ?_, ?_, ?_, _, V3.out.set 0 _, ?_⟩
          · intro b hb
            rcases List.mem_cons.1 hb with rfl | hb
            · omega
            · have := hob b (by simpa using hb); omega
          · intro b hb hlt
            rcases List.mem_cons.1 hb with rfl | hb
            · simp
            · have := hob b (by simpa using hb); omega
          · refine MW2.out.trans' M5.out (fun b hb => ?_)
            rcases List.mem_cons.1 hb with rfl | hb
            · exact .inl (by simp)
            · have := hob b (by simpa using hb); exact .inr (by omega)
          · simp; omega
          · have := MS.out.own O3.out (fun b hb => by have := own_block O3.out b hb; simp; omega)
            rw [flatE_snoc, List.length_append]
            exact this
      case done =>
        rintro D W hD ⟨hM, hpk, v, hv, hown⟩ hK
        obtain ⟨va, vc, hva⟩ := own_slice hown
        subst hva
        have c5 := hv.cell (i := 0) rfl
        have ME := putObj_mod (MY.out.trans' hM (fun b hb => .inr (by simp at hb; omega))) (D := D) (by omega) (.deferred none)
        have HK := Lib.hid hK
        have H2 := Lib.hid ME
        have H3 := Lib.hid ((mod_putObj W D (.deferred none)).own hown (fun b hb => by
          have h1 := own_block hown b hb
          obtain ⟨hl, hh⟩ := hown
          rcases hh with ⟨h, _⟩ | ⟨g, cap, cur, h, hg, hcell, _⟩
          · rw [h] at hb; cases hb
          · rw [h] at hb
            obtain rfl : g = b := by simpa [Value.ownBlock] using hb
            simp only [List.mem_singleton]
            rintro rfl
            rw [hK] at hcell; cases hcell))
        clear hK ME hv hM hown
        go_wp2_with fail
        refine leave1 HK.out (v := .slice va E.length vc) (by simp [results, Try.results22, go_sem]) ⟨_, rfl, ?_, H2.out⟩
        rw [List.take_of_length_le hpk]
        exact own_base H3.out (by omega)
      case stop =>
        rintro D c pre x post W hD hx ⟨rfl, hpk, hM, v, hv, hown⟩ hK
        obtain ⟨va, vc, hva⟩ := own_slice hown
        subst hva
        have c5 := hv.cell (i := 0) rfl
        have ME := putObj_mod (MY.out.trans' hM (fun b hb => .inr (by simp at hb; omega))) (D := D) (by omega) (.deferred none)
        have HK := Lib.hid hK
        have H2 := Lib.hid ME
        have hpre : pre.length = kk := by simpa using hpk
        have H3 := Lib.hid ((mod_putObj W D (.deferred none)).own hown (fun b hb => by
          have h1 := own_block hown b hb
          obtain ⟨hl, hh⟩ := hown
          rcases hh with ⟨h, _⟩ | ⟨g, cap, cur, h, hg, hcell, _⟩
          · rw [h] at hb; cases hb
          · rw [h] at hb
            obtain rfl : g = b := by simpa [Value.ownBlock] using hb
            simp only [List.mem_singleton]
            rintro rfl
            rw [hK] at hcell; cases hcell))
        have hT : E.take kk = (pre ++ [x]).take kk := by rw [hx, ← hpre]; simp
        have HT := Lib.hid hT
        clear hK ME hv hM hown hT hx
        go_wp2_with fail
        refine leave1 HK.out (v := .slice va kk vc) (by simp [results, Try.results22, go_sem]) ⟨_, rfl, ?_, H2.out⟩
        rw [HT.out]
        have hl : ((pre ++ [x]).take kk).length = kk := by rw [List.length_take]; simp; omega
        rw [hl]
        exact own_base H3.out (by omega)
    · go_wp2_with fail
      refine wp_region_lex (by kernel_rfl) (by kernel_rfl) ?_
      go_wp2_with fail
      refine ⟨by kernel_rfl, ?_⟩
      have Y3 := Lib.hid (((Blk.new w [.int .i64 k] 3).alloc (.cells #[.slice none 0 0] 49)).drew)
      have Y5 := Lib.hid ((Blk.new (w.alloc (.cells #[.int .i64 k] 3)) [.slice none 0 0] 49).drew)
      rw [show (w.alloc (.cells #[.int .i64 k] 3)).heap.size = w.heap.size + 1 by simp] at Y5
      have MY := Lib.hid ((((Mod.refl [] w).alloc (.cells #[.int .i64 k] 3)).alloc (.cells #[.slice none 0 0] 49)).drew)
      have AY := Lib.hid (HA.out.mod MY.out (by simp))
      have hsY : (((w.alloc (.cells #[.int .i64 k] 3)).alloc (.cells #[.slice none 0 0] 49)).drew).heap.size = w.heap.size + 2 := by show ((w.alloc _).alloc _).heap.size = _; simp
      obtain ⟨w8, hw8⟩ : ∃ w8, ((w.alloc (.cells #[.int .i64 k] 3)).alloc (.cells #[.slice none 0 0] 49)).drew = w8 := ⟨_, rfl⟩
      rw [hw8] at Y3 Y5 MY AY hsY
      have hs8 : w.heap.size + 1 < w8.heap.size := by omega
      have VK := Lib.hid (show (k : Int) = (kk : Int) by omega)
      rw [VK.out] at Y3
      clear hsY x3 g3 c2
      go_wp2_with fail
      clear hw8
      refine wp_range2 (Kp := Under w8.heap.size [w.heap.size + 1]) (encs := encS) (xs := E) rfl (enters_of Try.func19 (by kernel_rfl) rfl)
        (all_iter AY.out (fun A A' hA hK b hb => hK.block b (AY.out.lt b hb) (by simp; have := HB.out b hb; omega)))
        (fun h k => h.trans k) (fun h => h.mono (by simp)) (fun _ => rfl)
        (fun pre W => Mod [w.heap.size + 1] w8 W ∧ pre.length ≤ kk ∧ ∃ v, Blk W (w.heap.size + 1) 49 [v] ∧ W.ownsRow (w8.heap.size + 2) 46 3 v pre.length (flatE pre))
        (fun c pre W => c = .exit 0 ∧ pre.length = kk + 1 ∧ Mod [w.heap.size + 1] w8 W ∧ ∃ v, Blk W (w.heap.size + 1) 49 [v] ∧ W.ownsRow (w8.heap.size + 2) 46 3 v kk (flatE (pre.take kk)))
        ?hI ?hIx ⟨Mod.refl _ _, by simp, _, Y5.out, World.ownsRow_nil _ _ _ _⟩ ?round ?done ?stop
      case hI =>
        intro pre A B' h hu hm
        obtain ⟨h1, h0, v, h2, h3⟩ := h
        exact ⟨mod_under h1 hu, h0, v, blk_under h2 hu (by omega), hm.own h3 (fun b hb => by have := own_block h3 b hb; simp; omega)⟩
      case hIx =>
        intro c pre A B' h hu hm
        obtain ⟨hc, h0, h1, v, h2, h3⟩ := h
        exact ⟨hc, h0, mod_under h1 hu, v, blk_under h2 hu (by omega), hm.own h3 (fun b hb => by have := own_block h3 b hb; simp; omega)⟩
      case round =>
        rintro l0 pre x W rfl hl2 ⟨hM, hpk, v, hv, hown⟩ ⟨post, hx⟩
        have MW := Lib.hid hM
        have hWs := hM.size
        obtain ⟨va, vc, hva⟩ := own_slice hown
        subst hva
        have NB := Lib.hid (Blk.new W x.cells 46)
        have D7 := Lib.hid ((Mod.refl [] W).alloc (.cells x.cells.toArray 46))
        obtain ⟨key, en, ee⟩ := x
        simp only [Ent.cells, encS, Ent.val] at *
        have VB := Lib.hid (D7.out.blk hv (by simp))
        have OW := Lib.hid (D7.out.own hown (by simp))
        clear hM hv hown hx
        gi_wp2
        refine ⟨Two.of_mod D7.out (by simp), Under.of_mod (D7.out.mono (by simp)) hWs, fun o => ?_⟩
        obtain ⟨W2, hW2⟩ : ∃ W2, (W.alloc (.cells #[.string ⟨key.toArray⟩, .int .i64 en, .int .i64 ee] 46)).putObj (w8.heap.size + 1) o = W2 := ⟨_, rfl⟩
        have M2 : Hid (Mod [w8.heap.size + 1] (W.alloc (.cells #[.string ⟨key.toArray⟩, .int .i64 en, .int .i64 ee] 46)) W2) := Lib.hid (by rw [← hW2]; exact mod_putObj _ _ _)
        rw [hW2]
        clear hW2
        have N2 := Lib.hid (M2.out.blk NB.out (by simp; omega))
        have V2 := Lib.hid (M2.out.blk VB.out (by simp; omega))
        have O2 := Lib.hid (M2.out.own OW.out (fun b hb => by have := own_block OW.out b hb; simp; omega))
        have MW2 := Lib.hid ((MW.out.trans (D7.out.mono (by simp))).trans' M2.out (fun b hb => .inr (by simp at hb; omega)))
        have hW2s := MW2.out.size
        have h22 := M2.out.size
        have hWal : (W.alloc (.cells #[.string ⟨key.toArray⟩, .int .i64 en, .int .i64 ee] 46)).heap.size = W.heap.size + 1 := by simp
        have c5 := V2.out.cell (i := 0) rfl
        have c3 := (MW2.out.blk Y3.out (by simp)).cell (i := 0) rfl
        by_cases hfull : pre.length = kk
        · have d9 : ((pre.length : Int) == (kk : Int)) = true := by simp; omega
          gi_wp2
          refine ⟨Two.of_mod (Mod.refl [] _) (by simp), rfl, by simp; omega, MW2.out, _, V2.out, ?_⟩
          rw [List.take_append_of_le_length (by omega), List.take_of_length_le (by omega)]
          have := O2.out
          rw [hfull] at this ⊢
          exact this
        · have d9 : ((pre.length : Int) == (kk : Int)) = false := by simp; omega
          have n0 := N2.out.cell (i := 0) rfl
          have n1 := N2.out.cell (i := 1) rfl
          have n2 := N2.out.cell (i := 2) rfl
          have f5 := V2.out.alloc (.cells #[.string ⟨key.toArray⟩, .int .i64 en, .int .i64 ee] 46)
          have OA := Lib.hid (World.ownsRow.alloc O2.out (.cells #[.string ⟨key.toArray⟩, .int .i64 en, .int .i64 ee] 46))
          have MA := Lib.hid ((Mod.refl [] W2).alloc (.cells #[.string ⟨key.toArray⟩, .int .i64 en, .int .i64 ee] 46))
          have NN := Lib.hid (Blk.new W2 [.string ⟨key.toArray⟩, .int .i64 en, .int .i64 ee] 46)
          have hpl : pre.length ≤ 900000 := by omega
          gi_wp2_with (gi_at_builtin; go_loud (refine app_ent_in ⟨key, en, ee⟩ _ OA.out rfl _ _ rfl rfl rfl NN.out (by simp; omega) hpl ?_); intro v' w' ho' hM'; obtain ⟨va', vc', hva'⟩ := own_slice ho'; subst hva'; have O3 := Lib.hid ho'; have M3 := Lib.hid hM'; have V3 := Lib.hid (hM'.blk f5 (own_not (own_block O2.out) (by omega))); have g13 := V3.out.cell (i := 0) rfl; have h13 := V3.out.free 0; clear ho' hM' c5 f5)
          have MS : Hid (Mod [w.heap.size + 1] w' (w'.setCell ⟨w.heap.size + 1, 0, none⟩ (.slice va' (pre.length + 1) vc'))) := Lib.hid ((Mod.refl [w.heap.size + 1] w').setCell (p := ⟨w.heap.size + 1, 0, none⟩) (.inl (by simp)) _)
          have hob := own_block O2.out
          have M5 : Hid (Mod ((w.heap.size + 1) :: (Value.slice va pre.length vc).ownBlock.toList) W2 (w'.setCell ⟨w.heap.size + 1, 0, none⟩ (.slice va' (pre.length + 1) vc'))) := Lib.hid (((MA.out.mono (by simp)).trans (M3.out.mono (fun b hb => .inl (List.mem_cons_of_mem (w.heap.size + 1) hb)))).trans (MS.out.mono (by simp)))
          refine ⟨Two.of_mod M5.out ?_, Under.of_mod2 M5.out hW2s ?_, ?_, ?_, _, V3.out.set 0 _, ?_⟩
          · intro b hb
            rcases List.mem_cons.1 hb with rfl | hb
            · omega
            · have := hob b (by simpa using hb); omega
          · intro b hb hlt
            rcases List.mem_cons.1 hb with rfl | hb
            · simp
            · have := hob b (by simpa using hb); omega
          · refine MW2.out.trans' M5.out (fun b hb => ?_)
            rcases List.mem_cons.1 hb with rfl | hb
            · exact .inl (by simp)
            · have := hob b (by simpa using hb); exact .inr (by omega)
          · simp; omega
          · have := MS.out.own O3.out (fun b hb => by have := own_block O3.out b hb; simp; omega)
            rw [flatE_snoc, List.length_append]
            exact this
      case done =>
        rintro D W hD ⟨hM, hpk, v, hv, hown⟩ hK
        obtain ⟨va, vc, hva⟩ := own_slice hown
        subst hva
        have c5 := hv.cell (i := 0) rfl
        have ME := putObj_mod (MY.out.trans' hM (fun b hb => .inr (by simp at hb; omega))) (D := D) (by omega) (.deferred none)
        have HK := Lib.hid hK
        have H2 := Lib.hid ME
        have H3 := Lib.hid ((mod_putObj W D (.deferred none)).own hown (fun b hb => by
          have h1 := own_block hown b hb
          obtain ⟨hl, hh⟩ := hown
          rcases hh with ⟨h, _⟩ | ⟨g, cap, cur, h, hg, hcell, _⟩
          · rw [h] at hb; cases hb
          · rw [h] at hb
            obtain rfl : g = b := by simpa [Value.ownBlock] using hb
            simp only [List.mem_singleton]
            rintro rfl
            rw [hK] at hcell; cases hcell))
        clear hK ME hv hM hown
        go_wp2_with fail
        refine leave1 HK.out (v := .slice va E.length vc) (by simp [results, Try.results22, go_sem]) ⟨_, rfl, ?_, H2.out⟩
        rw [List.take_of_length_le hpk]
        exact own_base H3.out (by omega)
      case stop =>
        rintro D c pre x post W hD hx ⟨rfl, hpk, hM, v, hv, hown⟩ hK
        obtain ⟨va, vc, hva⟩ := own_slice hown
        subst hva
        have c5 := hv.cell (i := 0) rfl
        have ME := putObj_mod (MY.out.trans' hM (fun b hb => .inr (by simp at hb; omega))) (D := D) (by omega) (.deferred none)
        have HK := Lib.hid hK
        have H2 := Lib.hid ME
        have hpre : pre.length = kk := by simpa using hpk
        have H3 := Lib.hid ((mod_putObj W D (.deferred none)).own hown (fun b hb => by
          have h1 := own_block hown b hb
          obtain ⟨hl, hh⟩ := hown
          rcases hh with ⟨h, _⟩ | ⟨g, cap, cur, h, hg, hcell, _⟩
          · rw [h] at hb; cases hb
          · rw [h] at hb
            obtain rfl : g = b := by simpa [Value.ownBlock] using hb
            simp only [List.mem_singleton]
            rintro rfl
            rw [hK] at hcell; cases hcell))
        have hT : E.take kk = (pre ++ [x]).take kk := by rw [hx, ← hpre]; simp
        have HT := Lib.hid hT
        clear hK ME hv hM hown hT hx
        go_wp2_with fail
        refine leave1 HK.out (v := .slice va kk vc) (by simp [results, Try.results22, go_sem]) ⟨_, rfl, ?_, H2.out⟩
        rw [HT.out]
        have hl : ((pre ++ [x]).take kk).length = kk := by rw [List.length_take]; simp; omega
        rw [hl]
        exact own_base H3.out (by omega)
end Go.Proofs.Ytpobjhmfidebbaa.Sum
