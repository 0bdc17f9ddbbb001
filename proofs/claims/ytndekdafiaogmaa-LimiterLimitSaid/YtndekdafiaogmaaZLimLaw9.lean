/- limiter's laws: LimiterLimit. No condition. (written by wip/tools) -/
import Derived.Test.YtndekdafiaogmaaZLimC
import Derived.Test.YtndekdafiaogmaaZLimE
import Derived.Test.YtndekdafiaogmaaZPerm
import Derived.Test.YtndekdafiaogmaaZLow
section
namespace Go.Proofs.Ytndekdafiaogmaa.Lim
open Go Go.RowKit Go.YtndekdafiaogmaaMem Go.YtndekdafiaogmaaLex Go.Proofs.Ytndekdafiaogmaa.Hash Go.Proofs.Ytndekdafiaogmaa.Arith Go.Proofs.Ytndekdafiaogmaa.Index Go.Proofs.Ytndekdafiaogmaa.Cell Go.Proofs.Ytndekdafiaogmaa.Slot
open Go.Proofs.Ytndekdafiaogmaa.Pool (PS putP remP pairs PB PoolAt firstIdle)
open Go.Proofs.Ytndekdafiaogmaa.Ring (Rs RiB RingAt estS addR waitS massS fromTo Small small_get leastV leastV_small ring0)
open Go.Proofs.Ytndekdafiaogmaa.Sum (Ent OkE SB SumAt countE leastOf)
set_option linter.unusedVariables false
set_option linter.unusedSimpArgs false

theorem text_key (k : List UInt8) (hl : k.length ≤ maxLen) : keyOf Try.prog 9 (.string ⟨k.toArray⟩) = some (.string k) := key_str Try.underlying9 hl
theorem zero_let (w : World) : (zeroValue 43).run Try.prog w = .ok (.slice none 0 0) w := by kernel_rfl
abbrev SK := Maps.string_keyed Try.underlying9
abbrev MT := MapG Try.prog 9
def flatL (l : List (Nat × Int)) : List Value := l.flatMap fun q => [.int .i64 (q.1 : Int), .int .i64 q.2]
theorem flatL_snoc (l : List (Nat × Int)) (q : Nat × Int) : flatL (l ++ [q]) = flatL l ++ [.int .i64 (q.1 : Int), .int .i64 q.2] := by simp [flatL]
theorem flatL_get : ∀ (l : List (Nat × Int)) (i : Nat) (q : Nat × Int), l[i]? = some q → (flatL l)[i * 2]? = some (.int .i64 (q.1 : Int)) ∧ (flatL l)[i * 2 + 1]? = some (.int .i64 q.2)
  | [], i, q, h => by simp at h
  | p :: l, 0, q, h => by simp at h; subst h; exact ⟨rfl, rfl⟩
  | p :: l, i + 1, q, h => by
    have ih := flatL_get l i q (by simpa using h)
    unfold flatL at *
    rw [List.flatMap_cons, List.getElem?_append_right (by simp; omega), List.getElem?_append_right (by simp; omega)]
    simp only [List.length_cons, List.length_nil]
    rw [show (i + 1) * 2 - (0 + 1 + 1) = i * 2 by omega, show (i + 1) * 2 + 1 - (0 + 1 + 1) = i * 2 + 1 by omega]
    exact ih
theorem let_info : ∃ i, Try.prog.info? 45 = some i ∧ i.zero = some (.agg #[.int .i64 0, .int .i64 0]) ∧ i.size = 2 ∧ i.bytes = 16 := info_parts (show (Try.prog.info? 45).map (fun i => (i.zero, i.size, i.bytes)) = some (some (.agg #[.int .i64 0, .int .i64 0]), 2, 16) by kernel_rfl)
def OwnL (w : World) (B : Nat) (v : Value) (l : List (Nat × Int)) : Prop := w.ownsRow B 45 2 v l.length (flatL l)
theorem OwnL.nil (w : World) (B : Nat) : OwnL w B (.slice none 0 0) [] := World.ownsRow_nil w B _ _
theorem OwnL.slice {w : World} {B : Nat} {v : Value} {l : List (Nat × Int)} (h : OwnL w B v l) : ∃ a c, v = .slice a l.length c := own_slice h
theorem OwnL.mod {S : List Nat} {w w' : World} {B : Nat} {v : Value} {l : List (Nat × Int)} (h : OwnL w B v l) (hm : Mod S w w') (hn : ∀ b, v.ownBlock = some b → b ∉ S) : OwnL w' B v l :=
  hm.own h (fun b hb hx => hn b hb hx)
theorem OwnL.cell {w : World} {B : Nat} {v : Value} {l : List (Nat × Int)} (h : OwnL w B v l) (hn : l ≠ []) : ∃ g cap, v = .slice (some ⟨g, 0, none⟩) l.length cap ∧ B ≤ g ∧ g < w.heap.size ∧ ∀ i q, l[i]? = some q → w.cell? ⟨g, i * 2, none⟩ = some (.int .i64 (q.1 : Int)) ∧ w.cell? ⟨g, i * 2 + 1, none⟩ = some (.int .i64 q.2) := by
  obtain ⟨g, cap, rfl, h1, h2, _⟩ := own_nil_iff h (fun hh => hn (List.eq_nil_of_length_eq_zero hh))
  exact ⟨g, cap, rfl, h1, h2, fun i q hq => ⟨own_get h (flatL_get l i q hq).1, own_get h (flatL_get l i q hq).2⟩⟩
section
variable {ops : Array Oper} {rest : List Oper} {o : Oper} {act : Act} {Q : Exit → Act → World → Prop} {w : World} {B : Nat} {v : Value} {l : List (Nat × Int)}
theorem app_let (q : Nat × Int) (n : Nat) (hown : OwnL w B v l) (hgd : o.guard = none) (s x : Operand) (ho : o.op = .call { callee := .builtin .append, args := #[s, x], argTypes := #[43, 43] })
    (hs : act.eval s = v) (hx : act.eval x = .slice (some ⟨n, 0, none⟩) 1 1) (hn : Blk w n 45 [.int .i64 (q.1 : Int), .int .i64 q.2]) (hB : B ≤ w.heap.size) (hl : l.length ≤ 900000)
    (h : ∀ v' w', OwnL w' B v' (l ++ [q]) → (v'.ownBlock = v.ownBlock ∨ v'.ownBlock = some w.heap.size) → Mod v.ownBlock.toList w w' → wpList Try.prog ops Q rest (act.put o.dst v') w') : wpList Try.prog ops Q (o :: rest) act w := by
  obtain ⟨i0, hi, hz0, hz1, hz2⟩ := let_info
  refine wpList_append_own_at w hgd s x 43 ho B 45 i0 _ 2 16 Try.underlying43 hi hz0 hz1 hz2 rfl (by decide) v l.length (flatL l) hs hown ⟨n, 0, none⟩ 1 1 [.int .i64 (q.1 : Int), .int .i64 q.2] hx rfl (fun j u hu => by rw [add_eq, Nat.zero_add]; exact hn.cell hu)
    (fun x hx => by simp only [List.mem_cons, List.not_mem_nil, or_false] at hx; rcases hx with rfl | rfl <;> rfl) (by unfold maxLen; omega) (by omega) hB fun v' w' h1 h2 _ h4 => h v' w' ?_ h4 (grown_mod (Mod.refl [] w) h2)
  unfold OwnL; rw [flatL_snoc, List.length_append]; exact h1
end
/-- What was let through, in memory. -/
structure Had (w : World) (tb base nn : Nat) (f : Lit → Option Value) (cc : Nat) (H : List UInt8 → List (Nat × Int)) : Prop where
  map : MT w tb nn f cc
  no : ∀ k, f (.string k) = none → H k = []
  yes : ∀ k v, f (.string k) = some v → OwnL w base v (H k)
  apart : ∀ k1 k2 v1 v2, k1 ≠ k2 → f (.string k1) = some v1 → f (.string k2) = some v2 → ∀ b, v1.ownBlock = some b → v2.ownBlock ≠ some b
  tb : tb < base
section
variable {w : World} {tb base nn cc : Nat} {f : Lit → Option Value} {H : List UInt8 → List (Nat × Int)}
theorem Had.mod {S : List Nat} {w' : World} (h : Had w tb base nn f cc H) (hm : Mod S w w') (hS : ∀ b, b ∈ S → b < base ∧ b ≠ tb) : Had w' tb base nn f cc H :=
  ⟨h.map.mod hm (fun hb => (hS _ hb).2 rfl), h.no, fun k v hv => (h.yes k v hv).mod hm (fun b hb hb2 => by have h1 := own_block (h.yes k v hv) b hb; have := hS b hb2; omega), h.apart, h.tb⟩
theorem Had.mod0 {w' : World} (h : Had w tb base nn f cc H) (hm : Mod [] w w') : Had w' tb base nn f cc H := h.mod hm (by simp)
theorem Had.row (h : Had w tb base nn f cc H) (k : List UInt8) : OwnL w base ((f (.string k)).getD (.slice none 0 0)) (H k) := by
  cases hf : f (.string k) with
  | none => rw [h.no k hf]; exact OwnL.nil _ _
  | some v => exact h.yes k v hf
theorem str_ne {a b : List UInt8} (h : a ≠ b) : Lit.string a ≠ Lit.string b := fun hh => by cases hh; exact h rfl
/-- A row has grown, and was laid into the map. -/
theorem Had.put {w2 w3 : World} (h : Had w tb base nn f cc H) (key : List UInt8) {v2 : Value} {t : Nat} {z : Int} (ho : OwnL w2 base v2 (H key ++ [(t, z)])) (hat : v2.ownBlock = ((f (.string key)).getD (.slice none 0 0)).ownBlock ∨ v2.ownBlock = some w.heap.size)
    (hm : Mod ((f (.string key)).getD (.slice none 0 0)).ownBlock.toList w w2) {nn' cc' : Nat} (hp : MT w3 tb nn' (updG f (.string key) (some v2)) cc') (hm3 : Mod [tb] w2 w3) : Had w3 tb base nn' (updG f (.string key) (some v2)) cc' (more H key t z) := by
  have htb := h.tb
  have hrow := h.row key
  have hv2 : ∀ b, v2.ownBlock = some b → b ∉ [tb] := fun b hb hb2 => by
    have := own_block ho b hb
    simp only [List.mem_singleton] at hb2
    omega
  refine ⟨hp, fun k hk => ?_, fun k v hk => ?_, fun k1 k2 u1 u2 hne h1 h2 b hb => ?_, htb⟩
  · by_cases hkk : k = key
    · subst hkk; rw [updG_same] at hk; cases hk
    · rw [updG_other (str_ne hkk)] at hk
      rw [more_other H hkk]; exact h.no k hk
  · by_cases hkk : k = key
    · subst hkk
      rw [updG_same] at hk; cases hk
      rw [more_own]
      exact ho.mod hm3 hv2
    · rw [updG_other (str_ne hkk)] at hk
      rw [more_other H hkk]
      have hk1 := h.yes k v hk
      refine (hk1.mod hm (fun b hb hb2 => ?_)).mod hm3 (fun b hb hb2 => ?_)
      · cases hf : f (.string key) with
        | none => rw [hf] at hb2; simp [Value.ownBlock] at hb2
        | some u =>
          rw [hf] at hb2
          simp only [Option.getD_some, Option.mem_toList] at hb2
          exact h.apart k key v u hkk hk hf b hb hb2
      · have := own_block hk1 b hb
        simp only [List.mem_singleton] at hb2
        omega
  · have key_case : ∀ k u, k ≠ key → f (.string k) = some u → ∀ b, v2.ownBlock = some b → u.ownBlock ≠ some b := fun k u hk hu b hb hub => by
      have hlt := (h.yes k u hu).lt b hub
      rcases hat with hat | hat
      · rw [hat] at hb
        cases hf : f (.string key) with
        | none => rw [hf] at hb; simp [Value.ownBlock] at hb
        | some y =>
          rw [hf] at hb
          exact h.apart k key u y hk hu hf b hub hb
      · rw [hat] at hb
        cases hb
        omega
    by_cases hk1 : k1 = key
    · subst hk1
      rw [updG_same] at h1; cases h1
      rw [updG_other (str_ne (fun hh => hne hh.symm))] at h2
      exact key_case k2 u2 (fun hh => hne hh.symm) h2 b hb
    · rw [updG_other (str_ne hk1)] at h1
      by_cases hk2 : k2 = key
      · subst hk2
        rw [updG_same] at h2; cases h2
        exact fun hh => key_case k1 u1 hk1 h1 b hh hb
      · rw [updG_other (str_ne hk2)] at h2
        exact h.apart k1 k2 u1 u2 hne h1 h2 b hb
end
/-- What holds of what was let through. -/
structure LimJ (c : Cf) (s : Lm) (k : Nat) (sp : Int) (H : List UInt8 → List (Nat × Int)) : Prop where
  ring : RInv c s.ring (65 * k)
  fits : Fits c s.ring
  span : spanS c s.ring = sp
  hj : HJ c s.pool s.ring s.ring.now H
  few : ∀ key, (H key).length ≤ k ∧ ∀ q ∈ H key, q.2 ≤ 63
theorem LimJ.check {c : Cf} {s : Lm} {k t : Nat} {sp : Int} {H : List UInt8 → List (Nat × Int)} (h : LimJ c s k sp H) (hK : Kept c s k t) (hc : c.Ok) (hp : PoolOk s.pool) (hl : c.r.limit ≤ 32) (hk : k < 150) {T : Nat} (hT : t ≤ T) {key : List UInt8} (hkey : key.length ≤ 64) {n : Nat} (hn : n ≤ 63) :
    ((Lim.check c s T 0 key n).1.verdict = 1 → LimJ c (Lim.check c s T 0 key n).2.2 (k + 1) sp (more H key T n) ∧ after (more H key T n key) ((T : Int) - sp) ≤ c.r.limit) ∧ ((Lim.check c s T 0 key n).1.verdict ≠ 1 → LimJ c (Lim.check c s T 0 key n).2.2 (k + 1) sp H) := by
  have hst : c.step = 2 * c.r.limit.toNat + 1 := rfl
  have hti := hK.time
  obtain ⟨g1, g2⟩ := h.hj.check hK.inv h.ring hc h.fits hp hkey (cost := (n : Int)) (now := T) (by omega) (by omega)
  have hrk := rk_check c s (T : Int) 0 key (n : Int)
  have hf := (h.fits.rk hrk).1
  have hsp : spanS c (Lim.check c s T 0 key n).2.2.ring = sp := (h.fits.rk hrk).2.trans h.span
  have g1' : RInv c (Lim.check c s T 0 key n).2.2.ring (65 * (k + 1)) := ⟨g1.width, g1.len, g1.lenN, g1.each, fun N hN => (g1.upto N hN).mono (by omega), by omega, g1.stamp⟩
  constructor
  · intro hv
    rw [if_pos hv, h.span] at g2
    refine ⟨⟨g1', hf, hsp, g2.1, fun k2 => ?_⟩, g2.2⟩
    by_cases hkk : k2 = key
    · subst hkk
      rw [more_own]
      refine ⟨by rw [List.length_append]; have := (h.few k2).1; simp; omega, fun q hq => ?_⟩
      simp only [List.mem_append, List.mem_singleton] at hq
      rcases hq with hq | rfl
      · exact (h.few k2).2 q hq
      · simp only; omega
    · rw [more_other H hkk]
      exact ⟨by have := (h.few k2).1; omega, (h.few k2).2⟩
  · intro hv
    rw [if_neg hv] at g2
    exact ⟨g1', hf, hsp, g2, fun k2 => ⟨by have := (h.few k2).1; omega, (h.few k2).2⟩⟩
theorem ceil_most {a m : Int} (ha : 0 ≤ a) (hm : 1 ≤ m) : a ≤ ceil a m * m := by
  unfold ceil
  rw [if_neg (by omega)]
  have h1 := Int.mul_ediv_add_emod a m
  have h2 := Int.emod_nonneg a (show m ≠ 0 by omega)
  have h3 := Int.emod_lt_of_pos a (show 0 < m by omega)
  rw [Int.mul_comm] at h1
  split
  · rw [Int.add_mul]; omega
  · rw [Int.add_mul]; omega
/-- The ring of a plan's rule. -/
theorem limj0 (p : Plan) (ds : List Nat) : LimJ (cfOf p.rule ds) (new0 (cfOf p.rule ds)) 0 (spanS (cfOf p.rule ds) (new0 (cfOf p.rule ds)).ring) (fun _ => []) ∧
    spanS (cfOf p.rule ds) (new0 (cfOf p.rule ds)).ring = p.rule.window - (if p.rule.smooth then p.rule.window.tdiv p.rule.slots else 0) ∧ p.rule.window / p.rule.slots = p.rule.window.tdiv p.rule.slots ∧ 0 ≤ p.rule.window.tdiv p.rule.slots ∧ p.rule.window.tdiv p.rule.slots ≤ 32 := by
  obtain ⟨hro, hlim⟩ := rule_ok p
  have hw := ba31 p.window
  have hs := ba7 p.slots
  obtain ⟨A, hA⟩ : ∃ A : Nat, ba p.window 31 + 1 = (A : Int) := ⟨(ba p.window 31 + 1).toNat, by omega⟩
  obtain ⟨S, hS⟩ : ∃ S : Nat, ba p.slots 7 + 1 = (S : Int) := ⟨(ba p.slots 7 + 1).toNat, by omega⟩
  have ew : p.rule.window = ((A * S : Nat) : Int) := by
    show (ba p.window 31 + 1) * (ba p.slots 7 + 1) = _
    rw [hA, hS, Int.natCast_mul]
  have es : p.rule.slots = (S : Int) := hS
  have hS1 : 1 ≤ S ∧ S ≤ 8 := by omega
  have hA1 : 1 ≤ A ∧ A ≤ 32 := by omega
  have ediv : ((A * S : Nat) : Int).tdiv (S : Int) = (A : Int) := by
    rw [Int.tdiv_eq_ediv_of_nonneg (by omega), ← Int.natCast_ediv, Nat.mul_div_cancel _ (by omega)]
  have hr : p.rule.smooth = true → 2 ≤ S := fun h => by
    have : (p.smooth && decide (1 < ba p.slots 7 + 1)) = true := h
    simp only [Bool.and_eq_true, decide_eq_true_eq] at this
    omega
  have hcf := hro.cf ds
  have hI := new0_inv _ hcf
  generalize hR : p.rule = r at *
  have ewid : (new0 (cfOf r ds)).ring.width = A := by
    show r.window.toNat / r.slots.toNat = A
    rw [ew, es]
    show (A * S) / S = A
    exact Nat.mul_div_cancel _ (by omega)
  have elen : (new0 (cfOf r ds)).ring.st.length = S + 1 := by
    show (List.replicate (r.slots.toNat + 1) (0 : Int)).length = S + 1
    rw [List.length_replicate, es]; rfl
  have epart : (new0 (cfOf r ds)).ring.part = r.smooth := rfl
  have enow : (new0 (cfOf r ds)).ring.now = 0 := rfl
  have hRI : RInv (cfOf r ds) (new0 (cfOf r ds)).ring (65 * 0) := by
    refine ⟨by rw [ewid]; exact hA1.1, by rw [elen]; omega, ?_, fun N hN => ?_, hI.cnt, by omega, fun i => ?_⟩
    · show (List.replicate (r.slots.toNat + 1) _).length = (List.replicate (r.slots.toNat + 1) (0 : Int)).length
      rw [List.length_replicate, List.length_replicate]
    · rw [List.eq_of_mem_replicate (show N ∈ List.replicate (r.slots.toNat + 1) (List.replicate ((cfOf r ds).R.length * (cfOf r ds).wd) (0 : Int)) from hN), List.length_replicate]
    · rw [enow]
      show (List.replicate (r.slots.toNat + 1) (0 : Int)).getD i 0 ≤ _
      rw [List.getD_eq_getElem?_getD, List.getElem?_replicate]
      split <;> simp
  refine ⟨⟨hRI, ⟨?_, by rw [elen]; omega, fun h => by rw [elen]; have := hr (by rw [← epart]; exact h); omega, ?_⟩, rfl, ⟨fun k q hq => by simp at hq, fun k => ?_⟩, fun k => ⟨by simp, by simp⟩⟩, ?_, ?_, ?_, ?_⟩
  · rw [ewid, elen]
    show ((((S + 1) - 1) * A : Nat) : Int) = r.window
    rw [ew, Nat.add_sub_cancel, Nat.mul_comm]
  · have hb := hro.burst
    exact ceil_most (by have := hro.window; show 0 ≤ r.window; omega) (by show 1 ≤ r.limit + 1 - r.burst; omega)
  · have hn : placeOf (new0 (cfOf r ds)).pool.S k = none := placeOf_none fun q hq => emp_no _ _ _ hq
    refine each_none hn fun T _ => ?_
    rw [after_nil]
    exact (fromTo_upto (R := (cfOf r ds).R) (wd := (cfOf r ds).wd) hRI.upto (by omega) k _ _ _ (by rw [elen]; omega)).1
  · unfold spanS
    rw [epart, ewid]
    show r.window - _ = _
    rw [show r.window.tdiv r.slots = (A : Int) by rw [ew, es]; exact ediv]
  · rw [ew, es, ediv, ← Int.natCast_ediv, Nat.mul_div_cancel _ (by omega)]
  · rw [ew, es, ediv]; omega
  · rw [ew, es, ediv]; omega
theorem after_next {l : List (Nat × Int)} {j : Nat} {q : Nat × Int} (h : l[j]? = some q) (u : Int) : after (l.take (j + 1)) u = after (l.take j) u + if u < (q.1 : Int) then q.2 else 0 := by
  obtain ⟨hj, rfl⟩ := List.getElem?_eq_some_iff.1 h
  rw [List.take_succ_eq_append_getElem hj, after_app]
  congr 1
  exact after_one _ _ _
theorem after_most {l : List (Nat × Int)} (h : ∀ q ∈ l, 0 ≤ q.2 ∧ q.2 ≤ 63) (u : Int) : 0 ≤ after l u ∧ after l u ≤ 63 * l.length := by
  induction l with
  | nil => exact ⟨Int.le_refl _, Int.le_refl _⟩
  | cons q l ih =>
    have h1 := h q (by simp)
    have h2 := ih (fun q hq => h q (by simp [hq]))
    unfold after at *
    simp only [List.map_cons, List.sum_cons, List.length_cons]
    split <;> omega
set_option maxRecDepth 8000 in
set_option maxHeartbeats 12800000 in
theorem limit_main (w : World) (p : Plan) (v : Value) (ds : List Nat) (hd : Sl w v (v64 ds)) (hdx : ∀ x, x ∈ ds → x < 18446744073709551616) (hd60 : ds.length ≤ 60) (a : Option Addr) (cp : Nat) (l : List Call) (hm : l.length ≤ maxLen) (hP : InRow w a 4 Call.cells l) (hL : lightB l = true) :
    Calls Try.prog 3 #[p.val, v, .slice a l.length cp] w fun e w' => e = .returned (.bool true) ∧ Mod [] w w' := by
  obtain ⟨hl150, hkeys⟩ := light_spec hL
  obtain ⟨hro, hlim⟩ := rule_ok p
  have LI := Lib.hid (fun W (hM : Mod [] w W) => light_any (inrow_mod hP hM) hm cp)
  rw [hL] at LI
  have GET := Lib.hid (fun j q (hq : l[j]? = some q) => inrow_get hP hq)
  have KEY := Lib.hid (fun j q (hq : l[j]? = some q) => hkeys q (List.mem_of_getElem? hq))
  have RU := Lib.hid (fun W : World => rule_any p W)
  have hrg0 : RingOf (cfOf p.rule ds) (new0 (cfOf p.rule ds)).ring := ring_of0 (rule_ok p).1
  have hlj0 := limj0 p ds
  obtain ⟨r, hr⟩ : ∃ r, p.rule = r := ⟨_, rfl⟩
  rw [hr] at RU hro hlim hrg0 hlj0
  have HRO := Lib.hid hro
  have NW := Lib.hid (fun (W : World) (hM : Mod [] w W) => new_any (hd.mod hM (by simp)) hdx r hro)
  have CO := Lib.hid (fun z (W : World) => cost_any r (by have := hro.burst; omega) z W)
  obtain ⟨c, hc⟩ : ∃ c, cfOf r ds = c := ⟨_, rfl⟩
  have hcr : c.r = r := by rw [← hc]; rfl
  have HCR := Lib.hid hcr
  have HC := Lib.hid (show c.Ok by rw [← hc]; exact hro.cf ds)
  rw [hc] at NW hrg0 hlj0
  have HJ0 := Lib.hid hlj0.1
  have hjq := hlj0.2
  clear hlj0
  have HG0 := Lib.hid hrg0
  have HLIM := Lib.hid hlim
  have hbur := hro.burst
  obtain ⟨da, dc, rfl⟩ := sl_slice hd
  have hdl : (v64 ds).length = ds.length := by simp [v64]
  rw [hdl] at NW ⊢
  obtain ⟨p0, p1, p2, p3, p4, p5, p6, p7, p8⟩ := p
  obtain ⟨r0, r1, r2, r3, r4, r5, r6, r7, r8⟩ := r
  simp only [Plan.val, Rule.val] at *
  have HJQ := Lib.hid hjq
  clear hjq
  have PB0 := Lib.hid (Blk.new w [.int .i64 p0, .int .i64 p1, .int .i64 p2, .int .i64 p3, .int .i64 p4, .int .i64 p5, .int .i64 p6, .int .i64 p7, .bool p8] 23)
  have M0 := Lib.hid ((Mod.refl [] w).alloc (.cells #[.int .i64 p0, .int .i64 p1, .int .i64 p2, .int .i64 p3, .int .i64 p4, .int .i64 p5, .int .i64 p6, .int .i64 p7, .bool p8] 23))
  obtain ⟨n, hn⟩ : ∃ n, l.length = n := ⟨_, rfl⟩
  have HN := Lib.hid hn
  rw [hn] at LI hl150 ⊢
  obtain ⟨dn, hdn⟩ : ∃ dn, ds.length = dn := ⟨_, rfl⟩
  rw [hdn] at hd60 NW ⊢
  have d60 : decide ((60 : Int) < (dn : Int)) = false := by simp; omega
  clear hP hm hL hkeys hro hr hc hcr hlim hn hrg0 hd hdx hdl hdn
  go_enter Try.func3, Try.ntmps3
  go_wp2_with fail
  refine (fit_any _).mono ?_
  rintro e1 w1 ⟨rfl, hM1⟩
  have M1 := Lib.hid (M0.out.trans hM1)
  have PB1 := Lib.hid (hM1.blk PB0.out (by simp))
  clear hM1
  go_wp2_with fail
  refine (LI.out _ M1.out).mono ?_
  rintro e2 w2 ⟨rfl, hM2⟩
  have M2 := Lib.hid (M1.out.trans hM2)
  have PB2 := Lib.hid (hM2.blk PB1.out (by simp))
  have b0 := PB2.out.cell (i := 0) rfl
  have b1 := PB2.out.cell (i := 1) rfl
  have b2 := PB2.out.cell (i := 2) rfl
  have b3 := PB2.out.cell (i := 3) rfl
  have b4 := PB2.out.cell (i := 4) rfl
  have b5 := PB2.out.cell (i := 5) rfl
  have b6 := PB2.out.cell (i := 6) rfl
  have b7 := PB2.out.cell (i := 7) rfl
  have b8 := PB2.out.cell (i := 8) rfl
  clear hM2
  go_wp2_with fail
  refine (RU.out _).mono ?_
  rintro e3 w3 ⟨rfl, hM3⟩
  have M3 := Lib.hid (M2.out.trans hM3)
  have RB3 := Lib.hid (Blk.new w3 [.int .i64 r0, .int .i64 r1, .int .i64 r2, .int .i64 r3, .int .i64 r4, .int .i64 r5, .int .i64 r6, .int .i64 r7, .bool r8] 29)
  have A3 := Lib.hid ((Mod.refl [] w3).alloc (.cells #[.int .i64 r0, .int .i64 r1, .int .i64 r2, .int .i64 r3, .int .i64 r4, .int .i64 r5, .int .i64 r6, .int .i64 r7, .bool r8] 29))
  have hlt3 : w.heap.size < w3.heap.size := (hM3.blk PB2.out (by simp)).lt
  clear hM3 b0 b1 b2 b3 b4 b5 b6 b7 b8
  simp only [Rule.val]
  go_wp2_with fail
  refine (NW.out _ (M3.out.trans A3.out)).mono ?_
  rintro e4 w4 ⟨B, rfl, hL4, hB4, hrb4, hM4⟩
  have BL := Lib.hid (show (∀ b, b ∈ B.all → w.heap.size < b) ∧ w3.heap.size ∉ B.all from by
    have h3 : w3.heap.size + 1 ≤ (w3.alloc (.cells #[.int .i64 r0, .int .i64 r1, .int .i64 r2, .int .i64 r3, .int .i64 r4, .int .i64 r5, .int .i64 r6, .int .i64 r7, .bool r8] 29)).heap.size := by simp
    exact ⟨fun b hb => by have := hB4 b hb; omega, fun hb => by have := hB4 _ hb; omega⟩)
  have RB4 := Lib.hid (hM4.blk RB3.out (by simp))
  have L4 := Lib.hid hL4
  have M4 := Lib.hid ((M3.out.trans A3.out).trans hM4)
  clear hL4 hB4 hrb4 hM4
  have A4 := Lib.hid ((Mod.refl [] w4).alloc (.map #[] 0))
  have HD4 := Lib.hid (show Had (w4.alloc (.map #[] 0)) w4.heap.size (w4.heap.size + 1) 0 (fun _ => none) 0 (fun _ => []) from ⟨MapG.made (P := Try.prog) (kt := 9) w4, fun _ _ => rfl, (fun _ _ h => by cases h), (fun _ _ _ _ _ h => by cases h), by omega⟩)
  have HTN := Lib.hid (show (∀ b, b ∈ B.all → b < w4.heap.size) ∧ B.Q.rb < w4.heap.size ∧ w3.heap.size < w4.heap.size from ⟨fun b hb => L4.out.lt _ hb, (L4.out.ring.each 0 (by have := L4.out.ring.few.1; omega)).rows.1, RB4.out.lt⟩)
  have HTN4 := Lib.hid (show w.heap.size ≤ w4.heap.size from M4.out.size)
  have hmm := @run_makeMap Try.prog
  have rb1 := RB4.out.cell (i := 1) rfl
  have rb3 := RB4.out.cell (i := 3) rfl
  have rb8 := RB4.out.cell (i := 8) rfl
  obtain ⟨jq1, jq2, jq3, jq4⟩ := HJQ.out
  have hl0 : ¬ r3 = 0 := by have := HRO.out.slots; simp only at this; omega
  have hl1 : ¬ r3 = -1 := by have := HRO.out.slots; simp only at this; omega
  have hwb := HRO.out.window
  simp only at hwb
  obtain ⟨hwb1, hwb2⟩ := hwb
  obtain ⟨qd, hqd⟩ : ∃ qd, r1.tdiv r3 = qd := ⟨_, rfl⟩
  rw [hqd] at jq1 jq2 jq3 jq4
  cases r8 with
  | true =>
    simp only [Bool.false_eq_true, if_false, if_true] at jq1
    have LJ0 := Lib.hid (show LimJ c (new0 c) 0 (r1 - qd) (fun _ => []) from by have h := HJ0.out; rw [jq1] at h; exact h)
    clear jq1 
    go_wp2_with fail
    clear hmm rb1 rb3 rb8 hl0 hl1 jq2 hqd
    obtain ⟨tb, htb⟩ : ∃ tb, w4.heap.size = tb := ⟨_, rfl⟩
    rw [htb] at HD4 HTN HTN4
    rw [htb]
    clear htb
    obtain ⟨sp, hsp⟩ : ∃ sp, r1 - qd = sp := ⟨_, rfl⟩
    have hspb : -100000000000000 ≤ sp ∧ sp ≤ 1099511627776 := by omega
    obtain ⟨hsp1, hsp2⟩ := hspb
    rw [hsp] at LJ0 ⊢
    clear hsp jq3 jq4
    go_loopw [11, 49] (fun now i W => ∃ (k t : Nat) (s : Lm) (nn cc : Nat) (f : Lit → Option Value) (H : List UInt8 → List (Nat × Int)), k ≤ n ∧ i = .int .i64 (k : Int) ∧ now = .int .i64 (t : Int) ∧ LimAt W B c s ∧ Kept c s k t ∧ LimJ c s k sp H ∧ Had W tb (tb + 1) nn f cc H ∧ nn ≤ k ∧ Blk W w3.heap.size 29 [.int .i64 r0, .int .i64 r1, .int .i64 r2, .int .i64 r3, .int .i64 r4, .int .i64 r5, .int .i64 r6, .int .i64 r7, .bool true] ∧ Mod [] w W) (fun _ i _ => n - (intOf i).toNat)
    case atStart => exact ⟨0, 0, new0 c, 0, 0, fun _ => none, fun _ => [], Nat.zero_le _, rfl, rfl, L4.out.mod0 A4.out, kept0 c HC.out, LJ0.out, HD4.out, by omega, RB4.out.alloc _, M4.out.trans A4.out⟩
    case round =>
      obtain ⟨k, t, s, nn, cc, f, H, hk, rfl, rfl, hLr, hKr, hJr, hDr, hNr, hRr, hM⟩ := hrel
      have LR := Lib.hid hLr
      have HK := Lib.hid hKr
      have HLJ := Lib.hid hJr
      have HD := Lib.hid hDr
      have HNN := Lib.hid hNr
      have RR := Lib.hid hRr
      have MR := Lib.hid hM
      by_cases hlt : k < n
      · obtain ⟨q, hq⟩ : ∃ q, l[k]? = some q := ⟨_, List.getElem?_eq_getElem (by have := HN.out; omega)⟩
        obtain ⟨b, off, rfl, hcells⟩ := GET.out k q hq
        have hk64 := KEY.out k q hq
        obtain ⟨x0, x1, x2, x3⟩ := hcells wr hM
        obtain ⟨gz, cz, key, pk⟩ := q
        simp only at x0 x1 x2 x3 hk64
        have HF := Lib.hid (hLr.ring.few.2)
        have CC := Lib.hid (Blk.new wr [.int .i64 gz, .int .i64 cz, .string ⟨key.toArray⟩, .bool pk] 35)
        have AC := Lib.hid ((Mod.refl [] wr).alloc (.cells #[.int .i64 gz, .int .i64 cz, .string ⟨key.toArray⟩, .bool pk] 35))
        have hrw : w3.heap.size < wr.heap.size := hRr.lt
        have hrw' : ¬ w3.heap.size = wr.heap.size := by omega
        have hti := hKr.time
        have rb0 := hRr.cell (i := 0) rfl
        have rb1 := hRr.cell (i := 1) rfl
        have rb2 := hRr.cell (i := 2) rfl
        have rb3 := hRr.cell (i := 3) rfl
        have rb4 := hRr.cell (i := 4) rfl
        have rb5 := hRr.cell (i := 5) rfl
        have rb6 := hRr.cell (i := 6) rfl
        have rb7 := hRr.cell (i := 7) rfl
        have rb8 := hRr.cell (i := 8) rfl
        have dk : decide ((k : Int) < (n : Int)) = true := by simp; omega
        obtain ⟨hk150, ht2⟩ := small_kt (show k ≤ 149 by omega) hti.2
        clear hLr hKr hJr hDr hNr hRr hM hcells hq
        go_wp2_with fail
        refine (gap_any gz _).mono ?_
        rintro e5 w5 ⟨g, rfl, hg, rfl⟩
        go_wp2_with fail
        refine (CO.out cz _).mono ?_
        rintro e6 w6 ⟨n1, rfl, hn1, hM6⟩
        have MC6 := Lib.hid (AC.out.trans hM6)
        have RB6 := Lib.hid (MC6.out.blk RR.out (by simp))
        have CC6 := Lib.hid (hM6.blk CC.out (by simp))
        have cc2 := CC6.out.cell (i := 2) rfl
        have rb2' := RB6.out.cell (i := 2) rfl
        have hlim2 : c.r.limit ≤ 32 := by rw [HCR.out]; exact HLIM.out
        have hcb : c.r.burst = r2 := by rw [HCR.out]
        clear hM6 x0 x1 x2 x3 rb0 rb1 rb2 rb3 rb4 rb5 rb6 rb7 rb8
        obtain ⟨T, hT⟩ : ∃ T, t + g = T := ⟨_, rfl⟩
        have hTi : (t : Int) + (g : Int) = (T : Int) := by omega
        have hTb : T ≤ 300000 := by omega
        have hsT : s.ring.now ≤ T := by have := HK.out.time; omega
        have hst : c.step = 2 * c.r.limit.toNat + 1 := rfl
        have hkb : 65 * k ≤ 10000 := by omega
        have CK0 := fun W (hL : LimAt W B c s) => check_any hL HK.out.inv HC.out (by omega) hsT 0 key (by omega) (n1 : Int)
        have KC0 := HK.out.check HC.out hlim2 (by omega) HF.out hg 0 hk64 hn1
        rw [hT] at KC0
        have JC0 := HLJ.out.check HK.out HC.out LR.out.pok hlim2 (by omega) (show t ≤ T by omega) hk64 hn1
        have hcl : c.r.limit = r0 := by rw [HCR.out]
        rw [hcl] at JC0
        have hvd := check_verdict c s (T : Int) 0 key (n1 : Int)
        rcases hck : check c s (T : Int) 0 key (n1 : Int) with ⟨⟨av, ar, at_⟩, ev, s2⟩
        rw [hck] at CK0 KC0 JC0 hvd
        simp only at KC0 JC0 hvd
        have CK := Lib.hid CK0
        have KC := Lib.hid KC0
        have JC := Lib.hid JC0
        have NCC := Lib.hid (show wr.heap.size ∉ B.all from fun hb => by have := LR.out.lt _ hb; omega)
        have HBT := Lib.hid (show ∀ b, b ∈ B.all → b < tb + 1 ∧ b ≠ tb from fun b hb => by have := HTN.out.1 b hb; omega)
        rw [hTi]
        clear CK0 KC0 JC0 hvd hck hsT hst hkb hT hTi hcb hlim2 rb2' hti hcl
        go_wp2_with fail
        refine (CK.out _ (LR.out.mod0 MC6.out)).mono ?_
        rintro e7 w7 ⟨v7, rfl, hO7, hL7, hM7⟩
        obtain ⟨a7, c7, rfl⟩ := hO7.slice
        have AM7 := Lib.hid ((Mod.refl [] w7).alloc (.cells #[.int .i64 av, .int .i64 ar, .int .i64 at_] 39))
        have L7 := Lib.hid (hL7.mod0 AM7.out)
        have RB7 := Lib.hid (AM7.out.blk (hM7.blk RB6.out BL.out.2) (by simp))
        have CC7 := Lib.hid (AM7.out.blk (hM7.blk CC6.out NCC.out) (by simp))
        have HD7 := Lib.hid (((HD.out.mod0 MC6.out).mod hM7 HBT.out).mod0 AM7.out)
        have M7 := Lib.hid (((MR.out.trans MC6.out).trans' hM7 (fun b hb => .inr (by have := BL.out.1 b hb; omega))).trans AM7.out)
        clear hO7 hL7 hM7 cc2
        simp only [Ans.val]
        by_cases hv : av = 1
        · subst hv
          obtain ⟨hj2, hle2⟩ := JC.out.1 rfl
          have LJ2 := Lib.hid hj2
          have HAF := Lib.hid hle2
          have hall := hj2.hj.all key
          have hfew := hj2.few key
          have HALL := Lib.hid hall
          have HFEW := Lib.hid hfew
          clear hj2 hle2 hall hfew
          go_wp2_with fail
          obtain ⟨wE, hwE⟩ : ∃ wE, w7.alloc (.cells #[.int .i64 1, .int .i64 ar, .int .i64 at_] 39) = wE := ⟨_, rfl⟩
          rw [hwE] at L7 RB7 CC7 HD7 M7 ⊢
          obtain ⟨cb, hcb⟩ : ∃ cb, wr.heap.size = cb := ⟨_, rfl⟩
          rw [hcb] at CC7 ⊢
          have HCBE := Lib.hid hcb
          clear hwE AM7 hcb
          have cc7 := CC7.out.cell (i := 2) rfl
          have ltC : cb < wE.heap.size := CC7.out.lt
          have ltC' : ¬ cb = wE.heap.size := by omega
          have ISC := Lib.hid (isC_of_blk CC7.out.drew)
          have hkm : key.length ≤ maxLen := by unfold maxLen; omega
          have HKM := Lib.hid hkm
          obtain ⟨u, hu⟩ : ∃ u, (f (.string key)).getD (.slice none 0 0) = u := ⟨_, rfl⟩
          have UR := Lib.hid (show OwnL wE (tb + 1) u (H key) by rw [← hu]; exact HD7.out.row key)
          have hl1 := HD7.out.map.get (mt := 33) SK Try.underlying33 (zero_let _) (text_key key hkm)
          have hl2 := (HD7.out.mod0 ((Mod.refl [] wE).alloc (.cells #[.int .i64 (T : Int), .int .i64 (n1 : Int)] 45))).map.get (mt := 33) SK Try.underlying33 (zero_let _) (text_key key hkm)
          have hl1d := (HD7.out.mod0 (Mod.refl [] wE).drew).map.get (mt := 33) SK Try.underlying33 (zero_let _) (text_key key hkm)
          have hl2d := (HD7.out.mod0 (((Mod.refl [] wE).alloc (.cells #[.int .i64 (T : Int), .int .i64 (n1 : Int)] 45)).drew)).map.get (mt := 33) SK Try.underlying33 (zero_let _) (text_key key hkm)
          rw [hu] at hl1 hl2 hl1d hl2d
          have HUN := Lib.hid (show cb ∉ u.ownBlock.toList from own_ne UR.out CC7.out (by decide))
          have NB := Lib.hid ((Blk.new wE [.int .i64 (T : Int), .int .i64 (n1 : Int)] 45).drew)
          have HBS := Lib.hid (show tb + 1 ≤ (wE.alloc (.cells #[.int .i64 (T : Int), .int .i64 (n1 : Int)] 45)).drew.heap.size from by
            have := HD7.out.map.lt
            show tb + 1 ≤ (wE.alloc (.cells #[.int .i64 (T : Int), .int .i64 (n1 : Int)] 45)).heap.size
            simp; omega)
          have HU := Lib.hid hu
          have HLN := Lib.hid (show (H key).length ≤ 900000 from by have := (HLJ.out.few key).1; omega)
          have UR1 := Lib.hid (UR.out.mod (((Mod.refl [] wE).alloc (.cells #[.int .i64 (T : Int), .int .i64 (n1 : Int)] 45)).drew) (by simp))
          obtain ⟨ua, uc, rfl⟩ := UR.out.slice
          clear hu hkm
          refine wp_region_sched (by kernel_rfl) fun S => ?_
          rcases before_or 10 6 S with q0 | q0
          · refine ⟨[(10, 6)], by decide, fun p hp => by simp only [List.mem_cons, List.not_mem_nil, or_false] at hp; rcases hp with rfl <;> assumption, held_perm [0, 1, 2, 3, 4, 5, 7, 8, 9, 10, 6, 11, 12] [11, 1] [2, 5] (Value.slice ua (H key).length uc).ownBlock.toList (by kernel_rfl) (by kernel_rfl) ?_⟩
            simp only [wpCut, edges, edge, perm, reOper, reGuard, List.getElem?_cons_succ, List.getElem?_cons_zero, List.take_succ_cons, List.take_zero, List.drop_succ_cons, List.drop_zero, List.cons_append, List.nil_append]
            go_wp2_with fail
            refine ⟨((Mod.refl (Value.slice ua (H key).length uc).ownBlock.toList wE.drew).alloc (.cells #[.int .i64 (T : Int), .int .i64 (n1 : Int)] 45)), ?_⟩
            go_wp2_with (at_builtin; go_must (refine app_let (T, (n1 : Int)) _ UR1.out rfl _ _ rfl rfl rfl NB.out HBS.out HLN.out ?_; intro v8 w8 hO8 hat8 hM8; have O8 := Lib.hid hO8; have AT8 := Lib.hid hat8; have HM8 := Lib.hid hM8; clear hO8 hat8 hM8))
            refine ⟨(((Mod.refl (Value.slice ua (H key).length uc).ownBlock.toList wE.drew).alloc (.cells #[.int .i64 (T : Int), .int .i64 (n1 : Int)] 45)).trans HM8.out), ?_⟩
            have HDA := Lib.hid (HD7.out.mod0 (((Mod.refl [] wE).alloc (.cells #[.int .i64 (T : Int), .int .i64 (n1 : Int)] 45)).drew))
            have HM8t := Lib.hid (show tb ∉ (Value.slice ua (H key).length uc).ownBlock.toList from fun hb => by have := own_block UR1.out tb (by simpa using hb); omega)
            obtain ⟨w9, pt, P9, N9⟩ := (HDA.out.map.mod HM8.out HM8t.out).put (mt := 33) SK Try.underlying33 (by have := HNN.out; unfold maxLen; omega) (text_key key HKM.out) v8
            have HD9 := Lib.hid (HDA.out.put key (v2 := v8) (t := T) (z := (n1 : Int)) (w2 := w8) (w3 := w9) O8.out (by rw [HU.out]; exact AT8.out) (by rw [HU.out]; exact HM8.out) P9 N9)
            have NF9 : Hid (Mod (tb :: (Value.slice ua (H key).length uc).ownBlock.toList) wE w9) := Lib.hid (((((Mod.refl [] wE).alloc (.cells #[.int .i64 (T : Int), .int .i64 (n1 : Int)] 45)).drew.mono (fun b hb => by cases hb)).trans (show Mod (tb :: (Value.slice ua (H key).length uc).ownBlock.toList) _ w8 from HM8.out.mono (fun b hb => .inl (List.mem_cons_of_mem _ hb)))).trans (N9.mono (fun b hb => by simp only [List.mem_singleton] at hb; subst hb; exact .inl List.mem_cons_self)))
            have HMT := Lib.hid (show ∀ b, b ∈ tb :: (Value.slice ua (H key).length uc).ownBlock.toList → tb ≤ b from fun b hb => by
              simp only [List.mem_cons] at hb
              rcases hb with rfl | hb
              · omega
              · have := own_block UR1.out b (by simpa using hb); omega)
            have L9 := Lib.hid (L7.out.mod NF9.out (fun b hb hb2 => by have h1 := HTN.out.1 b hb; have h2 := HMT.out b hb2; omega) (fun hb2 => by have h1 := HTN.out.2.1; have h2 := HMT.out _ hb2; omega))
            have RB9 := Lib.hid (NF9.out.blk RB7.out (fun hb2 => by have h1 := HTN.out.2.2; have h2 := HMT.out _ hb2; omega))
            have CC9 := Lib.hid (NF9.out.blk CC7.out (fun hb2 => by
              simp only [List.mem_cons] at hb2
              rcases hb2 with h | h
              · have := HCBE.out; have := HD.out.map.lt; omega
              · exact HUN.out h))
            have M9 := Lib.hid (M7.out.trans' NF9.out (fun b hb => .inr (by have h2 := HMT.out b hb; have := HTN4.out; omega)))
            have hl3 := HD9.out.map.get (mt := 33) SK Try.underlying33 (zero_let _) (text_key key HKM.out)
            rw [updG_same] at hl3
            simp only [Option.getD_some] at hl3
            have cc9 := CC9.out.cell (i := 2) rfl
            have R9 := Lib.hid (HD9.out.yes key v8 (updG_same _ _ _))
            clear P9 N9 hl1 hl2 hl1d hl2d cc7
            go_wp2_with fail
            refine ⟨by kernel_rfl, ⟨⟨HUN.out, ISC.out⟩, ⟨HUN.out, ISC.out⟩, trivial⟩, ?_⟩
            obtain ⟨hl, hhl⟩ : ∃ hl, more H key T (n1 : Int) key = hl := ⟨_, rfl⟩
            rw [hhl] at R9 HAF
            have HALL2 := HALL.out
            have HFEW2 := HFEW.out
            rw [hhl] at HALL2 HFEW2
            have HA2 := Lib.hid (show ∀ q ∈ hl, 0 ≤ q.2 ∧ q.2 ≤ 63 from fun q hq => ⟨(HALL2 q hq).1, HFEW2.2 q hq⟩)
            have HL2 := Lib.hid (show hl.length ≤ 150 from by have := HFEW2.1; omega)
            have HQT := Lib.hid (show ∀ q ∈ hl, q.1 ≤ 300000 from fun q hq => by have h1 := (HALL2 q hq).2; have h2 := KC.out.time; omega)
            obtain ⟨va, vc, rfl⟩ := R9.out.slice
            obtain ⟨m, hm⟩ : ∃ m, hl.length = m := ⟨_, rfl⟩
            have HM := Lib.hid hm
            have hm150 : m ≤ 150 := by have := HL2.out; omega
            rw [hm] at hl3 ⊢
            clear HALL2 HFEW2 hm hhl
            go_wp2_with fail
            go_loopw [17, 91] (fun sm i W => ∃ (j : Nat) (z : Int), j ≤ m ∧ i = .int .i64 (j : Int) ∧ sm = .int .i64 z ∧ z = after (hl.take j) ((T : Int) - sp) ∧ Mod [] w9 W) (fun _ i _ => m - (intOf i).toNat)
            case atStart => exact ⟨0, 0, Nat.zero_le _, rfl, rfl, rfl, Mod.refl _ _⟩
            case round =>
              obtain ⟨j, z, hj, rfl, rfl, hz, hM10⟩ := hrel
              have HZ := Lib.hid hz
              have M10 := Lib.hid hM10
              have hzb : 0 ≤ z ∧ z ≤ 9450 := by
                have := after_most (l := hl.take j) (fun q hq => HA2.out q (List.mem_of_mem_take hq)) ((T : Int) - sp)
                rw [← hz] at this
                have h2 : (hl.take j).length ≤ 150 := by rw [List.length_take]; have := HL2.out; omega
                omega
              obtain ⟨hz0, hz1⟩ := hzb
              clear hz hM10
              by_cases hlt2 : j < m
              · obtain ⟨q, hq⟩ : ∃ q, hl[j]? = some q := ⟨_, List.getElem?_eq_getElem (by have := HM.out; omega)⟩
                have hne : hl ≠ [] := fun h => by rw [h] at hq; simp at hq
                have R10 := R9.out.mod M10.out (by simp)
                obtain ⟨gv, gc, hve, hg1, hg2, hcl⟩ := R10.cell hne
                simp only [Value.slice.injEq] at hve
                obtain ⟨rfl, _, rfl⟩ := hve
                obtain ⟨y0, y1⟩ := hcl j q hq
                have hnx := after_next hq ((T : Int) - sp)
                have hq0 := HA2.out q (List.mem_of_getElem? hq)
                have hqt := HQT.out q (List.mem_of_getElem? hq)
                rw [← HZ.out] at hnx
                obtain ⟨qt, qc⟩ := q
                simp only at y0 y1 hnx hq0 hqt
                obtain ⟨hq1, hq2⟩ := hq0
                have hgl : ¬ gv = wr.heap.size := by omega
                have dj : decide ((j : Int) < (m : Int)) = true := by simp; omega
                have dj' : decide (j < m) = true := by simp; omega
                by_cases hin : (T : Int) - sp < (qt : Int)
                · rw [if_pos hin] at hnx
                  have din : decide ((T : Int) - sp < (qt : Int)) = true := decide_eq_true hin
                  have HNX := Lib.hid hnx
                  clear hnx hcl hg1 hne hq R10 hin
                  go_wp2_with fail
                  go_roundw
                  case rel => exact ⟨j + 1, z + qc, by omega, by go_num, rfl, HNX.out.symm, M10.out.alloc _⟩
                  case measure => simp [intOf]; omega
                · rw [if_neg hin, Int.add_zero] at hnx
                  have din : decide ((T : Int) - sp < (qt : Int)) = false := decide_eq_false hin
                  have HNX := Lib.hid hnx
                  clear hnx hcl hg1 hne hq R10 hin
                  go_wp2_with fail
                  go_roundw
                  case rel => exact ⟨j + 1, z, by omega, by go_num, rfl, HNX.out.symm, M10.out.alloc _⟩
                  case measure => simp [intOf]; omega
              · obtain rfl : j = m := by omega
                have dj : decide ((j : Int) < (j : Int)) = false := by simp
                have hzl : z ≤ r0 := by
                  have h1 := HZ.out
                  rw [List.take_of_length_le (by have := HM.out; omega)] at h1
                  have := HAF.out
                  omega
                have dz : decide (r0 < z) = false := by simp; omega
                have RB10 := Lib.hid (M10.out.blk RB9.out (by simp))
                have rb0 := RB10.out.cell (i := 0) rfl
                have L10 := Lib.hid (L9.out.mod0 M10.out)
                have HD10 := Lib.hid (HD9.out.mod0 M10.out)
                have M11 := Lib.hid (M9.out.trans M10.out)
                clear hzl
                go_wp2_with fail
                go_roundw
                case rel => exact ⟨k + 1, T, s2, nn + 1, _, _, _, by omega, by go_num, rfl, L10.out, KC.out, LJ2.out, HD10.out, by have := HNN.out; omega, RB10.out, M11.out⟩
                case measure => simp [intOf]; omega
          · refine ⟨[(6, 10)], by decide, fun p hp => by simp only [List.mem_cons, List.not_mem_nil, or_false] at hp; rcases hp with rfl <;> assumption, held_perm [0, 1, 2, 3, 4, 5, 7, 8, 9, 6, 10, 11, 12] [10, 2] [2] (Value.slice ua (H key).length uc).ownBlock.toList (by kernel_rfl) (by kernel_rfl) ?_⟩
            simp only [wpCut, edges, edge, perm, reOper, reGuard, List.getElem?_cons_succ, List.getElem?_cons_zero, List.take_succ_cons, List.take_zero, List.drop_succ_cons, List.drop_zero, List.cons_append, List.nil_append]
            go_wp2_with fail
            refine ⟨(Mod.refl (Value.slice ua (H key).length uc).ownBlock.toList wE.drew), ?_⟩
            go_wp2_with (at_builtin; go_must (refine app_let (T, (n1 : Int)) _ UR1.out rfl _ _ rfl rfl rfl NB.out HBS.out HLN.out ?_; intro v8 w8 hO8 hat8 hM8; have O8 := Lib.hid hO8; have AT8 := Lib.hid hat8; have HM8 := Lib.hid hM8; clear hO8 hat8 hM8))
            refine ⟨(((Mod.refl (Value.slice ua (H key).length uc).ownBlock.toList wE.drew).alloc (.cells #[.int .i64 (T : Int), .int .i64 (n1 : Int)] 45)).trans HM8.out), ?_⟩
            have HDA := Lib.hid (HD7.out.mod0 (((Mod.refl [] wE).alloc (.cells #[.int .i64 (T : Int), .int .i64 (n1 : Int)] 45)).drew))
            have HM8t := Lib.hid (show tb ∉ (Value.slice ua (H key).length uc).ownBlock.toList from fun hb => by have := own_block UR1.out tb (by simpa using hb); omega)
            obtain ⟨w9, pt, P9, N9⟩ := (HDA.out.map.mod HM8.out HM8t.out).put (mt := 33) SK Try.underlying33 (by have := HNN.out; unfold maxLen; omega) (text_key key HKM.out) v8
            have HD9 := Lib.hid (HDA.out.put key (v2 := v8) (t := T) (z := (n1 : Int)) (w2 := w8) (w3 := w9) O8.out (by rw [HU.out]; exact AT8.out) (by rw [HU.out]; exact HM8.out) P9 N9)
            have NF9 : Hid (Mod (tb :: (Value.slice ua (H key).length uc).ownBlock.toList) wE w9) := Lib.hid (((((Mod.refl [] wE).alloc (.cells #[.int .i64 (T : Int), .int .i64 (n1 : Int)] 45)).drew.mono (fun b hb => by cases hb)).trans (show Mod (tb :: (Value.slice ua (H key).length uc).ownBlock.toList) _ w8 from HM8.out.mono (fun b hb => .inl (List.mem_cons_of_mem _ hb)))).trans (N9.mono (fun b hb => by simp only [List.mem_singleton] at hb; subst hb; exact .inl List.mem_cons_self)))
            have HMT := Lib.hid (show ∀ b, b ∈ tb :: (Value.slice ua (H key).length uc).ownBlock.toList → tb ≤ b from fun b hb => by
              simp only [List.mem_cons] at hb
              rcases hb with rfl | hb
              · omega
              · have := own_block UR1.out b (by simpa using hb); omega)
            have L9 := Lib.hid (L7.out.mod NF9.out (fun b hb hb2 => by have h1 := HTN.out.1 b hb; have h2 := HMT.out b hb2; omega) (fun hb2 => by have h1 := HTN.out.2.1; have h2 := HMT.out _ hb2; omega))
            have RB9 := Lib.hid (NF9.out.blk RB7.out (fun hb2 => by have h1 := HTN.out.2.2; have h2 := HMT.out _ hb2; omega))
            have CC9 := Lib.hid (NF9.out.blk CC7.out (fun hb2 => by
              simp only [List.mem_cons] at hb2
              rcases hb2 with h | h
              · have := HCBE.out; have := HD.out.map.lt; omega
              · exact HUN.out h))
            have M9 := Lib.hid (M7.out.trans' NF9.out (fun b hb => .inr (by have h2 := HMT.out b hb; have := HTN4.out; omega)))
            have hl3 := HD9.out.map.get (mt := 33) SK Try.underlying33 (zero_let _) (text_key key HKM.out)
            rw [updG_same] at hl3
            simp only [Option.getD_some] at hl3
            have cc9 := CC9.out.cell (i := 2) rfl
            have R9 := Lib.hid (HD9.out.yes key v8 (updG_same _ _ _))
            clear P9 N9 hl1 hl2 hl1d hl2d cc7
            go_wp2_with fail
            refine ⟨by kernel_rfl, ⟨⟨HUN.out, ISC.out⟩, trivial⟩, ?_⟩
            obtain ⟨hl, hhl⟩ : ∃ hl, more H key T (n1 : Int) key = hl := ⟨_, rfl⟩
            rw [hhl] at R9 HAF
            have HALL2 := HALL.out
            have HFEW2 := HFEW.out
            rw [hhl] at HALL2 HFEW2
            have HA2 := Lib.hid (show ∀ q ∈ hl, 0 ≤ q.2 ∧ q.2 ≤ 63 from fun q hq => ⟨(HALL2 q hq).1, HFEW2.2 q hq⟩)
            have HL2 := Lib.hid (show hl.length ≤ 150 from by have := HFEW2.1; omega)
            have HQT := Lib.hid (show ∀ q ∈ hl, q.1 ≤ 300000 from fun q hq => by have h1 := (HALL2 q hq).2; have h2 := KC.out.time; omega)
            obtain ⟨va, vc, rfl⟩ := R9.out.slice
            obtain ⟨m, hm⟩ : ∃ m, hl.length = m := ⟨_, rfl⟩
            have HM := Lib.hid hm
            have hm150 : m ≤ 150 := by have := HL2.out; omega
            rw [hm] at hl3 ⊢
            clear HALL2 HFEW2 hm hhl
            go_wp2_with fail
            go_loopw [17, 91] (fun sm i W => ∃ (j : Nat) (z : Int), j ≤ m ∧ i = .int .i64 (j : Int) ∧ sm = .int .i64 z ∧ z = after (hl.take j) ((T : Int) - sp) ∧ Mod [] w9 W) (fun _ i _ => m - (intOf i).toNat)
            case atStart => exact ⟨0, 0, Nat.zero_le _, rfl, rfl, rfl, Mod.refl _ _⟩
            case round =>
              obtain ⟨j, z, hj, rfl, rfl, hz, hM10⟩ := hrel
              have HZ := Lib.hid hz
              have M10 := Lib.hid hM10
              have hzb : 0 ≤ z ∧ z ≤ 9450 := by
                have := after_most (l := hl.take j) (fun q hq => HA2.out q (List.mem_of_mem_take hq)) ((T : Int) - sp)
                rw [← hz] at this
                have h2 : (hl.take j).length ≤ 150 := by rw [List.length_take]; have := HL2.out; omega
                omega
              obtain ⟨hz0, hz1⟩ := hzb
              clear hz hM10
              by_cases hlt2 : j < m
              · obtain ⟨q, hq⟩ : ∃ q, hl[j]? = some q := ⟨_, List.getElem?_eq_getElem (by have := HM.out; omega)⟩
                have hne : hl ≠ [] := fun h => by rw [h] at hq; simp at hq
                have R10 := R9.out.mod M10.out (by simp)
                obtain ⟨gv, gc, hve, hg1, hg2, hcl⟩ := R10.cell hne
                simp only [Value.slice.injEq] at hve
                obtain ⟨rfl, _, rfl⟩ := hve
                obtain ⟨y0, y1⟩ := hcl j q hq
                have hnx := after_next hq ((T : Int) - sp)
                have hq0 := HA2.out q (List.mem_of_getElem? hq)
                have hqt := HQT.out q (List.mem_of_getElem? hq)
                rw [← HZ.out] at hnx
                obtain ⟨qt, qc⟩ := q
                simp only at y0 y1 hnx hq0 hqt
                obtain ⟨hq1, hq2⟩ := hq0
                have hgl : ¬ gv = wr.heap.size := by omega
                have dj : decide ((j : Int) < (m : Int)) = true := by simp; omega
                have dj' : decide (j < m) = true := by simp; omega
                by_cases hin : (T : Int) - sp < (qt : Int)
                · rw [if_pos hin] at hnx
                  have din : decide ((T : Int) - sp < (qt : Int)) = true := decide_eq_true hin
                  have HNX := Lib.hid hnx
                  clear hnx hcl hg1 hne hq R10 hin
                  go_wp2_with fail
                  go_roundw
                  case rel => exact ⟨j + 1, z + qc, by omega, by go_num, rfl, HNX.out.symm, M10.out.alloc _⟩
                  case measure => simp [intOf]; omega
                · rw [if_neg hin, Int.add_zero] at hnx
                  have din : decide ((T : Int) - sp < (qt : Int)) = false := decide_eq_false hin
                  have HNX := Lib.hid hnx
                  clear hnx hcl hg1 hne hq R10 hin
                  go_wp2_with fail
                  go_roundw
                  case rel => exact ⟨j + 1, z, by omega, by go_num, rfl, HNX.out.symm, M10.out.alloc _⟩
                  case measure => simp [intOf]; omega
              · obtain rfl : j = m := by omega
                have dj : decide ((j : Int) < (j : Int)) = false := by simp
                have hzl : z ≤ r0 := by
                  have h1 := HZ.out
                  rw [List.take_of_length_le (by have := HM.out; omega)] at h1
                  have := HAF.out
                  omega
                have dz : decide (r0 < z) = false := by simp; omega
                have RB10 := Lib.hid (M10.out.blk RB9.out (by simp))
                have rb0 := RB10.out.cell (i := 0) rfl
                have L10 := Lib.hid (L9.out.mod0 M10.out)
                have HD10 := Lib.hid (HD9.out.mod0 M10.out)
                have M11 := Lib.hid (M9.out.trans M10.out)
                clear hzl
                go_wp2_with fail
                go_roundw
                case rel => exact ⟨k + 1, T, s2, nn + 1, _, _, _, by omega, by go_num, rfl, L10.out, KC.out, LJ2.out, HD10.out, by have := HNN.out; omega, RB10.out, M11.out⟩
                case measure => simp [intOf]; omega
        · have hv1 : (av == 1) = false := by simp [hv]
          have LJ2 := Lib.hid (JC.out.2 hv)
          clear hv
          go_wp2_with fail
          go_roundw
          case rel => exact ⟨k + 1, T, s2, nn, cc, f, H, by omega, by go_num, rfl, L7.out, KC.out, LJ2.out, HD7.out, by have := HNN.out; omega, RB7.out, M7.out⟩
          case measure => simp [intOf]; omega
      · obtain rfl : k = n := by omega
        have dk : decide ((k : Int) < (k : Int)) = false := by simp
        clear hLr hKr hJr hDr hNr hRr hM
        go_wp2_with fail
        go_ret
        exact ⟨rfl, MR.out⟩
  | false =>
    simp only [Bool.false_eq_true, if_false, if_true] at jq1
    have LJ0 := Lib.hid (show LimJ c (new0 c) 0 r1 (fun _ => []) from by have h := HJ0.out; rw [jq1, Int.sub_zero] at h; exact h)
    clear jq1 jq2 hqd jq3 jq4
    go_wp2_with fail
    clear hmm rb1 rb3 rb8 hl0 hl1 
    obtain ⟨tb, htb⟩ : ∃ tb, w4.heap.size = tb := ⟨_, rfl⟩
    rw [htb] at HD4 HTN HTN4
    rw [htb]
    clear htb
    obtain ⟨sp, rfl⟩ : ∃ sp, sp = r1 := ⟨_, rfl⟩
    go_loopw [11, 49] (fun now i W => ∃ (k t : Nat) (s : Lm) (nn cc : Nat) (f : Lit → Option Value) (H : List UInt8 → List (Nat × Int)), k ≤ n ∧ i = .int .i64 (k : Int) ∧ now = .int .i64 (t : Int) ∧ LimAt W B c s ∧ Kept c s k t ∧ LimJ c s k sp H ∧ Had W tb (tb + 1) nn f cc H ∧ nn ≤ k ∧ Blk W w3.heap.size 29 [.int .i64 r0, .int .i64 sp, .int .i64 r2, .int .i64 r3, .int .i64 r4, .int .i64 r5, .int .i64 r6, .int .i64 r7, .bool false] ∧ Mod [] w W) (fun _ i _ => n - (intOf i).toNat)
    case atStart => exact ⟨0, 0, new0 c, 0, 0, fun _ => none, fun _ => [], Nat.zero_le _, rfl, rfl, L4.out.mod0 A4.out, kept0 c HC.out, LJ0.out, HD4.out, by omega, RB4.out.alloc _, M4.out.trans A4.out⟩
    case round =>
      obtain ⟨k, t, s, nn, cc, f, H, hk, rfl, rfl, hLr, hKr, hJr, hDr, hNr, hRr, hM⟩ := hrel
      have LR := Lib.hid hLr
      have HK := Lib.hid hKr
      have HLJ := Lib.hid hJr
      have HD := Lib.hid hDr
      have HNN := Lib.hid hNr
      have RR := Lib.hid hRr
      have MR := Lib.hid hM
      by_cases hlt : k < n
      · obtain ⟨q, hq⟩ : ∃ q, l[k]? = some q := ⟨_, List.getElem?_eq_getElem (by have := HN.out; omega)⟩
        obtain ⟨b, off, rfl, hcells⟩ := GET.out k q hq
        have hk64 := KEY.out k q hq
        obtain ⟨x0, x1, x2, x3⟩ := hcells wr hM
        obtain ⟨gz, cz, key, pk⟩ := q
        simp only at x0 x1 x2 x3 hk64
        have HF := Lib.hid (hLr.ring.few.2)
        have CC := Lib.hid (Blk.new wr [.int .i64 gz, .int .i64 cz, .string ⟨key.toArray⟩, .bool pk] 35)
        have AC := Lib.hid ((Mod.refl [] wr).alloc (.cells #[.int .i64 gz, .int .i64 cz, .string ⟨key.toArray⟩, .bool pk] 35))
        have hrw : w3.heap.size < wr.heap.size := hRr.lt
        have hrw' : ¬ w3.heap.size = wr.heap.size := by omega
        have hti := hKr.time
        have rb0 := hRr.cell (i := 0) rfl
        have rb1 := hRr.cell (i := 1) rfl
        have rb2 := hRr.cell (i := 2) rfl
        have rb3 := hRr.cell (i := 3) rfl
        have rb4 := hRr.cell (i := 4) rfl
        have rb5 := hRr.cell (i := 5) rfl
        have rb6 := hRr.cell (i := 6) rfl
        have rb7 := hRr.cell (i := 7) rfl
        have rb8 := hRr.cell (i := 8) rfl
        have dk : decide ((k : Int) < (n : Int)) = true := by simp; omega
        obtain ⟨hk150, ht2⟩ := small_kt (show k ≤ 149 by omega) hti.2
        clear hLr hKr hJr hDr hNr hRr hM hcells hq
        go_wp2_with fail
        refine (gap_any gz _).mono ?_
        rintro e5 w5 ⟨g, rfl, hg, rfl⟩
        go_wp2_with fail
        refine (CO.out cz _).mono ?_
        rintro e6 w6 ⟨n1, rfl, hn1, hM6⟩
        have MC6 := Lib.hid (AC.out.trans hM6)
        have RB6 := Lib.hid (MC6.out.blk RR.out (by simp))
        have CC6 := Lib.hid (hM6.blk CC.out (by simp))
        have cc2 := CC6.out.cell (i := 2) rfl
        have rb2' := RB6.out.cell (i := 2) rfl
        have hlim2 : c.r.limit ≤ 32 := by rw [HCR.out]; exact HLIM.out
        have hcb : c.r.burst = r2 := by rw [HCR.out]
        clear hM6 x0 x1 x2 x3 rb0 rb1 rb2 rb3 rb4 rb5 rb6 rb7 rb8
        obtain ⟨T, hT⟩ : ∃ T, t + g = T := ⟨_, rfl⟩
        have hTi : (t : Int) + (g : Int) = (T : Int) := by omega
        have hTb : T ≤ 300000 := by omega
        have hsT : s.ring.now ≤ T := by have := HK.out.time; omega
        have hst : c.step = 2 * c.r.limit.toNat + 1 := rfl
        have hkb : 65 * k ≤ 10000 := by omega
        have CK0 := fun W (hL : LimAt W B c s) => check_any hL HK.out.inv HC.out (by omega) hsT 0 key (by omega) (n1 : Int)
        have KC0 := HK.out.check HC.out hlim2 (by omega) HF.out hg 0 hk64 hn1
        rw [hT] at KC0
        have JC0 := HLJ.out.check HK.out HC.out LR.out.pok hlim2 (by omega) (show t ≤ T by omega) hk64 hn1
        have hcl : c.r.limit = r0 := by rw [HCR.out]
        rw [hcl] at JC0
        have hvd := check_verdict c s (T : Int) 0 key (n1 : Int)
        rcases hck : check c s (T : Int) 0 key (n1 : Int) with ⟨⟨av, ar, at_⟩, ev, s2⟩
        rw [hck] at CK0 KC0 JC0 hvd
        simp only at KC0 JC0 hvd
        have CK := Lib.hid CK0
        have KC := Lib.hid KC0
        have JC := Lib.hid JC0
        have NCC := Lib.hid (show wr.heap.size ∉ B.all from fun hb => by have := LR.out.lt _ hb; omega)
        have HBT := Lib.hid (show ∀ b, b ∈ B.all → b < tb + 1 ∧ b ≠ tb from fun b hb => by have := HTN.out.1 b hb; omega)
        rw [hTi]
        clear CK0 KC0 JC0 hvd hck hsT hst hkb hT hTi hcb hlim2 rb2' hti hcl
        go_wp2_with fail
        refine (CK.out _ (LR.out.mod0 MC6.out)).mono ?_
        rintro e7 w7 ⟨v7, rfl, hO7, hL7, hM7⟩
        obtain ⟨a7, c7, rfl⟩ := hO7.slice
        have AM7 := Lib.hid ((Mod.refl [] w7).alloc (.cells #[.int .i64 av, .int .i64 ar, .int .i64 at_] 39))
        have L7 := Lib.hid (hL7.mod0 AM7.out)
        have RB7 := Lib.hid (AM7.out.blk (hM7.blk RB6.out BL.out.2) (by simp))
        have CC7 := Lib.hid (AM7.out.blk (hM7.blk CC6.out NCC.out) (by simp))
        have HD7 := Lib.hid (((HD.out.mod0 MC6.out).mod hM7 HBT.out).mod0 AM7.out)
        have M7 := Lib.hid (((MR.out.trans MC6.out).trans' hM7 (fun b hb => .inr (by have := BL.out.1 b hb; omega))).trans AM7.out)
        clear hO7 hL7 hM7 cc2
        simp only [Ans.val]
        by_cases hv : av = 1
        · subst hv
          obtain ⟨hj2, hle2⟩ := JC.out.1 rfl
          have LJ2 := Lib.hid hj2
          have HAF := Lib.hid hle2
          have hall := hj2.hj.all key
          have hfew := hj2.few key
          have HALL := Lib.hid hall
          have HFEW := Lib.hid hfew
          clear hj2 hle2 hall hfew
          go_wp2_with fail
          obtain ⟨wE, hwE⟩ : ∃ wE, w7.alloc (.cells #[.int .i64 1, .int .i64 ar, .int .i64 at_] 39) = wE := ⟨_, rfl⟩
          rw [hwE] at L7 RB7 CC7 HD7 M7 ⊢
          obtain ⟨cb, hcb⟩ : ∃ cb, wr.heap.size = cb := ⟨_, rfl⟩
          rw [hcb] at CC7 ⊢
          have HCBE := Lib.hid hcb
          clear hwE AM7 hcb
          have cc7 := CC7.out.cell (i := 2) rfl
          have ltC : cb < wE.heap.size := CC7.out.lt
          have ltC' : ¬ cb = wE.heap.size := by omega
          have ISC := Lib.hid (isC_of_blk CC7.out.drew)
          have hkm : key.length ≤ maxLen := by unfold maxLen; omega
          have HKM := Lib.hid hkm
          obtain ⟨u, hu⟩ : ∃ u, (f (.string key)).getD (.slice none 0 0) = u := ⟨_, rfl⟩
          have UR := Lib.hid (show OwnL wE (tb + 1) u (H key) by rw [← hu]; exact HD7.out.row key)
          have hl1 := HD7.out.map.get (mt := 33) SK Try.underlying33 (zero_let _) (text_key key hkm)
          have hl2 := (HD7.out.mod0 ((Mod.refl [] wE).alloc (.cells #[.int .i64 (T : Int), .int .i64 (n1 : Int)] 45))).map.get (mt := 33) SK Try.underlying33 (zero_let _) (text_key key hkm)
          have hl1d := (HD7.out.mod0 (Mod.refl [] wE).drew).map.get (mt := 33) SK Try.underlying33 (zero_let _) (text_key key hkm)
          have hl2d := (HD7.out.mod0 (((Mod.refl [] wE).alloc (.cells #[.int .i64 (T : Int), .int .i64 (n1 : Int)] 45)).drew)).map.get (mt := 33) SK Try.underlying33 (zero_let _) (text_key key hkm)
          rw [hu] at hl1 hl2 hl1d hl2d
          have HUN := Lib.hid (show cb ∉ u.ownBlock.toList from own_ne UR.out CC7.out (by decide))
          have NB := Lib.hid ((Blk.new wE [.int .i64 (T : Int), .int .i64 (n1 : Int)] 45).drew)
          have HBS := Lib.hid (show tb + 1 ≤ (wE.alloc (.cells #[.int .i64 (T : Int), .int .i64 (n1 : Int)] 45)).drew.heap.size from by
            have := HD7.out.map.lt
            show tb + 1 ≤ (wE.alloc (.cells #[.int .i64 (T : Int), .int .i64 (n1 : Int)] 45)).heap.size
            simp; omega)
          have HU := Lib.hid hu
          have HLN := Lib.hid (show (H key).length ≤ 900000 from by have := (HLJ.out.few key).1; omega)
          have UR1 := Lib.hid (UR.out.mod (((Mod.refl [] wE).alloc (.cells #[.int .i64 (T : Int), .int .i64 (n1 : Int)] 45)).drew) (by simp))
          obtain ⟨ua, uc, rfl⟩ := UR.out.slice
          clear hu hkm
          refine wp_region_sched (by kernel_rfl) fun S => ?_
          rcases before_or 10 6 S with q0 | q0
          · refine ⟨[(10, 6)], by decide, fun p hp => by simp only [List.mem_cons, List.not_mem_nil, or_false] at hp; rcases hp with rfl <;> assumption, held_perm [0, 1, 2, 3, 4, 5, 7, 8, 9, 10, 6, 11, 12] [11, 1] [2, 5] (Value.slice ua (H key).length uc).ownBlock.toList (by kernel_rfl) (by kernel_rfl) ?_⟩
            simp only [wpCut, edges, edge, perm, reOper, reGuard, List.getElem?_cons_succ, List.getElem?_cons_zero, List.take_succ_cons, List.take_zero, List.drop_succ_cons, List.drop_zero, List.cons_append, List.nil_append]
            go_wp2_with fail
            refine ⟨((Mod.refl (Value.slice ua (H key).length uc).ownBlock.toList wE.drew).alloc (.cells #[.int .i64 (T : Int), .int .i64 (n1 : Int)] 45)), ?_⟩
            go_wp2_with (at_builtin; go_must (refine app_let (T, (n1 : Int)) _ UR1.out rfl _ _ rfl rfl rfl NB.out HBS.out HLN.out ?_; intro v8 w8 hO8 hat8 hM8; have O8 := Lib.hid hO8; have AT8 := Lib.hid hat8; have HM8 := Lib.hid hM8; clear hO8 hat8 hM8))
            refine ⟨(((Mod.refl (Value.slice ua (H key).length uc).ownBlock.toList wE.drew).alloc (.cells #[.int .i64 (T : Int), .int .i64 (n1 : Int)] 45)).trans HM8.out), ?_⟩
            have HDA := Lib.hid (HD7.out.mod0 (((Mod.refl [] wE).alloc (.cells #[.int .i64 (T : Int), .int .i64 (n1 : Int)] 45)).drew))
            have HM8t := Lib.hid (show tb ∉ (Value.slice ua (H key).length uc).ownBlock.toList from fun hb => by have := own_block UR1.out tb (by simpa using hb); omega)
            obtain ⟨w9, pt, P9, N9⟩ := (HDA.out.map.mod HM8.out HM8t.out).put (mt := 33) SK Try.underlying33 (by have := HNN.out; unfold maxLen; omega) (text_key key HKM.out) v8
            have HD9 := Lib.hid (HDA.out.put key (v2 := v8) (t := T) (z := (n1 : Int)) (w2 := w8) (w3 := w9) O8.out (by rw [HU.out]; exact AT8.out) (by rw [HU.out]; exact HM8.out) P9 N9)
            have NF9 : Hid (Mod (tb :: (Value.slice ua (H key).length uc).ownBlock.toList) wE w9) := Lib.hid (((((Mod.refl [] wE).alloc (.cells #[.int .i64 (T : Int), .int .i64 (n1 : Int)] 45)).drew.mono (fun b hb => by cases hb)).trans (show Mod (tb :: (Value.slice ua (H key).length uc).ownBlock.toList) _ w8 from HM8.out.mono (fun b hb => .inl (List.mem_cons_of_mem _ hb)))).trans (N9.mono (fun b hb => by simp only [List.mem_singleton] at hb; subst hb; exact .inl List.mem_cons_self)))
            have HMT := Lib.hid (show ∀ b, b ∈ tb :: (Value.slice ua (H key).length uc).ownBlock.toList → tb ≤ b from fun b hb => by
              simp only [List.mem_cons] at hb
              rcases hb with rfl | hb
              · omega
              · have := own_block UR1.out b (by simpa using hb); omega)
            have L9 := Lib.hid (L7.out.mod NF9.out (fun b hb hb2 => by have h1 := HTN.out.1 b hb; have h2 := HMT.out b hb2; omega) (fun hb2 => by have h1 := HTN.out.2.1; have h2 := HMT.out _ hb2; omega))
            have RB9 := Lib.hid (NF9.out.blk RB7.out (fun hb2 => by have h1 := HTN.out.2.2; have h2 := HMT.out _ hb2; omega))
            have CC9 := Lib.hid (NF9.out.blk CC7.out (fun hb2 => by
              simp only [List.mem_cons] at hb2
              rcases hb2 with h | h
              · have := HCBE.out; have := HD.out.map.lt; omega
              · exact HUN.out h))
            have M9 := Lib.hid (M7.out.trans' NF9.out (fun b hb => .inr (by have h2 := HMT.out b hb; have := HTN4.out; omega)))
            have hl3 := HD9.out.map.get (mt := 33) SK Try.underlying33 (zero_let _) (text_key key HKM.out)
            rw [updG_same] at hl3
            simp only [Option.getD_some] at hl3
            have cc9 := CC9.out.cell (i := 2) rfl
            have R9 := Lib.hid (HD9.out.yes key v8 (updG_same _ _ _))
            clear P9 N9 hl1 hl2 hl1d hl2d cc7
            go_wp2_with fail
            refine ⟨by kernel_rfl, ⟨⟨HUN.out, ISC.out⟩, ⟨HUN.out, ISC.out⟩, trivial⟩, ?_⟩
            obtain ⟨hl, hhl⟩ : ∃ hl, more H key T (n1 : Int) key = hl := ⟨_, rfl⟩
            rw [hhl] at R9 HAF
            have HALL2 := HALL.out
            have HFEW2 := HFEW.out
            rw [hhl] at HALL2 HFEW2
            have HA2 := Lib.hid (show ∀ q ∈ hl, 0 ≤ q.2 ∧ q.2 ≤ 63 from fun q hq => ⟨(HALL2 q hq).1, HFEW2.2 q hq⟩)
            have HL2 := Lib.hid (show hl.length ≤ 150 from by have := HFEW2.1; omega)
            have HQT := Lib.hid (show ∀ q ∈ hl, q.1 ≤ 300000 from fun q hq => by have h1 := (HALL2 q hq).2; have h2 := KC.out.time; omega)
            obtain ⟨va, vc, rfl⟩ := R9.out.slice
            obtain ⟨m, hm⟩ : ∃ m, hl.length = m := ⟨_, rfl⟩
            have HM := Lib.hid hm
            have hm150 : m ≤ 150 := by have := HL2.out; omega
            rw [hm] at hl3 ⊢
            clear HALL2 HFEW2 hm hhl
            go_wp2_with fail
            go_loopw [17, 91] (fun sm i W => ∃ (j : Nat) (z : Int), j ≤ m ∧ i = .int .i64 (j : Int) ∧ sm = .int .i64 z ∧ z = after (hl.take j) ((T : Int) - sp) ∧ Mod [] w9 W) (fun _ i _ => m - (intOf i).toNat)
            case atStart => exact ⟨0, 0, Nat.zero_le _, rfl, rfl, rfl, Mod.refl _ _⟩
            case round =>
              obtain ⟨j, z, hj, rfl, rfl, hz, hM10⟩ := hrel
              have HZ := Lib.hid hz
              have M10 := Lib.hid hM10
              have hzb : 0 ≤ z ∧ z ≤ 9450 := by
                have := after_most (l := hl.take j) (fun q hq => HA2.out q (List.mem_of_mem_take hq)) ((T : Int) - sp)
                rw [← hz] at this
                have h2 : (hl.take j).length ≤ 150 := by rw [List.length_take]; have := HL2.out; omega
                omega
              obtain ⟨hz0, hz1⟩ := hzb
              clear hz hM10
              by_cases hlt2 : j < m
              · obtain ⟨q, hq⟩ : ∃ q, hl[j]? = some q := ⟨_, List.getElem?_eq_getElem (by have := HM.out; omega)⟩
                have hne : hl ≠ [] := fun h => by rw [h] at hq; simp at hq
                have R10 := R9.out.mod M10.out (by simp)
                obtain ⟨gv, gc, hve, hg1, hg2, hcl⟩ := R10.cell hne
                simp only [Value.slice.injEq] at hve
                obtain ⟨rfl, _, rfl⟩ := hve
                obtain ⟨y0, y1⟩ := hcl j q hq
                have hnx := after_next hq ((T : Int) - sp)
                have hq0 := HA2.out q (List.mem_of_getElem? hq)
                have hqt := HQT.out q (List.mem_of_getElem? hq)
                rw [← HZ.out] at hnx
                obtain ⟨qt, qc⟩ := q
                simp only at y0 y1 hnx hq0 hqt
                obtain ⟨hq1, hq2⟩ := hq0
                have hgl : ¬ gv = wr.heap.size := by omega
                have dj : decide ((j : Int) < (m : Int)) = true := by simp; omega
                have dj' : decide (j < m) = true := by simp; omega
                by_cases hin : (T : Int) - sp < (qt : Int)
                · rw [if_pos hin] at hnx
                  have din : decide ((T : Int) - sp < (qt : Int)) = true := decide_eq_true hin
                  have HNX := Lib.hid hnx
                  clear hnx hcl hg1 hne hq R10 hin
                  go_wp2_with fail
                  go_roundw
                  case rel => exact ⟨j + 1, z + qc, by omega, by go_num, rfl, HNX.out.symm, M10.out.alloc _⟩
                  case measure => simp [intOf]; omega
                · rw [if_neg hin, Int.add_zero] at hnx
                  have din : decide ((T : Int) - sp < (qt : Int)) = false := decide_eq_false hin
                  have HNX := Lib.hid hnx
                  clear hnx hcl hg1 hne hq R10 hin
                  go_wp2_with fail
                  go_roundw
                  case rel => exact ⟨j + 1, z, by omega, by go_num, rfl, HNX.out.symm, M10.out.alloc _⟩
                  case measure => simp [intOf]; omega
              · obtain rfl : j = m := by omega
                have dj : decide ((j : Int) < (j : Int)) = false := by simp
                have hzl : z ≤ r0 := by
                  have h1 := HZ.out
                  rw [List.take_of_length_le (by have := HM.out; omega)] at h1
                  have := HAF.out
                  omega
                have dz : decide (r0 < z) = false := by simp; omega
                have RB10 := Lib.hid (M10.out.blk RB9.out (by simp))
                have rb0 := RB10.out.cell (i := 0) rfl
                have L10 := Lib.hid (L9.out.mod0 M10.out)
                have HD10 := Lib.hid (HD9.out.mod0 M10.out)
                have M11 := Lib.hid (M9.out.trans M10.out)
                clear hzl
                go_wp2_with fail
                go_roundw
                case rel => exact ⟨k + 1, T, s2, nn + 1, _, _, _, by omega, by go_num, rfl, L10.out, KC.out, LJ2.out, HD10.out, by have := HNN.out; omega, RB10.out, M11.out⟩
                case measure => simp [intOf]; omega
          · refine ⟨[(6, 10)], by decide, fun p hp => by simp only [List.mem_cons, List.not_mem_nil, or_false] at hp; rcases hp with rfl <;> assumption, held_perm [0, 1, 2, 3, 4, 5, 7, 8, 9, 6, 10, 11, 12] [10, 2] [2] (Value.slice ua (H key).length uc).ownBlock.toList (by kernel_rfl) (by kernel_rfl) ?_⟩
            simp only [wpCut, edges, edge, perm, reOper, reGuard, List.getElem?_cons_succ, List.getElem?_cons_zero, List.take_succ_cons, List.take_zero, List.drop_succ_cons, List.drop_zero, List.cons_append, List.nil_append]
            go_wp2_with fail
            refine ⟨(Mod.refl (Value.slice ua (H key).length uc).ownBlock.toList wE.drew), ?_⟩
            go_wp2_with (at_builtin; go_must (refine app_let (T, (n1 : Int)) _ UR1.out rfl _ _ rfl rfl rfl NB.out HBS.out HLN.out ?_; intro v8 w8 hO8 hat8 hM8; have O8 := Lib.hid hO8; have AT8 := Lib.hid hat8; have HM8 := Lib.hid hM8; clear hO8 hat8 hM8))
            refine ⟨(((Mod.refl (Value.slice ua (H key).length uc).ownBlock.toList wE.drew).alloc (.cells #[.int .i64 (T : Int), .int .i64 (n1 : Int)] 45)).trans HM8.out), ?_⟩
            have HDA := Lib.hid (HD7.out.mod0 (((Mod.refl [] wE).alloc (.cells #[.int .i64 (T : Int), .int .i64 (n1 : Int)] 45)).drew))
            have HM8t := Lib.hid (show tb ∉ (Value.slice ua (H key).length uc).ownBlock.toList from fun hb => by have := own_block UR1.out tb (by simpa using hb); omega)
            obtain ⟨w9, pt, P9, N9⟩ := (HDA.out.map.mod HM8.out HM8t.out).put (mt := 33) SK Try.underlying33 (by have := HNN.out; unfold maxLen; omega) (text_key key HKM.out) v8
            have HD9 := Lib.hid (HDA.out.put key (v2 := v8) (t := T) (z := (n1 : Int)) (w2 := w8) (w3 := w9) O8.out (by rw [HU.out]; exact AT8.out) (by rw [HU.out]; exact HM8.out) P9 N9)
            have NF9 : Hid (Mod (tb :: (Value.slice ua (H key).length uc).ownBlock.toList) wE w9) := Lib.hid (((((Mod.refl [] wE).alloc (.cells #[.int .i64 (T : Int), .int .i64 (n1 : Int)] 45)).drew.mono (fun b hb => by cases hb)).trans (show Mod (tb :: (Value.slice ua (H key).length uc).ownBlock.toList) _ w8 from HM8.out.mono (fun b hb => .inl (List.mem_cons_of_mem _ hb)))).trans (N9.mono (fun b hb => by simp only [List.mem_singleton] at hb; subst hb; exact .inl List.mem_cons_self)))
            have HMT := Lib.hid (show ∀ b, b ∈ tb :: (Value.slice ua (H key).length uc).ownBlock.toList → tb ≤ b from fun b hb => by
              simp only [List.mem_cons] at hb
              rcases hb with rfl | hb
              · omega
              · have := own_block UR1.out b (by simpa using hb); omega)
            have L9 := Lib.hid (L7.out.mod NF9.out (fun b hb hb2 => by have h1 := HTN.out.1 b hb; have h2 := HMT.out b hb2; omega) (fun hb2 => by have h1 := HTN.out.2.1; have h2 := HMT.out _ hb2; omega))
            have RB9 := Lib.hid (NF9.out.blk RB7.out (fun hb2 => by have h1 := HTN.out.2.2; have h2 := HMT.out _ hb2; omega))
            have CC9 := Lib.hid (NF9.out.blk CC7.out (fun hb2 => by
              simp only [List.mem_cons] at hb2
              rcases hb2 with h | h
              · have := HCBE.out; have := HD.out.map.lt; omega
              · exact HUN.out h))
            have M9 := Lib.hid (M7.out.trans' NF9.out (fun b hb => .inr (by have h2 := HMT.out b hb; have := HTN4.out; omega)))
            have hl3 := HD9.out.map.get (mt := 33) SK Try.underlying33 (zero_let _) (text_key key HKM.out)
            rw [updG_same] at hl3
            simp only [Option.getD_some] at hl3
            have cc9 := CC9.out.cell (i := 2) rfl
            have R9 := Lib.hid (HD9.out.yes key v8 (updG_same _ _ _))
            clear P9 N9 hl1 hl2 hl1d hl2d cc7
            go_wp2_with fail
            refine ⟨by kernel_rfl, ⟨⟨HUN.out, ISC.out⟩, trivial⟩, ?_⟩
            obtain ⟨hl, hhl⟩ : ∃ hl, more H key T (n1 : Int) key = hl := ⟨_, rfl⟩
            rw [hhl] at R9 HAF
            have HALL2 := HALL.out
            have HFEW2 := HFEW.out
            rw [hhl] at HALL2 HFEW2
            have HA2 := Lib.hid (show ∀ q ∈ hl, 0 ≤ q.2 ∧ q.2 ≤ 63 from fun q hq => ⟨(HALL2 q hq).1, HFEW2.2 q hq⟩)
            have HL2 := Lib.hid (show hl.length ≤ 150 from by have := HFEW2.1; omega)
            have HQT := Lib.hid (show ∀ q ∈ hl, q.1 ≤ 300000 from fun q hq => by have h1 := (HALL2 q hq).2; have h2 := KC.out.time; omega)
            obtain ⟨va, vc, rfl⟩ := R9.out.slice
            obtain ⟨m, hm⟩ : ∃ m, hl.length = m := ⟨_, rfl⟩
            have HM := Lib.hid hm
            have hm150 : m ≤ 150 := by have := HL2.out; omega
            rw [hm] at hl3 ⊢
            clear HALL2 HFEW2 hm hhl
            go_wp2_with fail
            go_loopw [17, 91] (fun sm i W => ∃ (j : Nat) (z : Int), j ≤ m ∧ i = .int .i64 (j : Int) ∧ sm = .int .i64 z ∧ z = after (hl.take j) ((T : Int) - sp) ∧ Mod [] w9 W) (fun _ i _ => m - (intOf i).toNat)
            case atStart => exact ⟨0, 0, Nat.zero_le _, rfl, rfl, rfl, Mod.refl _ _⟩
            case round =>
              obtain ⟨j, z, hj, rfl, rfl, hz, hM10⟩ := hrel
              have HZ := Lib.hid hz
              have M10 := Lib.hid hM10
              have hzb : 0 ≤ z ∧ z ≤ 9450 := by
                have := after_most (l := hl.take j) (fun q hq => HA2.out q (List.mem_of_mem_take hq)) ((T : Int) - sp)
                rw [← hz] at this
                have h2 : (hl.take j).length ≤ 150 := by rw [List.length_take]; have := HL2.out; omega
                omega
              obtain ⟨hz0, hz1⟩ := hzb
              clear hz hM10
              by_cases hlt2 : j < m
              · obtain ⟨q, hq⟩ : ∃ q, hl[j]? = some q := ⟨_, List.getElem?_eq_getElem (by have := HM.out; omega)⟩
                have hne : hl ≠ [] := fun h => by rw [h] at hq; simp at hq
                have R10 := R9.out.mod M10.out (by simp)
                obtain ⟨gv, gc, hve, hg1, hg2, hcl⟩ := R10.cell hne
                simp only [Value.slice.injEq] at hve
                obtain ⟨rfl, _, rfl⟩ := hve
                obtain ⟨y0, y1⟩ := hcl j q hq
                have hnx := after_next hq ((T : Int) - sp)
                have hq0 := HA2.out q (List.mem_of_getElem? hq)
                have hqt := HQT.out q (List.mem_of_getElem? hq)
                rw [← HZ.out] at hnx
                obtain ⟨qt, qc⟩ := q
                simp only at y0 y1 hnx hq0 hqt
                obtain ⟨hq1, hq2⟩ := hq0
                have hgl : ¬ gv = wr.heap.size := by omega
                have dj : decide ((j : Int) < (m : Int)) = true := by simp; omega
                have dj' : decide (j < m) = true := by simp; omega
                by_cases hin : (T : Int) - sp < (qt : Int)
                · rw [if_pos hin] at hnx
                  have din : decide ((T : Int) - sp < (qt : Int)) = true := decide_eq_true hin
                  have HNX := Lib.hid hnx
                  clear hnx hcl hg1 hne hq R10 hin
                  go_wp2_with fail
                  go_roundw
                  case rel => exact ⟨j + 1, z + qc, by omega, by go_num, rfl, HNX.out.symm, M10.out.alloc _⟩
                  case measure => simp [intOf]; omega
                · rw [if_neg hin, Int.add_zero] at hnx
                  have din : decide ((T : Int) - sp < (qt : Int)) = false := decide_eq_false hin
                  have HNX := Lib.hid hnx
                  clear hnx hcl hg1 hne hq R10 hin
                  go_wp2_with fail
                  go_roundw
                  case rel => exact ⟨j + 1, z, by omega, by go_num, rfl, HNX.out.symm, M10.out.alloc _⟩
                  case measure => simp [intOf]; omega
              · obtain rfl : j = m := by omega
                have dj : decide ((j : Int) < (j : Int)) = false := by simp
                have hzl : z ≤ r0 := by
                  have h1 := HZ.out
                  rw [List.take_of_length_le (by have := HM.out; omega)] at h1
                  have := HAF.out
                  omega
                have dz : decide (r0 < z) = false := by simp; omega
                have RB10 := Lib.hid (M10.out.blk RB9.out (by simp))
                have rb0 := RB10.out.cell (i := 0) rfl
                have L10 := Lib.hid (L9.out.mod0 M10.out)
                have HD10 := Lib.hid (HD9.out.mod0 M10.out)
                have M11 := Lib.hid (M9.out.trans M10.out)
                clear hzl
                go_wp2_with fail
                go_roundw
                case rel => exact ⟨k + 1, T, s2, nn + 1, _, _, _, by omega, by go_num, rfl, L10.out, KC.out, LJ2.out, HD10.out, by have := HNN.out; omega, RB10.out, M11.out⟩
                case measure => simp [intOf]; omega
        · have hv1 : (av == 1) = false := by simp [hv]
          have LJ2 := Lib.hid (JC.out.2 hv)
          clear hv
          go_wp2_with fail
          go_roundw
          case rel => exact ⟨k + 1, T, s2, nn, cc, f, H, by omega, by go_num, rfl, L7.out, KC.out, LJ2.out, HD7.out, by have := HNN.out; omega, RB7.out, M7.out⟩
          case measure => simp [intOf]; omega
      · obtain rfl : k = n := by omega
        have dk : decide ((k : Int) < (k : Int)) = false := by simp
        clear hLr hKr hJr hDr hNr hRr hM
        go_wp2_with fail
        go_ret
        exact ⟨rfl, MR.out⟩
theorem limit_law (w : World) (p : Plan) (v : Value) (zs : List Int) (h : Sl w v (zs.map (Value.int .u64))) (hw : ∀ z ∈ zs, (Lit.int .u64 z).wf = true) (a : Option Addr) (cp : Nat) (l : List Call) (hm : l.length ≤ maxLen) (hP : InRow w a 4 Call.cells l) :
    Calls Try.prog 3 #[p.val, v, .slice a l.length cp] w fun e w' => e = .returned (.bool true) ∧ Mod [] w w' := by
  obtain ⟨ds, hds, hdx⟩ := u64s hw
  rw [hds] at h
  clear hds hw
  by_cases hd60 : ds.length ≤ 60
  · cases hL : lightB l with
    | true => exact limit_main w p v ds h hdx hd60 a cp l hm hP hL
    | false =>
      have LI := Lib.hid (fun W (hM : Mod [] w W) => light_any (inrow_mod hP hM) hm cp)
      rw [hL] at LI
      obtain ⟨da, dc, rfl⟩ := sl_slice h
      have hdl : (v64 ds).length = ds.length := by simp [v64]
      rw [hdl]
      have d60 : decide ((60 : Int) < (ds.length : Int)) = false := by simp; omega
      obtain ⟨p0, p1, p2, p3, p4, p5, p6, p7, p8⟩ := p
      simp only [Plan.val] at *
      have M0 := Lib.hid ((Mod.refl [] w).alloc (.cells #[.int .i64 p0, .int .i64 p1, .int .i64 p2, .int .i64 p3, .int .i64 p4, .int .i64 p5, .int .i64 p6, .int .i64 p7, .bool p8] 23))
      clear hP hm hL h hdx hd60 hdl
      generalize ds.length = dn at *
      generalize l.length = n at *
      go_enter Try.func3, Try.ntmps3
      go_wp2_with fail
      refine (fit_any _).mono ?_
      rintro e1 w1 ⟨rfl, hM1⟩
      have M1 := Lib.hid (M0.out.trans hM1)
      clear hM1
      go_wp2_with fail
      refine (LI.out _ M1.out).mono ?_
      rintro e2 w2 ⟨rfl, hM2⟩
      go_wp2_with fail
      go_ret
      exact ⟨rfl, M1.out.trans hM2⟩
  · obtain ⟨da, dc, rfl⟩ := sl_slice h
    have hdl : (v64 ds).length = ds.length := by simp [v64]
    rw [hdl]
    have d60 : decide ((60 : Int) < (ds.length : Int)) = true := by simp; omega
    obtain ⟨p0, p1, p2, p3, p4, p5, p6, p7, p8⟩ := p
    simp only [Plan.val] at *
    have M0 := Lib.hid ((Mod.refl [] w).alloc (.cells #[.int .i64 p0, .int .i64 p1, .int .i64 p2, .int .i64 p3, .int .i64 p4, .int .i64 p5, .int .i64 p6, .int .i64 p7, .bool p8] 23))
    clear hP hm h hdx hd60 hdl
    generalize ds.length = dn at *
    generalize l.length = n at *
    go_enter Try.func3, Try.ntmps3
    go_wp2_with fail
    refine (fit_any _).mono ?_
    rintro e1 w1 ⟨rfl, hM1⟩
    have M1 := Lib.hid (M0.out.trans hM1)
    clear hM1
    go_wp2_with fail
    go_ret
    exact ⟨rfl, M1.out⟩
end Go.Proofs.Ytndekdafiaogmaa.Lim
end
