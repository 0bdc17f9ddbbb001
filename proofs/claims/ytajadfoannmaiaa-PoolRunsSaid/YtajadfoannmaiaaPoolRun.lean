/- The law's own model of a pool (PoolRuns): places in a row, a stack of free ones; plain laws. -/
import Derived.Test.YtajadfoannmaiaaPoolLaw3
import Derived.Test.YtajadfoannmaiaaOwn
import Derived.Maps.AppendAt
namespace Go.Proofs.Ytajadfoannmaiaa.Pool
open Go Go.RowKit Go.YtajadfoannmaiaaMem Go.YtajadfoannmaiaaLex Go.YtajadfoannmaiaaRange Go.Proofs.Ytajadfoannmaiaa.Hash Go.Proofs.Ytajadfoannmaiaa.Keys Go.Proofs.Ytajadfoannmaiaa.Index Go.Proofs.Ytajadfoannmaiaa.Cell Go.Proofs.Ytajadfoannmaiaa.Arith
set_option linter.unusedVariables false
set_option linter.unusedSimpArgs false

/-- A place of the law's model. -/
structure Pl where
  key : List UInt8
  c : Cell
  has : Bool
def Pl.cells (p : Pl) : List Value := [.string ⟨p.key.toArray⟩, .int .i64 p.c.full, .int .i64 p.c.since, .int .i64 p.c.carry, .int .i64 p.c.used, .bool p.has]
def flatP (K : List Pl) : List Value := K.flatMap Pl.cells
def Pl.zero : Pl := ⟨[], Cell.zero, false⟩
theorem flatP_get : ∀ (K : List Pl) (i : Nat) (p : Pl), K[i]? = some p → ∀ j, j < 6 → (flatP K)[i * 6 + j]? = p.cells[j]?
  | [], i, c, h, j, hj => by simp at h
  | x :: C, 0, c, h, j, hj => by
    simp at h; subst h
    unfold flatP
    rw [List.flatMap_cons, Nat.zero_mul, Nat.zero_add, List.getElem?_append_left (by simp [Pl.cells]; omega)]
  | x :: C, i + 1, c, h, j, hj => by
    have ih := flatP_get C i c (by simpa using h) j hj
    unfold flatP at *
    rw [List.flatMap_cons, List.getElem?_append_right (by simp [Pl.cells]; omega)]
    rw [← ih]
    congr 1
    simp [Pl.cells]; omega
theorem flatP_set : ∀ (K : List Pl) (i : Nat) (p : Pl), i < K.length → flatP (K.set i p) = ((((((flatP K).set (i * 6) (.string ⟨p.key.toArray⟩)).set (i * 6 + 1) (.int .i64 p.c.full)).set (i * 6 + 2) (.int .i64 p.c.since)).set (i * 6 + 3) (.int .i64 p.c.carry)).set (i * 6 + 4) (.int .i64 p.c.used)).set (i * 6 + 5) (.bool p.has)
  | [], i, c, h => by simp at h
  | x :: C, 0, c, h => by
    unfold flatP
    rw [List.set_cons_zero, List.flatMap_cons, List.flatMap_cons]
    rfl
  | x :: C, i + 1, c, h => by
    have ih := flatP_set C i c (by simpa using h)
    unfold flatP at *
    rw [List.set_cons_succ, List.flatMap_cons, List.flatMap_cons, ih]
    have e : x.cells.length = 6 := rfl
    have hs : ∀ (A B : List Value) (k : Nat) (v : Value), A.length = 6 → (A ++ B).set (k + 6) v = A ++ B.set k v := fun A B k v ha => by
      rw [List.set_append, if_neg (by omega)]; congr 2; omega
    rw [show (i + 1) * 6 = i * 6 + 6 by omega, show i * 6 + 6 + 1 = i * 6 + 1 + 6 by omega, show i * 6 + 6 + 2 = i * 6 + 2 + 6 by omega, show i * 6 + 6 + 3 = i * 6 + 3 + 6 by omega, show i * 6 + 6 + 4 = i * 6 + 4 + 6 by omega, show i * 6 + 6 + 5 = i * 6 + 5 + 6 by omega, hs _ _ _ _ e, hs _ _ _ _ e, hs _ _ _ _ e, hs _ _ _ _ e, hs _ _ _ _ e, hs _ _ _ _ e]
theorem set_same {L : List Value} {j : Nat} {u : Value} (h : L[j]? = some u) : L.set j u = L := by
  apply List.ext_getElem?
  intro m
  by_cases hm : j = m
  · subst hm; rw [List.getElem?_set_self (List.getElem?_eq_some_iff.1 h).1, h]
  · rw [List.getElem?_set_ne hm]
theorem flatP_has {K : List Pl} {i : Nat} {p : Pl} (h : K[i]? = some p) (b : Bool) : (flatP K).set (i * 6 + 5) (.bool b) = flatP (K.set i { p with has := b }) := by
  rw [flatP_set K i _ (List.getElem?_eq_some_iff.1 h).1]
  have g := flatP_get K i p h
  rw [set_same (L := flatP K) (j := i * 6) ((g 0 (by omega)).trans rfl), set_same (L := flatP K) (j := i * 6 + 1) ((g 1 (by omega)).trans rfl), set_same (L := flatP K) (j := i * 6 + 2) ((g 2 (by omega)).trans rfl), set_same (L := flatP K) (j := i * 6 + 3) ((g 3 (by omega)).trans rfl), set_same (L := flatP K) (j := i * 6 + 4) ((g 4 (by omega)).trans rfl)]
theorem flatP_used {K : List Pl} {i : Nat} {p : Pl} (h : K[i]? = some p) (z : Int) : (flatP K).set (i * 6 + 4) (.int .i64 z) = flatP (K.set i { p with c := { p.c with used := z } }) := by
  rw [flatP_set K i _ (List.getElem?_eq_some_iff.1 h).1]
  have g := flatP_get K i p h
  rw [set_same (L := flatP K) (j := i * 6) ((g 0 (by omega)).trans rfl), set_same (L := flatP K) (j := i * 6 + 1) ((g 1 (by omega)).trans rfl), set_same (L := flatP K) (j := i * 6 + 2) ((g 2 (by omega)).trans rfl), set_same (L := flatP K) (j := i * 6 + 3) ((g 3 (by omega)).trans rfl), set_same (L := ((flatP K).set (i * 6 + 4) _)) (j := i * 6 + 5) (by rw [List.getElem?_set_ne (by omega)]; exact (g 5 (by omega)).trans rfl)]
theorem place_info : (Try.prog.info? 53).map (fun i => (i.zero, i.size, i.bytes)) = some (some (.agg #[.string ⟨#[]⟩, .int .i64 0, .int .i64 0, .int .i64 0, .int .i64 0, .bool false]), 6, 56) := by kernel_rfl
theorem flatP_length (K : List Pl) : (flatP K).length = K.length * 6 := by
  unfold flatP
  induction K with
  | nil => rfl
  | cons x K ih => rw [List.flatMap_cons, List.length_append, ih]; simp [Pl.cells]; omega
theorem madeCells_six (n : Nat) : (madeCells #[.string ⟨#[]⟩, .int .i64 0, .int .i64 0, .int .i64 0, .int .i64 0, .bool false] (n * 6)).toList = flatP (List.replicate n Pl.zero) := by
  apply List.ext_getElem?
  intro j
  by_cases hj : j < n * 6
  · have hi : j / 6 < n := by omega
    have hg := flatP_get (List.replicate n Pl.zero) (j / 6) Pl.zero (by rw [List.getElem?_replicate, if_pos hi]) (j % 6) (Nat.mod_lt _ (by omega))
    rw [show j / 6 * 6 + j % 6 = j by omega] at hg
    rw [hg]
    simp only [madeCells, Array.toList_map, Array.toList_range, List.getElem?_map, List.getElem?_range hj, Option.map_some]
    rw [show (#[Value.string ⟨#[]⟩, .int .i64 0, .int .i64 0, .int .i64 0, .int .i64 0, .bool false] : Array Value).size = 6 from rfl]
    obtain ⟨k, hk⟩ : ∃ k, j % 6 = k := ⟨_, rfl⟩
    have hk6 : k < 6 := by omega
    rw [hk]
    match k, hk6 with
    | 0, _ => rfl
    | 1, _ => rfl
    | 2, _ => rfl
    | 3, _ => rfl
    | 4, _ => rfl
    | 5, _ => rfl
  · rw [List.getElem?_eq_none (by simp [madeCells]; omega), List.getElem?_eq_none (by rw [flatP_length]; simp; omega)]
theorem make_places (n : Nat) (h1 : 1 ≤ n) (hn : n ≤ 8) (w : World) : (Instr.makeSlice 50 (.int .i64 (n : Int)) (.int .i64 (n : Int))).run Try.prog w = .ok (.slice (some ⟨w.heap.size, 0, none⟩) n n) (w.alloc (.cells (flatP (List.replicate n Pl.zero)).toArray 53)) := by
  obtain ⟨i, hi, hz, hs, hb⟩ := info_parts place_info
  have hr := run_make (P := Try.prog) w 50 53 i _ Try.underlying50 hi hz .i64 .i64 n n (by omega) (Int.le_refl _) (by rw [hb]; omega) (by omega)
  simp only [Int.toNat_natCast, hs] at hr
  have e : madeCells (Value.cells (.agg #[.string ⟨#[]⟩, .int .i64 0, .int .i64 0, .int .i64 0, .int .i64 0, .bool false])) (n * 6) = (flatP (List.replicate n Pl.zero)).toArray := by
    show madeCells #[.string ⟨#[]⟩, .int .i64 0, .int .i64 0, .int .i64 0, .int .i64 0, .bool false] (n * 6) = _
    rw [← madeCells_six, Array.toArray_toList]
  rw [e] at hr
  exact hr
/-- The law's places are the pool's. -/
structure Agree (s : PS) (K : List Pl) : Prop where
  len : K.length = s.S.length
  clen : s.C.length = s.S.length
  yes : ∀ (i : Nat) (p : Pl), K[i]? = some p → p.has = true → s.S[i]? = some (some p.key) ∧ s.C[i]? = some p.c
  no : ∀ (i : Nat) (p : Pl), K[i]? = some p → p.has = false → s.S[i]? = some none
theorem agree_zero (n : Nat) : Agree (s0 n) (List.replicate n Pl.zero) := by
  refine ⟨by simp [s0, emp], by simp [s0, emp], fun i p hp hh => ?_, fun i p hp hh => ?_⟩
  · have := List.mem_of_getElem? hp
    obtain ⟨_, rfl⟩ := List.mem_replicate.1 this
    cases hh
  · have hi := (List.getElem?_eq_some_iff.1 hp).1
    simp at hi
    simp [s0, emp, List.getElem?_replicate, hi]
theorem Agree.here {s : PS} {K : List Pl} (h : Agree s K) {i : Nat} {key : List UInt8} (hi : s.S[i]? = some (some key)) : ∃ p, K[i]? = some p ∧ p.has = true ∧ p.key = key ∧ s.C[i]? = some p.c := by
  have hl := (List.getElem?_eq_some_iff.1 hi).1
  obtain ⟨p, hp⟩ : ∃ p, K[i]? = some p := ⟨_, List.getElem?_eq_getElem (by rw [h.len]; exact hl)⟩
  cases hh : p.has with
  | true =>
    obtain ⟨h1, h2⟩ := h.yes i p hp hh
    rw [hi] at h1
    exact ⟨p, hp, hh, by simpa using h1.symm, h2⟩
  | false =>
    have := h.no i p hp hh
    rw [hi] at this; simp at this
/-- Where the key is among the first places. -/
def atTo (S : List (Option (List UInt8))) (key : List UInt8) (j : Nat) : Int := match placeOf S key with | some p => if p < j then (p : Int) else -1 | none => -1
theorem atTo_zero (S : List (Option (List UInt8))) (key : List UInt8) : atTo S key 0 = -1 := by unfold atTo; split <;> simp
theorem atTo_hit {S : List (Option (List UInt8))} (hu : Uniq S) {key : List UInt8} {j : Nat} (h : S[j]? = some (some key)) : atTo S key (j + 1) = j := by
  unfold atTo; rw [placeOf_there hu h]; simp
theorem atTo_miss {S : List (Option (List UInt8))} {key : List UInt8} {j : Nat} (h : S[j]? ≠ some (some key)) : atTo S key (j + 1) = atTo S key j := by
  unfold atTo
  cases hp : placeOf S key with
  | none => rfl
  | some p =>
    have hne : p ≠ j := fun e => h (by rw [← e]; exact placeOf_get hp)
    simp only
    by_cases hlt : p < j
    · rw [if_pos hlt, if_pos (by omega)]
    · rw [if_neg hlt, if_neg (by omega)]
theorem atTo_all {S : List (Option (List UInt8))} {key : List UInt8} : atTo S key S.length = optInt (placeOf S key) := by
  unfold atTo
  cases hp : placeOf S key with
  | none => rfl
  | some p =>
    have := (List.getElem?_eq_some_iff.1 (placeOf_get hp)).1
    simp only
    rw [if_pos this]; rfl
/-- A key got the place that was freed last. -/
theorem Agree.put {S : List (Option (List UInt8))} {j : Nat} {fl' : List Nat} {C : List Cell} {K : List Pl} (h : Agree ⟨S, j :: fl', C⟩ K) (hj : j < S.length) (key : List UInt8) (c : Cell) : Agree ⟨S.set j (some key), fl', C.set j c⟩ (K.set j ⟨key, c, true⟩) := by
  have hl := h.len
  have hc := h.clen
  simp only at hl hc
  refine ⟨by simp [hl], by simp [hc], fun i p hp hh => ?_, fun i p hp hh => ?_⟩
  · by_cases e : j = i
    · subst e
      rw [List.getElem?_set_self (by omega)] at hp
      obtain rfl : (⟨key, c, true⟩ : Pl) = p := by simpa using hp
      exact ⟨List.getElem?_set_self hj, List.getElem?_set_self (by omega)⟩
    · rw [List.getElem?_set_ne e] at hp
      obtain ⟨h1, h2⟩ := h.yes i p hp hh
      exact ⟨by simp only; rw [List.getElem?_set_ne e]; exact h1, by simp only; rw [List.getElem?_set_ne e]; exact h2⟩
  · by_cases e : j = i
    · subst e
      rw [List.getElem?_set_self (by omega)] at hp
      obtain rfl : (⟨key, c, true⟩ : Pl) = p := by simpa using hp
      cases hh
    · rw [List.getElem?_set_ne e] at hp
      simp only; rw [List.getElem?_set_ne e]; exact h.no i p hp hh
theorem Agree.rem {s : PS} {K : List Pl} (h : Agree s K) {j : Nat} {p : Pl} (hp : K[j]? = some p) : Agree ⟨s.S.set j none, j :: s.fl, s.C⟩ (K.set j { p with has := false }) := by
  have hj := (List.getElem?_eq_some_iff.1 hp).1
  have hl := h.len
  refine ⟨by simp [hl], by simp [h.clen], fun i q hq hh => ?_, fun i q hq hh => ?_⟩
  · by_cases e : j = i
    · subst e
      rw [List.getElem?_set_self hj] at hq
      obtain rfl : ({ p with has := false } : Pl) = q := by simpa using hq
      cases hh
    · rw [List.getElem?_set_ne e] at hq
      simp only; rw [List.getElem?_set_ne e]; exact h.yes i q hq hh
  · by_cases e : j = i
    · subst e
      exact List.getElem?_set_self (by omega)
    · rw [List.getElem?_set_ne e] at hq
      simp only; rw [List.getElem?_set_ne e]; exact h.no i q hq hh
theorem Agree.used {s : PS} {K : List Pl} (h : Agree s K) {j : Nat} {p : Pl} (hp : K[j]? = some p) (z : Int) : Agree ⟨s.S, s.fl, s.C.set j { p.c with used := z }⟩ (K.set j { p with c := { p.c with used := z } }) := by
  have hj := (List.getElem?_eq_some_iff.1 hp).1
  have hl := h.len
  have hc := h.clen
  refine ⟨by simp [hl], by simp [hc], fun i q hq hh => ?_, fun i q hq hh => ?_⟩
  · by_cases e : j = i
    · subst e
      rw [List.getElem?_set_self hj] at hq
      obtain rfl : ({ p with c := { p.c with used := z } } : Pl) = q := by simpa using hq
      exact ⟨(h.yes j p hp hh).1, List.getElem?_set_self (by omega)⟩
    · rw [List.getElem?_set_ne e] at hq
      exact ⟨(h.yes i q hq hh).1, by simp only; rw [List.getElem?_set_ne e]; exact (h.yes i q hq hh).2⟩
  · by_cases e : j = i
    · subst e
      rw [List.getElem?_set_self hj] at hq
      obtain rfl : ({ p with c := { p.c with used := z } } : Pl) = q := by simpa using hq
      exact h.no j p hp hh
    · rw [List.getElem?_set_ne e] at hq
      exact h.no i q hq hh
/-- The pool's memory, when a cell's used is set through its pointer. -/
theorem At.used {w : World} {B : PB} {s : PS} (h : At w B s) {j : Nat} {c : Cell} (hc : s.C[j]? = some c) (z : Int) (hz : I64 z) : At (w.setCell ⟨B.cb, j * 4 + 3, none⟩ (.int .i64 z)) B ⟨s.S, s.fl, s.C.set j { c with used := z }⟩ := by
  have hj := (List.getElem?_eq_some_iff.1 hc).1
  have hm := ((Mod.refl [B.cb] w).setCell (p := ⟨B.cb, j * 4 + 3, none⟩) (.inl (by simp)) (.int .i64 z))
  have hcell : Blk (w.setCell ⟨B.cb, j * 4 + 3, none⟩ (.int .i64 z)) B.cb 32 (cellsV (s.C.set j { c with used := z })) := by
    have := h.cel.set (j * 4 + 3) (.int .i64 z)
    rw [cellsV_set _ _ _ hj]
    have g := cellsV_get s.C j c hc
    rw [set_same (L := cellsV s.C) (j := j * 4) ((g 0 (by omega)).trans rfl), set_same (L := cellsV s.C) (j := j * 4 + 1) ((g 1 (by omega)).trans rfl), set_same (L := cellsV s.C) (j := j * 4 + 2) ((g 2 (by omega)).trans rfl)]
    exact this
  exact ⟨hm.blk h.blk (by simpa using h.ne.1), h.idx.mod hm (fun b hb hb' => by simp at hb'; subst hb'; exact h.ne.2.2 hb), hcell, by simpa using h.len, fun x hx => by
    rcases List.mem_or_eq_of_mem_set hx with hx | rfl
    · exact h.ok x hx
    · have := h.ok c (List.mem_of_getElem? hc); exact ⟨this.1, this.2.1, this.2.2.1, hz⟩, h.whole, h.ne⟩
theorem len_zero {α : Type} [DecidableEq α] (l : List α) : ((l.length : Int) == 0) = decide (l = []) ∧ (l.length == 0) = decide (l = []) := by
  cases l with
  | nil => exact ⟨rfl, rfl⟩
  | cons x l => refine ⟨?_, rfl⟩; simp; omega
/-- The stack of free places. -/
abbrev frV (fl : List Nat) : List Value := fl.reverse.map fun (x : Nat) => Value.int .i64 (x : Int)
theorem frV_cons (j : Nat) (fl : List Nat) : frV (j :: fl) = frV fl ++ [.int .i64 (j : Int)] := by simp [frV]
theorem int_info : (Try.prog.info? 3).map (fun i => (i.zero, i.size, i.bytes)) = some (some (.int .i64 0), 1, 8) := by kernel_rfl
theorem app_int {ops : Array Oper} {rest : List Oper} {o : Oper} {act : Go.Act} {Q : Exit → Go.Act → World → Prop} {w : World} {v : Value} {B m : Nat} {us : List Value} (s : Value) (g : Nat) (hown : w.ownsRow B 3 1 v m us) (hgd : o.guard = none) (sl x : Operand) (ho : o.op = .call { callee := .builtin .append, args := #[sl, x], argTypes := #[51, 51] })
    (hs : act.eval sl = v) (hx : act.eval x = .slice (some ⟨g, 0, none⟩) 1 1) (hn : w.cell? ⟨g, 0, none⟩ = some s) (h1 : s.oneCell' = true) (hB : B ≤ w.heap.size) (hl : m ≤ 900000)
    (h : ∀ v' w', w'.ownsRow B 3 1 v' (m + 1) (us ++ [s]) → Mod v.ownBlock.toList w w' → wpList Try.prog ops Q rest (act.put o.dst v') w') : wpList Try.prog ops Q (o :: rest) act w := by
  obtain ⟨i0, hi, hz0, hz1, hz2⟩ := info_parts int_info
  refine wpList_append_own w hgd sl x 51 ho B 3 i0 (.int .i64 0) 1 8 Try.underlying51 hi hz0 hz1 hz2 rfl (by decide) v m us hs hown ⟨g, 0, none⟩ 1 1 [s] hx rfl (cells_one hn)
    (fun x hx => by simp at hx; subst hx; exact h1) (by unfold maxLen; omega) (by omega) hB fun v' w' h1 h2 _ => h v' w' h1 (grown_mod (Mod.refl [] w) h2)
/-- The whole number in a box. -/
def intAt (w : World) (b : Nat) : Int := match w.cell? ⟨b, 0, none⟩ with | some (.int _ z) => z | _ => 0
theorem intAt_blk {w : World} {b : Nat} {T : TypeId} {z : Int} (h : Blk w b T [.int .i64 z]) : intAt w b = z := by unfold intAt; rw [h.cell (i := 0) rfl]
theorem pairsTo_none {S : List (Option (List UInt8))} {C : List Cell} {k : Nat} (ho : S[k]? = some none) (hl : C.length = S.length) : pairsTo S C (k + 1) = pairsTo S C k := by
  have hk := (List.getElem?_eq_some_iff.1 ho).1
  rw [pairsTo_next ho (c := C[k]'(by omega)) (List.getElem?_eq_getElem _)]; simp
theorem pairsTo_some {S : List (Option (List UInt8))} {C : List Cell} {k : Nat} {key : List UInt8} {c : Cell} (ho : S[k]? = some (some key)) (hc : C[k]? = some c) : pairsTo S C (k + 1) = pairsTo S C k ++ [(key, c)] := by
  rw [pairsTo_next ho hc]; rfl
end Go.Proofs.Ytajadfoannmaiaa.Pool
