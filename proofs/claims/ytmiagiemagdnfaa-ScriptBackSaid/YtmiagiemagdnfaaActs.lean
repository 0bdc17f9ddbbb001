/- Acts as they lie in a row: any row (read only); acts that come in; light. -/
import Derived.Test.YtmiagiemagdnfaaScript4
import Derived.Test.YtmiagiemagdnfaaRowsArg
namespace Go.Proofs.Ytmiagiemagdnfaa.Script
open Go Go.RowKit Go.YtmiagiemagdnfaaMem Go.YtmiagiemagdnfaaLex Go.Proofs.Ytmiagiemagdnfaa.Frame Go.ChangeShapes Go.WideShapes Go.ChangeAt
set_option linter.unusedVariables false
set_option linter.unusedSimpArgs false

/-- An act of any numbers. -/
structure Raw where
  kind : Int
  clock : Int
  conn : Int
  n : Int
  data : List UInt8
  seeds : List Nat
def Act.raw (a : Act) : Raw := ⟨a.kind, a.clock, a.conn, a.n, a.data, a.seeds⟩
theorem vs_length (l : List Nat) : (vs l).length = l.length := by simp [vs]
theorem vs_get {l : List Nat} {i x : Nat} (h : l[i]? = some x) : (vs l)[i]? = some (.int .u64 (x : Int)) := by simp [vs, h]

/-- One act in memory. -/
structure AtA (w : World) (b o : Nat) (q : Raw) (x y : Option Addr) (p p' : Nat) : Prop where
  hb : b < w.heap.size
  c0 : w.cell? ⟨b, o, none⟩ = some (.int .i64 q.kind)
  c1 : w.cell? ⟨b, o + 1, none⟩ = some (.int .i64 q.clock)
  c2 : w.cell? ⟨b, o + 2, none⟩ = some (.int .i64 q.conn)
  c3 : w.cell? ⟨b, o + 3, none⟩ = some (.slice x q.data.length p)
  c4 : w.cell? ⟨b, o + 4, none⟩ = some (.int .i64 q.n)
  c5 : w.cell? ⟨b, o + 5, none⟩ = some (.slice y q.seeds.length p')
  sd : Sl w (.slice x q.data.length p) (vb q.data)
  ss : Sl w (.slice y q.seeds.length p') (vs q.seeds)
theorem AtA.mod {w w' : World} {b o : Nat} {q : Raw} {x y : Option Addr} {p p' : Nat} (h : AtA w b o q x y p p') (hm : Mod [] w w') : AtA w' b o q x y p p' :=
  ⟨hm.lt h.hb, (hm.cell h.hb (by simp)).trans h.c0, (hm.cell h.hb (by simp)).trans h.c1, (hm.cell h.hb (by simp)).trans h.c2, (hm.cell h.hb (by simp)).trans h.c3, (hm.cell h.hb (by simp)).trans h.c4, (hm.cell h.hb (by simp)).trans h.c5,
    h.sd.mod hm (by simp), h.ss.mod hm (by simp)⟩
/-- Acts in a row. -/
def VA (w : World) (v : Value) (l : List Raw) : Prop :=
  ∃ a c, v = .slice a l.length c ∧ l.length ≤ maxLen ∧ ∀ i q, l[i]? = some q → ∃ b off x y p p', a = some ⟨b, off, none⟩ ∧ AtA w b (off + i * 6) q x y p p'
theorem VA.mod {w w' : World} {v : Value} {l : List Raw} (h : VA w v l) (hm : Mod [] w w') : VA w' v l := by
  obtain ⟨a, c, h1, h2, h3⟩ := h
  refine ⟨a, c, h1, h2, fun i q hq => ?_⟩
  obtain ⟨b, off, x, y, p, p', e, k⟩ := h3 i q hq
  exact ⟨b, off, x, y, p, p', e, k.mod hm⟩
/-- Acts of one's own, their slices anywhere. -/
theorem VA.own {w : World} {B : Nat} {v : Value} {av : List ActV} (h : w.ownsRow B 28 6 v av.length (flat av)) (hs : ∀ a, a ∈ av → Sl w a.d (vb a.act.data) ∧ Sl w a.s (vs a.act.seeds)) : VA w v (av.map fun a => a.act.raw) := by
  obtain ⟨a, c, rfl⟩ := own_slice h
  rcases h.2 with ⟨e, h0⟩ | ⟨g, cap, cur, e, h1, h2, h3, h4, h5, h6⟩
  · have : av = [] := List.eq_nil_of_length_eq_zero h0
    subst this
    exact ⟨a, c, rfl, by simp [maxLen], fun i q hq => by simp at hq⟩
  · injection e with e1 e2 e3
    subst e1 e3
    refine ⟨_, c, by rw [List.length_map], by rw [List.length_map]; omega, fun i q hq => ?_⟩
    rw [List.getElem?_map] at hq
    obtain ⟨r, hr, rfl⟩ := Option.map_eq_some_iff.1 hq
    obtain ⟨k1, k2⟩ := hs r (List.mem_of_getElem? hr)
    obtain ⟨x, p, hd, _⟩ := k1.open
    obtain ⟨y, p', hss, _⟩ := k2.open
    rw [vb_length] at hd
    rw [vs_length] at hss
    have cell : ∀ j u, r.cells[j]? = some u → w.cell? ⟨g, 0 + i * 6 + j, none⟩ = some u := fun j u hu => by
      have hj : j < 6 := (List.getElem?_eq_some_iff.1 hu).1
      have := h.cells (g := g) rfl (6 * i + j) u (by rw [flat_get av i j r hr hj]; exact hu)
      rw [add_eq, Nat.zero_add] at this
      rw [Nat.zero_add, Nat.mul_comm]; exact this
    refine ⟨g, 0, x, y, p, p', rfl, lt_of_some h2, cell 0 _ rfl, cell 1 _ rfl, cell 2 _ rfl, ?_, cell 4 _ rfl, ?_, ?_, ?_⟩
    · rw [show Act.raw r.act = r.act.raw from rfl]; show w.cell? _ = some (.slice x r.act.data.length p); rw [← hd]; exact cell 3 _ rfl
    · show w.cell? _ = some (.slice y r.act.seeds.length p'); rw [← hss]; exact cell 5 _ rfl
    · show Sl w (.slice x r.act.data.length p) _; rw [← hd]; exact k1
    · show Sl w (.slice y r.act.seeds.length p') _; rw [← hss]; exact k2
theorem OwnA.view {w : World} {g : Nat} {v : Value} {av : List ActV} (h : OwnA w g v av) : VA w v (av.map fun a => a.act.raw) := VA.own h.1 fun a ha => ⟨(h.2 a ha).1.1, (h.2 a ha).2.1⟩

theorem open_acts {H : Type} {enc : TypeId × Value → H} {w : World} {base : Nat} {sp : Nat → Bool} {held : Bool} {r : Reach} {b0 : Nat} {v : Value} {d : DataW H} {ps : List MemPlace}
    (hv : Value.okWide Try.prog w r b0 24 v) (h : DataW.Trod enc Try.prog w base sp held 24 v d ps) :
    ∃ (l : List Raw), VA w v l ∧ ∀ q, q ∈ l → ∀ s, s ∈ q.seeds → s < 18446744073709551616 := by
  have hc : Try.prog.cellsOf 28 = 6 := by kernel_rfl
  have ci : Try.prog.cellsOf 3 = 1 := by kernel_rfl
  have c6 : Try.prog.cellsOf 2 = 1 := by kernel_rfl
  have cb : Try.prog.cellsOf 22 = 1 := by kernel_rfl
  have cs : Try.prog.cellsOf 26 = 1 := by kernel_rfl
  have c8 : Try.prog.cellsOf 5 = 1 := by kernel_rfl
  have cu : Try.prog.cellsOf 42 = 1 := by kernel_rfl
  obtain ⟨a, n, c, rfl, hn, hx⟩ := sl_rows Try.underlying24 Try.underlying28 (by rw [hc]; omega) hv h
  have each : ∀ i, i < n → ∃ q : Raw, (∃ b off x y p p', a = some ⟨b, off, none⟩ ∧ AtA w b (off + i * 6) q x y p p') ∧ ∀ s, s ∈ q.seeds → s < 18446744073709551616 := by
    intro i hi
    obtain ⟨b, off, cs, m, ha, hb, hlen, hcell, hf⟩ := hx i hi
    rw [hc] at hlen hcell
    match cs, hlen with
    | [v0, v1, v2, v3, v4, v5], _ =>
      obtain ⟨y0, h0⟩ := hf 0 _ rfl
      obtain ⟨y1, h1⟩ := hf 1 _ rfl
      obtain ⟨y2, h2⟩ := hf 2 _ rfl
      obtain ⟨y3, h3⟩ := hf 3 _ rfl
      obtain ⟨y4, h4⟩ := hf 4 _ rfl
      obtain ⟨y5, h5⟩ := hf 5 _ rfl
      have h0 : DataW.trod enc Try.prog w base sp held m 3 (([v0, v1, v2, v3, v4, v5].drop 0).take (Try.prog.cellsOf 3)) = some y0 := h0
      have h1 : DataW.trod enc Try.prog w base sp held m 2 (([v0, v1, v2, v3, v4, v5].drop 1).take (Try.prog.cellsOf 2)) = some y1 := h1
      have h2 : DataW.trod enc Try.prog w base sp held m 3 (([v0, v1, v2, v3, v4, v5].drop 2).take (Try.prog.cellsOf 3)) = some y2 := h2
      have h3 : DataW.trod enc Try.prog w base sp held m 22 (([v0, v1, v2, v3, v4, v5].drop 3).take (Try.prog.cellsOf 22)) = some y3 := h3
      have h4 : DataW.trod enc Try.prog w base sp held m 3 (([v0, v1, v2, v3, v4, v5].drop 4).take (Try.prog.cellsOf 3)) = some y4 := h4
      have h5 : DataW.trod enc Try.prog w base sp held m 26 (([v0, v1, v2, v3, v4, v5].drop 5).take (Try.prog.cellsOf 26)) = some y5 := h5
      rw [ci] at h0 h2 h4
      rw [c6] at h1
      rw [cb] at h3
      have csx : Try.prog.cellsOf 26 = 1 := by kernel_rfl
      rw [csx] at h5
      simp only [List.drop_succ_cons, List.drop_zero, List.take_succ_cons, List.take_zero] at h0 h1 h2 h3 h4 h5
      obtain ⟨kind, rfl, w0⟩ := int_at Try.underlying3 h0
      obtain ⟨clock, rfl, w1⟩ := int_at Try.underlying2 h1
      obtain ⟨conn, rfl, w2⟩ := int_at Try.underlying3 h2
      obtain ⟨data, s3⟩ := sl_bytes_at Try.underlying22 Try.underlying5 c8 h3
      obtain ⟨k, rfl, w4⟩ := int_at Try.underlying3 h4
      obtain ⟨zs, s5, hz⟩ := sl_ints_at Try.underlying26 Try.underlying42 cu h5
      have hr : ∀ n ∈ zs, 0 ≤ n ∧ n ≤ 18446744073709551615 := fun n hn => by simpa [Lit.wf, IntKind.min, IntKind.max, IntKind.signed, IntKind.bits] using hz n hn
      have e : zs.map (Value.int .u64) = vs (zs.map Int.toNat) := by
        unfold vs
        rw [List.map_map]
        apply List.map_congr_left
        intro n hn
        have := (hr n hn).1
        show Value.int .u64 n = Value.int .u64 ((n.toNat : Nat) : Int)
        rw [Int.toNat_of_nonneg this]
      rw [e] at s5
      obtain ⟨x, p, e3, _⟩ := s3.open
      obtain ⟨y, p', e5, _⟩ := s5.open
      rw [vb_length] at e3
      rw [vs_length] at e5
      subst e3 e5
      have cell : ∀ j u, [Value.int .i64 kind, .int .i64 clock, .int .i64 conn, .slice x data.length p, .int .i64 k, .slice y (zs.map Int.toNat).length p'][j]? = some u → w.cell? ⟨b, off + i * 6 + j, none⟩ = some u := fun j u hu => by rw [Nat.add_assoc]; exact hcell j u hu
      exact ⟨⟨kind, clock, conn, k, data, zs.map Int.toNat⟩, ⟨b, off, x, y, p, p', ha, hb, cell 0 _ rfl, cell 1 _ rfl, cell 2 _ rfl, cell 3 _ rfl, cell 4 _ rfl, cell 5 _ rfl, s3, s5⟩, fun s hs => by
        obtain ⟨n, hn, rfl⟩ := List.mem_map.1 hs; have := hr n hn; omega⟩
  have : Inhabited Raw := ⟨⟨0, 0, 0, 0, [], []⟩⟩
  obtain ⟨q, hq⟩ := Deep.choose_lt each
  refine ⟨(List.range n).map q, ⟨a, c, by simp, by simpa using hn, fun i x hi => ?_⟩, fun x hx => ?_⟩
  · rw [List.getElem?_map] at hi
    by_cases hin : i < n
    · rw [List.getElem?_range hin] at hi
      simp at hi; subst hi
      exact (hq i hin).1
    · rw [List.getElem?_eq_none (by simpa using hin)] at hi; cases hi
  · obtain ⟨i, hi, rfl⟩ := List.mem_map.1 hx
    exact (hq i (List.mem_range.1 hi)).2

/-- Few acts, with short data. -/
def Light (l : List Raw) : Prop := l.length ≤ 100 ∧ ∀ q, q ∈ l → q.data.length ≤ 400 ∧ q.seeds.length ≤ 10
def LightPost (l : List Raw) (w : World) (e : Ending) (w' : World) : Prop := ∃ r : Bool, e = .returned (.bool r) ∧ Mod [] w w' ∧ (r = true → Light l)
set_option maxRecDepth 4000 in
theorem light_any {w : World} {v : Value} {l : List Raw} (h : VA w v l) :
    Calls Try.prog 9 #[v] w (LightPost l w) := by
  obtain ⟨a, c, rfl, hm, hx⟩ := h
  by_cases hl : l.length ≤ 100
  · have d100 : decide ((100 : Int) < l.length) = false := by simp; omega
    have HX := Lib.hid hx
    clear hx
    go_enter Try.func9, Try.ntmps9
    go_wp2_with fail
    go_loopw [10] (fun i wr => ∃ j : Nat, j ≤ l.length ∧ i = .int .i64 j ∧ (∀ i q, i < j → l[i]? = some q → q.data.length ≤ 400 ∧ q.seeds.length ≤ 10) ∧ Mod [] w wr) (fun i _ => l.length - (intOf i).toNat)
    case atStart => exact ⟨0, Nat.zero_le _, rfl, fun i q h => by omega, Mod.refl _ _⟩
    case round =>
      obtain ⟨j, hj, rfl, hall, hM⟩ := hrel
      have HA := Lib.hid hall
      have MR := Lib.hid hM
      clear hall hM
      by_cases hlt : j < l.length
      · obtain ⟨q, hq⟩ : ∃ q, l[j]? = some q := ⟨_, List.getElem?_eq_getElem hlt⟩
        obtain ⟨b, off, x, y, p, p', rfl, hat⟩ := HX.out j q hq
        have hat := hat.mod MR.out
        obtain ⟨hb, c0, c1, c2, c3, c4, c5, _, _⟩ := hat
        have HQ := Lib.hid hq
        clear hq
        obtain ⟨kind, clock, conn, n, data, seeds⟩ := q
        simp only at c0 c1 c2 c3 c4 c5
        by_cases hd : data.length ≤ 400
        · have d400 : decide ((400 : Int) < data.length) = false := by simp; omega
          by_cases hs : seeds.length ≤ 10
          · have d10 : decide ((10 : Int) < seeds.length) = false := by simp; omega
            go_wp2_with fail
            go_roundw
            case rel => exact ⟨j + 1, by omega, by go_num, fun i q hi hq => by
              by_cases e : i = j
              · subst e; rw [HQ.out] at hq; injection hq with hq; subst hq; exact ⟨hd, hs⟩
              · exact HA.out i q (by omega) hq, MR.out.alloc _⟩
            case measure => simp [intOf]; omega
          · have d10 : decide ((10 : Int) < seeds.length) = true := by simp; omega
            go_wp2_with fail
            go_ret
            exact ⟨false, rfl, MR.out.alloc _, fun h => by cases h⟩
        · have d400 : decide ((400 : Int) < data.length) = true := by simp; omega
          go_wp2_with fail
          go_ret
          exact ⟨false, rfl, MR.out.alloc _, fun h => by cases h⟩
      · obtain rfl : j = l.length := by omega
        go_wp2_with fail
        go_ret
        exact ⟨true, rfl, MR.out, fun _ => ⟨hl, fun q hq => by
          obtain ⟨i, hi, rfl⟩ := List.getElem_of_mem hq
          exact HA.out i _ hi (List.getElem?_eq_getElem hi)⟩⟩
  · have d100 : decide ((100 : Int) < l.length) = true := by simp; omega
    clear hx
    go_enter Try.func9, Try.ntmps9
    go_wp2_with fail
    go_ret
    exact ⟨false, rfl, Mod.refl _ _, fun h => by cases h⟩
end Go.Proofs.Ytmiagiemagdnfaa.Script
