/- pool.Pool: Idle. -/
import Derived.Test.YtajadfoannmaiaaPoolAll
namespace Go.Proofs.Ytajadfoannmaiaa.Pool
open Go Go.RowKit Go.YtajadfoannmaiaaMem Go.YtajadfoannmaiaaLex Go.YtajadfoannmaiaaRange Go.Proofs.Ytajadfoannmaiaa.Hash Go.Proofs.Ytajadfoannmaiaa.Keys Go.Proofs.Ytajadfoannmaiaa.Index Go.Proofs.Ytajadfoannmaiaa.Cell Go.Proofs.Ytajadfoannmaiaa.Arith
set_option linter.unusedVariables false
set_option linter.unusedSimpArgs false
attribute [local go_sem] Oper.semAt_some

/-- The first idle one. -/
def firstIdle (p : Pace) (now : Int) (l : List (List UInt8 × Cell)) : Value × Bool :=
  match l.find? fun x => x.2.idle p now with
  | some x => (.string ⟨x.1.toArray⟩, true)
  | none => (.string ⟨#[]⟩, false)
def IdlePost (p : Pace) (now : Int) (l : List (List UInt8 × Cell)) (w : World) (e : Ending) (w' : World) : Prop :=
  e = .returned (.tuple #[(firstIdle p now l).1, .bool (firstIdle p now l).2]) ∧ Mod [] w w'
theorem pairs_ok {S : List (Option (List UInt8))} {C : List Cell} (h : ∀ c ∈ C, c.ok) {x : List UInt8 × Cell} (hx : x ∈ pairs S C) : x.2.ok := by
  unfold pairs at hx
  obtain ⟨q, hq, hp⟩ := List.mem_filterMap.1 hx
  unfold pair1 at hp
  cases ho : q.1 with
  | none => rw [ho] at hp; cases hp
  | some k =>
    rw [ho] at hp
    simp at hp
    subst hp
    exact h _ (List.of_mem_zip hq).2
theorem find_stop {α : Type} {f : α → Bool} {pre post : List α} {x : α} (h : ∀ y ∈ pre, f y = false) (hx : f x = true) : (pre ++ x :: post).find? f = some x := by
  rw [List.find?_append, List.find?_eq_none.2 (fun y hy => by rw [h y hy]; simp)]
  simp [hx]
set_option maxRecDepth 8000 in
set_option maxHeartbeats 3200000 in
theorem idle_core {w : World} {ptr : Option Addr} {xs : List (List UInt8 × Cell)} (hit : ∀ W, Mod [] w W → Iter Try.prog 11 #[.pointer ptr] #[] encP xs (Under W.heap.size []) W) (hok : ∀ x ∈ xs, x.2.ok) (p : Pace) (now : Int) (hp : p.ok) (hn : I64 (now - p.window)) :
    Calls Try.prog 19 #[.pointer ptr, p.val, .int .i64 now] w (IdlePost p now xs w) := by
  have HC := Lib.hid hok
  have IC := Lib.hid (fun (c : Cell) (hc : c.ok) (W : World) => Cell.idle_any c p now hc hp hn W)
  have B4 := Lib.hid (Blk.new w [.int .i64 p.unit, .int .i64 p.window, .int .i64 p.burst, .int .i64 p.limit] 58)
  refine calls_of_wp_marks Try.func19 rfl ?_
  simp only [Try.ntmps19, List.size_toArray, List.length_cons, List.length_nil, Nat.reduceAdd, Nat.reduceSub, Array.replicate_succ, Array.replicate_zero, List.push_toArray, List.append_toArray, List.nil_append, List.cons_append]
  have HIT := Lib.hid hit
  clear hit hok hp hn
  have B5 := Lib.hid (Blk.new (w.alloc (.cells #[.int .i64 p.unit, .int .i64 p.window, .int .i64 p.burst, .int .i64 p.limit] 58)) [.int .i64 now] 2)
  go_wp2_with fail
  obtain ⟨w1, hw1⟩ : ∃ w1, ((((w.alloc (.cells #[.int .i64 p.unit, .int .i64 p.window, .int .i64 p.burst, .int .i64 p.limit] 58)).alloc (.cells #[.int .i64 now] 2)).alloc (.cells #[.string ⟨#[]⟩] 9)).alloc (.cells #[.bool false] 4)) = w1 := ⟨_, rfl⟩
  have hs1 : w1.heap.size = w.heap.size + 1 + 1 + 1 + 1 := by rw [← hw1]; simp
  have M1 : Hid (Mod [] w w1) := Lib.hid (by rw [← hw1]; exact ((((Mod.refl [] w).alloc _).alloc _).alloc _).alloc _)
  have X4 : Hid (Blk w1 w.heap.size 58 [.int .i64 p.unit, .int .i64 p.window, .int .i64 p.burst, .int .i64 p.limit]) := Lib.hid (by rw [← hw1]; exact ((B4.out.alloc _).alloc _).alloc _)
  have X5 : Hid (Blk w1 (w.heap.size + 1) 2 [.int .i64 now]) := Lib.hid (by
    rw [← hw1]
    have := (B5.out.alloc (.cells #[.string ⟨#[]⟩] 9)).alloc (.cells #[.bool false] 4)
    rw [show (w.alloc (.cells #[.int .i64 p.unit, .int .i64 p.window, .int .i64 p.burst, .int .i64 p.limit] 58)).heap.size = w.heap.size + 1 by simp] at this
    exact this)
  have X6 : Hid (Blk w1 (w.heap.size + 1 + 1) 9 [.string ⟨#[]⟩]) := Lib.hid (by
    rw [← hw1]
    have := (Blk.new ((w.alloc (.cells #[.int .i64 p.unit, .int .i64 p.window, .int .i64 p.burst, .int .i64 p.limit] 58)).alloc (.cells #[.int .i64 now] 2)) [.string ⟨#[]⟩] 9).alloc (.cells #[.bool false] 4)
    rw [show ((w.alloc (.cells #[.int .i64 p.unit, .int .i64 p.window, .int .i64 p.burst, .int .i64 p.limit] 58)).alloc (.cells #[.int .i64 now] 2)).heap.size = w.heap.size + 1 + 1 by simp] at this
    exact this)
  have X7 : Hid (Blk w1 (w.heap.size + 1 + 1 + 1) 4 [.bool false]) := Lib.hid (by
    rw [← hw1]
    have := (Blk.new (((w.alloc (.cells #[.int .i64 p.unit, .int .i64 p.window, .int .i64 p.burst, .int .i64 p.limit] 58)).alloc (.cells #[.int .i64 now] 2)).alloc (.cells #[.string ⟨#[]⟩] 9)) [.bool false] 4)
    rw [show (((w.alloc (.cells #[.int .i64 p.unit, .int .i64 p.window, .int .i64 p.burst, .int .i64 p.limit] 58)).alloc (.cells #[.int .i64 now] 2)).alloc (.cells #[.string ⟨#[]⟩] 9)).heap.size = w.heap.size + 1 + 1 + 1 by simp] at this
    exact this)
  rw [hw1]
  clear hw1 B4 B5
  refine wp_range (Kp := Under w1.heap.size []) (encs := encP) (xs := xs) rfl (enters_of Try.func11 (by kernel_rfl) rfl)
    (HIT.out w1 M1.out) (fun h k => h.trans k) (fun h => h) (fun _ => rfl)
    (fun pre W => (∀ y ∈ pre, y.2.idle p now = false) ∧ Mod [] w1 W)
    (fun c pre W => c = .ret ∧ (∃ pre' x, pre = pre' ++ [x] ∧ (∀ y ∈ pre', y.2.idle p now = false) ∧ x.2.idle p now = true ∧ Blk W (w.heap.size + 1 + 1) 9 [.string ⟨x.1.toArray⟩] ∧ Blk W (w.heap.size + 1 + 1 + 1) 4 [.bool true]) ∧ Mod [w.heap.size + 1 + 1, w.heap.size + 1 + 1 + 1] w1 W)
    ?hI ?hIx ⟨by simp, Mod.refl _ _⟩ ?round ?done ?stop
  case hI => exact fun pre A B' h hu => ⟨h.1, mod_under h.2 hu⟩
  case hIx =>
    rintro c pre A B' ⟨hc, ⟨pre', x, h1, h2, h3, h4, h5⟩, hM⟩ hu
    exact ⟨hc, ⟨pre', x, h1, h2, h3, blk_under h4 hu (by omega), blk_under h5 hu (by omega)⟩, mod_under hM hu⟩
  case round =>
    rintro l pre x W hl1 hl2 ⟨hid, hM⟩ ⟨post, hx⟩
    have hxo : x.2.ok := HC.out _ (by rw [hx]; simp)
    have MW := Lib.hid hM
    have HX := Lib.hid hx
    have HID := Lib.hid hid
    obtain ⟨key, c⟩ := x
    have I1 := Lib.hid (IC.out c hxo)
    have hci : c.idle p now = c.idle p now := rfl
    have NB := Lib.hid (Blk.new W c.cells 32)
    have A1 := Lib.hid ((Mod.refl [] W).alloc (.cells c.cells.toArray 32))
    have hWs := hM.size
    clear hM hx hid hxo
    obtain ⟨b, hb⟩ : ∃ b, c.idle p now = b := ⟨_, rfl⟩
    rw [hb] at I1
    have HB := Lib.hid hb
    clear hb hci
    obtain ⟨c0, c1, c2, c3⟩ := c
    simp only [Cell.cells] at *
    gi_wp2
    refine ⟨Over.of_mod A1.out (by simp), Under.of_mod A1.out hWs, fun o => ?_⟩
    obtain ⟨W2, hW2⟩ : ∃ W2, (W.alloc (.cells #[.int .i64 c0, .int .i64 c1, .int .i64 c2, .int .i64 c3] 32)).putObj l o = W2 := ⟨_, rfl⟩
    have M2 : Hid (Mod [l] (W.alloc (.cells #[.int .i64 c0, .int .i64 c1, .int .i64 c2, .int .i64 c3] 32)) W2) := Lib.hid (by rw [← hW2]; exact mod_putObj _ _ _)
    have N2 := Lib.hid (M2.out.blk NB.out (by simp; omega))
    have MW2 := Lib.hid ((MW.out.trans A1.out).trans' M2.out (fun b hb => .inr (by simp at hb; omega)))
    rw [hW2]
    clear hW2
    have q0 := N2.out.cell (i := 0) rfl
    have q1 := N2.out.cell (i := 1) rfl
    have q2 := N2.out.cell (i := 2) rfl
    have q3 := N2.out.cell (i := 3) rfl
    have Y4 := Lib.hid (MW2.out.blk X4.out (by simp))
    have Y5 := Lib.hid (MW2.out.blk X5.out (by simp))
    have p0 := Y4.out.cell (i := 0) rfl
    have p1 := Y4.out.cell (i := 1) rfl
    have p2 := Y4.out.cell (i := 2) rfl
    have p3 := Y4.out.cell (i := 3) rfl
    have n0 := Y5.out.cell (i := 0) rfl
    gi_wp2
    refine ⟨trivial, CallsIn.inRound l ((callsIn_wide.2 (I1.out W2)).mono ?_)⟩
    rintro e3 w3 ⟨rfl, hM3⟩
    have MW3 := Lib.hid (MW2.out.trans hM3)
    have N3 := Lib.hid hM3
    have Z6 := Lib.hid (MW3.out.blk X6.out (by simp))
    have Z7 := Lib.hid (MW3.out.blk X7.out (by simp))
    have z6 := Z6.out.cell (i := 0) rfl
    have z7 := Z7.out.cell (i := 0) rfl
    have f6 := Z6.out.free 0
    have f7 := Z7.out.free 0
    have hs2 := MW2.out.size
    clear hM3 q0 q1 q2 q3 p0 p1 p2 p3 n0
    cases b with
    | true =>
      gi_wp2
      refine ⟨?_, rfl, ⟨pre, _, rfl, HID.out, HB.out, ?_, ?_⟩, ?_⟩
      · exact (Over.of_mod N3.out (by simp)).trans (Over.of_mod (((Mod.refl [w.heap.size + 1 + 1, w.heap.size + 1 + 1 + 1] w3).setCell (p := ⟨w.heap.size + 1 + 1, 0, none⟩) (.inl (by simp)) _).setCell (p := ⟨w.heap.size + 1 + 1 + 1, 0, none⟩) (.inl (by simp)) _) (by simp; omega))
      · exact (Z6.out.set 0 _).other (a := ⟨w.heap.size + 1 + 1 + 1, 0, none⟩) (by simp) _
      · exact (Z7.out.other (a := ⟨w.heap.size + 1 + 1, 0, none⟩) (by simp) _).set 0 _
      · exact ((MW3.out.mono (by simp)).setCell (p := ⟨w.heap.size + 1 + 1, 0, none⟩) (.inl (by simp)) _).setCell (p := ⟨w.heap.size + 1 + 1 + 1, 0, none⟩) (.inl (by simp)) _
    | false =>
      gi_wp2
      refine ⟨Over.of_mod N3.out (by simp), Under.of_mod N3.out hs2, ?_, MW3.out⟩
      intro y hy
      rcases List.mem_append.1 hy with hy | hy
      · exact HID.out y hy
      · simp at hy; subst hy; exact HB.out
  case done =>
    rintro D W hD ⟨hid, hM⟩ hK
    have Z6 := Lib.hid (hM.blk X6.out (by simp))
    have Z7 := Lib.hid (hM.blk X7.out (by simp))
    have z6 := Z6.out.cell (i := 0) rfl
    have z7 := Z7.out.cell (i := 0) rfl
    have f6 := Z6.out.free 0
    have f7 := Z7.out.free 0
    have HK := Lib.hid hK
    have HM := Lib.hid hM
    have HID := Lib.hid hid
    clear hK hM hid
    go_wp2_with fail
    have S6 : Blk ((W.setCell ⟨w.heap.size + 1 + 1, 0, none⟩ (.string ⟨#[]⟩)).setCell ⟨w.heap.size + 1 + 1 + 1, 0, none⟩ (.bool false)) (w.heap.size + 1 + 1) 9 [.string ⟨#[]⟩] := (Z6.out.set 0 _).other (a := ⟨w.heap.size + 1 + 1 + 1, 0, none⟩) (by simp) _
    have S7 : Blk ((W.setCell ⟨w.heap.size + 1 + 1, 0, none⟩ (.string ⟨#[]⟩)).setCell ⟨w.heap.size + 1 + 1 + 1, 0, none⟩ (.bool false)) (w.heap.size + 1 + 1 + 1) 4 [.bool false] := (Z7.out.other (a := ⟨w.heap.size + 1 + 1, 0, none⟩) (by simp) _).set 0 _
    have MS := ((((Mod.refl [w.heap.size + 1 + 1, w.heap.size + 1 + 1 + 1] W).setCell (p := ⟨w.heap.size + 1 + 1, 0, none⟩) (.inl (by simp)) (.string ⟨#[]⟩)).setCell (p := ⟨w.heap.size + 1 + 1 + 1, 0, none⟩) (.inl (by simp)) (.bool false)))
    have KS := MS.heap HK.out (by simp; omega)
    generalize (W.setCell ⟨w.heap.size + 1 + 1, 0, none⟩ (.string ⟨#[]⟩)).setCell ⟨w.heap.size + 1 + 1 + 1, 0, none⟩ (.bool false) = W3 at *
    have E6 := putObj_blk (o' := .deferred none) S6 KS rfl
    have E7 := putObj_blk (o' := .deferred none) S7 KS rfl
    have ME := putObj_mod ((M1.out.trans HM.out).trans' MS (fun b hb => .inr (by simp at hb; omega))) (D := D) (by omega) (.deferred none)
    have r6 := E6.cell (i := 0) rfl
    have r7 := E7.cell (i := 0) rfl
    have hfi : firstIdle p now xs = (.string ⟨#[]⟩, false) := by
      unfold firstIdle
      rw [List.find?_eq_none.2 (fun x hx => by rw [HID.out x hx]; simp)]
    refine leave1 KS (v := .tuple #[.string ⟨#[]⟩, .bool false]) (by simp [results, Try.results19, go_sem, r6, r7]) ⟨by rw [hfi], ME⟩
  case stop =>
    rintro D c pre x post W hD hx ⟨rfl, ⟨pre', x', h1, h2, h3, h4, h5⟩, hM⟩ hK
    have E6 := putObj_blk (o' := .deferred none) h4 hK rfl
    have E7 := putObj_blk (o' := .deferred none) h5 hK rfl
    have ME := putObj_mod (M1.out.trans' hM (fun b hb => .inr (by simp at hb; omega))) (D := D) (by omega) (.deferred none)
    have r6 := E6.cell (i := 0) rfl
    have r7 := E7.cell (i := 0) rfl
    obtain ⟨e1, e2⟩ := List.append_inj' h1 rfl
    injection e2 with e2 _
    subst e1 e2
    have hfi : firstIdle p now xs = (.string ⟨x.1.toArray⟩, true) := by
      unfold firstIdle
      rw [hx, find_stop h2 h3]
    have HK := Lib.hid hK
    have H1 := Lib.hid hfi
    have H2 := Lib.hid ME
    have H6 := Lib.hid r6
    have H7 := Lib.hid r7
    clear hK hfi ME r6 r7 E6 E7 h4 h5 hx
    go_wp2_with fail
    have r6 := H6.out
    have r7 := H7.out
    refine leave1 HK.out (v := .tuple #[.string ⟨x.1.toArray⟩, .bool true]) (by simp [results, Try.results19, go_sem, r6, r7]) ⟨by rw [H1.out], H2.out⟩
theorem idle_any {w : World} {B : PB} {S : List (Option (List UInt8))} {fl : List Nat} {C : List Cell} (h : PoolAt w B S fl C) (p : Pace) (now : Int) (hp : p.ok) (hn : I64 (now - p.window)) :
    Calls Try.prog 19 #[.pointer (some ⟨B.p, 0, none⟩), p.val, .int .i64 now] w (IdlePost p now (pairs S C) w) :=
  idle_core (fun W hM => all_iter (h.mod hM (by simp)) (fun A A' hA hK b hb => hK.block b ((h.mod hM (by simp)).lt b hb) (by simp))) (fun x hx => pairs_ok h.ok hx) p now hp hn
theorem all_nil {w : World} {Kp : World → World → Prop} : Iter Try.prog 11 #[.pointer none] #[] encP [] Kp w := by
  intro l J Jx W hKW hJ hJx hY h0
  have H0 := Lib.hid h0
  clear hKW hJ hJx hY h0
  refine callsIn_of_wp Try.func11 rfl trivial ?_ rfl
  simp only [Try.ntmps11, List.size_toArray, List.length_cons, List.length_nil, Nat.reduceAdd, Nat.reduceSub, Array.replicate_succ, Array.replicate_zero, List.push_toArray, List.append_toArray, List.nil_append, List.cons_append]
  gi_wp2
  first | go_end0 | refine bodyPost_ret (results_none rfl _ _ _) rfl ?_
  exact ⟨⟨_, rfl⟩, .inl H0.out⟩
theorem idle_nil (w : World) (p : Pace) (now : Int) (hp : p.ok) (hn : I64 (now - p.window)) :
    Calls Try.prog 19 #[.pointer none, p.val, .int .i64 now] w (IdlePost p now [] w) :=
  idle_core (fun W hM => all_nil) (by simp) p now hp hn
end Go.Proofs.Ytajadfoannmaiaa.Pool
