/- pool.Pool: All, an iterator. -/
import Derived.Test.YtajadfoannmaiaaPool3
import Derived.Test.YtajadfoannmaiaaRange
namespace Go.Proofs.Ytajadfoannmaiaa.Pool
open Go Go.RowKit Go.YtajadfoannmaiaaMem Go.YtajadfoannmaiaaLex Go.YtajadfoannmaiaaRange Go.Proofs.Ytajadfoannmaiaa.Hash Go.Proofs.Ytajadfoannmaiaa.Keys Go.Proofs.Ytajadfoannmaiaa.Index Go.Proofs.Ytajadfoannmaiaa.Cell Go.Proofs.Ytajadfoannmaiaa.Arith
set_option linter.unusedVariables false
set_option linter.unusedSimpArgs false

theorem blk_same {w w' : World} {b : Nat} {T : TypeId} {cs : List Value} (h : Blk w b T cs) (e : w'.heap[b]? = w.heap[b]?) : Blk w' b T cs := e.trans h
theorem idx_same {w w' : World} {x g : Nat} {L : List Nat} {r : Row} {S : List (Option (List UInt8))} {fl : List Nat} (h : IdxAt w x g L r S fl) (e : ∀ b, b ∈ L → w'.heap[b]? = w.heap[b]?) : IdxAt w' x g L r S fl := by
  obtain ⟨b1, b2, b3, t, bs, nx, T, rfl, h⟩ := h
  have s := h.sto
  exact ⟨b1, b2, b3, t, bs, nx, T, rfl, ⟨⟨blk_same s.blk (e _ (by simp)), blk_same s.bytes (e _ (by simp)), blk_same s.sizes (e _ (by simp)), blk_same s.nexts (e _ (by simp)), s.len, s.nlen, s.few, s.key, s.free, s.nodup, s.all, s.ne⟩, blk_same h.blk (e _ (by simp)), blk_same h.tab (e _ (by simp)), h.ok, h.ix, h.ne⟩⟩
theorem PoolAt.same {w w' : World} {B : PB} {S : List (Option (List UInt8))} {fl : List Nat} {C : List Cell} (h : PoolAt w B S fl C) (e : ∀ b, b ∈ B.all → w'.heap[b]? = w.heap[b]?) : PoolAt w' B S fl C :=
  ⟨blk_same h.blk (e _ (by simp [PB.all])), idx_same h.idx (fun b hb => e b (by simp [PB.all, hb])), blk_same h.cel (e _ (by simp [PB.all])), h.len, h.ok, h.whole, h.ne⟩
theorem key_at {w : World} {x g : Nat} {L : List Nat} {r : Row} {S : List (Option (List UInt8))} {fl : List Nat} (h : IdxAt w x g L r S fl) (i : Int) : Calls Try.prog 23 #[.pointer (some ⟨g, 0, none⟩), .int .i64 i] w (KeyPost (Keys.keyOf S i) w) := by
  obtain ⟨b1, b2, b3, t, bs, nx, T, rfl, h⟩ := h
  exact key_any h.sto i
/-- The keys and their cells, by places. -/
def pair1 (q : Option (List UInt8) × Cell) : Option (List UInt8 × Cell) := q.1.map fun k => (k, q.2)
def pairs (S : List (Option (List UInt8))) (C : List Cell) : List (List UInt8 × Cell) := (S.zip C).filterMap pair1
def pairsTo (S : List (Option (List UInt8))) (C : List Cell) (k : Nat) : List (List UInt8 × Cell) := ((S.zip C).take k).filterMap pair1
theorem pairsTo_all {S : List (Option (List UInt8))} {C : List Cell} (h : C.length = S.length) : pairsTo S C S.length = pairs S C := by
  unfold pairsTo pairs
  rw [List.take_of_length_le (by simp; omega)]
theorem pairsTo_next {S : List (Option (List UInt8))} {C : List Cell} {k : Nat} {o : Option (List UInt8)} {c : Cell} (ho : S[k]? = some o) (hc : C[k]? = some c) : pairsTo S C (k + 1) = pairsTo S C k ++ (o.map fun x => (x, c)).toList := by
  unfold pairsTo
  have hz : (S.zip C)[k]? = some (o, c) := by rw [List.getElem?_zip_eq_some]; exact ⟨ho, hc⟩
  rw [List.take_add_one, hz, List.filterMap_append]
  cases o <;> rfl
theorem pairsTo_post {S : List (Option (List UInt8))} {C : List Cell} {k : Nat} {x : List UInt8} {c : Cell} (ho : S[k]? = some (some x)) (hc : C[k]? = some c) : ∃ post, pairs S C = pairsTo S C k ++ (x, c) :: post := by
  have hz : (S.zip C)[k]? = some (some x, c) := by rw [List.getElem?_zip_eq_some]; exact ⟨ho, hc⟩
  have hk : k < (S.zip C).length := (List.getElem?_eq_some_iff.1 hz).1
  refine ⟨((S.zip C).drop (k + 1)).filterMap pair1, ?_⟩
  unfold pairs pairsTo
  conv => lhs; rw [← List.take_append_drop k (S.zip C), List.drop_eq_getElem_cons hk]
  rw [List.filterMap_append, List.filterMap_cons]
  have hg : (S.zip C)[k] = (some x, c) := (List.getElem?_eq_some_iff.1 hz).2
  rw [hg]; rfl
abbrev encP (x : List UInt8 × Cell) : Array Value := #[.string ⟨x.1.toArray⟩, x.2.val]
attribute [local go_sem] Oper.semAt_some

set_option maxRecDepth 4000 in
set_option maxHeartbeats 3200000 in
theorem all_iter {w : World} {B : PB} {S : List (Option (List UInt8))} {fl : List Nat} {C : List Cell} (h : PoolAt w B S fl C) {Kp : World → World → Prop} (hK : ∀ A A', PoolAt A B S fl C → Kp A A' → ∀ b, b ∈ B.all → A'.heap[b]? = A.heap[b]?) :
    Iter Try.prog 11 #[.pointer (some ⟨B.p, 0, none⟩)] #[] encP (pairs S C) Kp w := by
  intro l J Jx W hKW hJ hJx hY h0
  have hW : PoolAt W B S fl C := h.same (hK _ _ h hKW)
  clear hKW h
  refine callsIn_of_wp Try.func11 rfl trivial ?_ rfl
  simp only [Try.ntmps11, List.size_toArray, List.length_cons, List.length_nil, Nat.reduceAdd, Nat.reduceSub, Array.replicate_succ, Array.replicate_zero, List.push_toArray, List.append_toArray, List.nil_append, List.cons_append]
  have c2 := hW.blk.cell (i := 2) rfl
  have hfew := hW.idx.few
  have HW := Lib.hid hW
  have hlen := hW.len
  clear hW
  have HP := Lib.hid (pairsTo_all hlen)
  obtain ⟨n, hn⟩ : ∃ n, S.length = n := ⟨_, rfl⟩
  rw [hn] at c2 hfew hlen HP
  have HN := Lib.hid hn
  have HY := Lib.hid hY
  have H0 := Lib.hid h0
  have HJ := Lib.hid hJ
  clear hn hY h0 hJ hJx
  gi_wp2
  gi_loopw [15] (fun i wr => ∃ k : Nat, k ≤ n ∧ i = .int .i64 (k : Int) ∧ PoolAt wr B S fl C ∧ J (pairsTo S C k) wr) (fun i _ => n - (intOf i).toNat)
  case atStart => exact ⟨0, Nat.zero_le _, rfl, HW.out, H0.out⟩
  case round =>
    clear HW H0 c2
    obtain ⟨k, hk, rfl, hR, hJr⟩ := hrel
    have RR := Lib.hid hR
    have JR := Lib.hid hJr
    by_cases hlt : k < n
    · obtain ⟨c, hc⟩ : ∃ c, C[k]? = some c := ⟨_, List.getElem?_eq_getElem (by omega)⟩
      obtain ⟨o, ho⟩ : ∃ o, S[k]? = some o := ⟨_, List.getElem?_eq_getElem (by rw [HN.out]; omega)⟩
      obtain ⟨o0, o1, o2, o3⟩ := cel4 hR.cel hc
      have k0 := (hR.blk.alloc (.cells c.cells.toArray 32)).cell (i := 0) rfl
      have A1 := Lib.hid ((Mod.refl [] wr).alloc (.cells c.cells.toArray 32))
      have NB := Lib.hid (Blk.new wr c.cells 32)
      have KY := Lib.hid (key_at (hR.idx.mod A1.out (by simp)) (k : Int))
      have HO := Lib.hid ho
      have HC := Lib.hid hc
      obtain ⟨c0, c1, c2, c3⟩ := c
      simp only [Cell.cells] at *
      cases o with
      | none =>
        have hko : Keys.keyOf S (k : Int) = none := by unfold Keys.keyOf; rw [if_pos (by omega), Int.toNat_natCast, ho]; rfl
        rw [hko] at KY
        have hnx := pairsTo_next ho hc
        have HX := Lib.hid hnx
        clear hR hJr hc ho hko hnx
        gi_wp2
        refine ⟨trivial, (callsIn_wide.2 KY.out).mono ?_⟩
        rintro e1 w1 ⟨rfl, hM1⟩
        have M1 := Lib.hid (A1.out.trans hM1)
        clear hM1
        gi_wp2
        refine ⟨fun _ h => (by cases h), ?_⟩
        gi_wp2
        go_roundw
        case rel => exact ⟨k + 1, by omega, by go_num, RR.out.mod M1.out (by simp), by rw [HX.out]; simp; exact HJ.out _ _ _ JR.out M1.out⟩
        case measure => simp [intOf]; omega
      | some key =>
        have hko : Keys.keyOf S (k : Int) = some key := keyOf_some ho
        rw [hko] at KY
        have hnx := pairsTo_next ho hc
        have HX := Lib.hid hnx
        have HQ := Lib.hid (pairsTo_post ho hc)
        clear hR hJr hc ho hko hnx
        gi_wp2
        refine ⟨trivial, (callsIn_wide.2 KY.out).mono ?_⟩
        rintro e1 w1 ⟨rfl, hM1⟩
        have M1 := Lib.hid (A1.out.trans hM1)
        have NB1 := Lib.hid (hM1.blk NB.out (by simp))
        have q0 := NB1.out.cell (i := 0) rfl
        have q1 := NB1.out.cell (i := 1) rfl
        have q2 := NB1.out.cell (i := 2) rfl
        have q3 := NB1.out.cell (i := 3) rfl
        obtain ⟨fn, tmps, assign, body, hy, hR⟩ := HY.out _ (key, ⟨c0, c1, c2, c3⟩) w1 (HJ.out _ _ _ JR.out M1.out) HQ.out
        have HRR := Lib.hid hR
        clear hM1 hR
        gi_wp2
        refine HRR.out.mono ?_
        rintro e2 w2 (⟨rfl, hJ2, hK2⟩ | ⟨rfl, hJx2⟩)
        · have J2 := Lib.hid hJ2
          have R2 := Lib.hid ((RR.out.mod M1.out (by simp)).same (hK _ _ (RR.out.mod M1.out (by simp)) hK2))
          clear hJ2 hK2
          gi_wp2
          go_roundw
          case rel => exact ⟨k + 1, by omega, by go_num, R2.out, by rw [HX.out]; exact J2.out⟩
          case measure => simp [intOf]; omega
        · have J2 := Lib.hid hJx2
          clear hJx2
          gi_wp2
          refine bodyPost_ret (results_none rfl _ _ _) rfl ?_
          obtain ⟨post, hp⟩ := HQ.out
          exact ⟨⟨_, rfl⟩, .inr ⟨_, _, post, hp, J2.out⟩⟩
    · obtain rfl : k = n := by omega
      clear hR hJr
      gi_wp2
      go_end0
      exact ⟨⟨_, rfl⟩, .inl (by rw [← HP.out]; exact JR.out)⟩
end Go.Proofs.Ytajadfoannmaiaa.Pool
