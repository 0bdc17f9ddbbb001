/- conn: Accept, with the host that answers. -/
import Derived.Test.YtnhnmpgjbopihaaConn2
import Derived.Test.YtnhnmpgjbopihaaHost
import Derived.Stop.Asserts
namespace Go.Proofs.Ytnhnmpgjbopihaa.Conn
open Go Go.RowKit Go.YtnhnmpgjbopihaaMem Go.YtnhnmpgjbopihaaLex Go.Proofs.Ytnhnmpgjbopihaa.Frame Go.Proofs.Ytnhnmpgjbopihaa.Out
set_option linter.unusedVariables false
set_option linter.unusedSimpArgs false

/-- A connection as lists: what came of a frame, the fault, what waits, the requests answered. -/
structure CS where
  pend : List UInt8
  err : Nat
  out : List UInt8
  reqs : List Req
def faultB (e : Nat) : List UInt8 := frame 0xA8 [255, b8 e]
def cstep (rules : Int) (N : Nat) (s : CS) (c : UInt8) : Option CS :=
  if s.err ≠ 0 then none
  else if (tried s.pend rules 0 c).2.2 ≠ 0 then (if N < s.out.length + 6 then none else some ⟨[], (tried s.pend rules 0 c).2.2, s.out ++ faultB (tried s.pend rules 0 c).2.2, s.reqs⟩)
  else if (tried s.pend rules 0 c).2.1 = true then (if N < s.out.length + ((tried s.pend rules 0 c).1.cost % 30 + 1) then none else some ⟨[], 0, s.out ++ ansOf (tried s.pend rules 0 c).1, s.reqs ++ [(tried s.pend rules 0 c).1]⟩)
  else some ⟨s.pend ++ [c], 0, s.out, s.reqs⟩
def crun (rules : Int) (N : Nat) : CS → List UInt8 → Nat × CS
  | s, [] => (0, s)
  | s, c :: cs => match cstep rules N s c with
    | none => (0, s)
    | some s' => ((crun rules N s' cs).1 + 1, (crun rules N s' cs).2)
def AcceptPost (w : World) (g p d N hb B : Nat) (rules : Int) (v : Value) (r : Nat × CS) (e : Ending) (w' : World) : Prop :=
  ∃ v', e = .returned (.int .i64 (r.1 : Nat)) ∧ Con w' g p d N rules rules r.2.pend r.2.err r.2.out true ∧ Hst w' hb B v' r.2.reqs ∧ Mod (g :: p :: d :: hb :: v.ownBlock.toList) w w' ∧ (∀ b, v'.ownBlock = some b → v.ownBlock = some b ∨ w.heap.size ≤ b)

theorem faultB_length (e : Nat) : (faultB e).length = 6 := rfl
theorem step_run {rules : Int} {N j : Nat} {s0 s s' : CS} {bs : List UInt8} {c : UInt8} (hrun : crun rules N s0 bs = (j + (crun rules N s (bs.drop j)).1, (crun rules N s (bs.drop j)).2)) (hd : bs.drop j = c :: bs.drop (j + 1)) (hs : cstep rules N s c = some s') :
    crun rules N s0 bs = (j + 1 + (crun rules N s' (bs.drop (j + 1))).1, (crun rules N s' (bs.drop (j + 1))).2) := by
  rw [hrun, hd]
  have e : crun rules N s (c :: bs.drop (j + 1)) = ((crun rules N s' (bs.drop (j + 1))).1 + 1, (crun rules N s' (bs.drop (j + 1))).2) := by
    show (match cstep rules N s c with | none => (0, s) | some s' => ((crun rules N s' (bs.drop (j + 1))).1 + 1, (crun rules N s' (bs.drop (j + 1))).2)) = _
    rw [hs]
  rw [e]
  simp only [Prod.mk.injEq, and_true]
  omega
theorem hst_mod {S : List Nat} {w w' : World} {hb B : Nat} {v : Value} {l : List Req} (h : Hst w hb B v l) (hm : Mod S w w') (hn : hb ∉ S) (hS : ∀ x, x ∈ S → x < B) : Hst w' hb B v l :=
  ⟨hm.blk h.1 hn, h.2.1.mod hm hS, h.2.2.1, Nat.le_trans h.2.2.2 hm.size⟩
theorem host_most (x : Value) : ∀ w : World, (method 205 27 x "Most").run Try.prog w = .ok (57, x) w := fun _ => by kernel_rfl
theorem host_answer (x : Value) : ∀ w : World, (method 205 27 x "Answer").run Try.prog w = .ok (56, x) w := fun _ => by kernel_rfl
theorem host_seen (v : Value) (xT : TypeId) (w : World) : (Instr.typeAssert (.iface 27 v) xT 74 true).run Try.prog w = .ok (.tuple #[.nilIface, .bool false]) w := run_typeAssert_lacksB Try.underlying74 (by kernel_rfl) (by kernel_rfl) v xT w

set_option maxRecDepth 8000 in
set_option maxHeartbeats 6400000 in
theorem accept_main {w : World} {g p d N hb B b off cap : Nat} {rules : Int} {v : Value} {bs : List UInt8} (s0 : CS) (hC : Con w g p d N rules rules s0.pend s0.err s0.out true) (hH : Hst w hb B v s0.reqs) (hgB : g < B ∧ p < B ∧ d < B) (hne : g ≠ hb ∧ p ≠ hb ∧ d ≠ hb)
    (hl : bs.length ≤ 100000) (hr : s0.reqs.length ≤ 100000) (hbB : b < B) (hbn : b ≠ g ∧ b ≠ p ∧ b ≠ d ∧ b ≠ hb) (hcell : ∀ i u, (vb bs)[i]? = some u → w.cell? ⟨b, off + i, none⟩ = some u) :
    Calls Try.prog 14 #[.pointer (some ⟨g, 0, none⟩), .slice (some ⟨b, off, none⟩) bs.length cap, .iface 27 (.pointer (some ⟨hb, 0, none⟩))] w (AcceptPost w g p d N hb B rules v (crun rules N s0 bs)) := by
  have HC := Lib.hid hC
  have HH := Lib.hid hH
  have HX := Lib.hid hcell
  have hm1 := host_most (.pointer (some ⟨hb, 0, none⟩))
  have hm2 := host_answer (.pointer (some ⟨hb, 0, none⟩))
  have hm3 := host_seen (.pointer (some ⟨hb, 0, none⟩))
  clear hC hH hcell
  go_enter Try.func14, Try.ntmps14
  go_wp2_with fail
  refine (isOpen_any HC.out).mono ?_
  rintro e w' ⟨rfl, rfl⟩
  go_wp2_with fail
  go_loopw [19] (fun i wr => ∃ (j : Nat) (s : CS) (v' : Value), j ≤ bs.length ∧ i = .int .i64 j ∧ crun rules N s0 bs = (j + (crun rules N s (bs.drop j)).1, (crun rules N s (bs.drop j)).2) ∧ s.reqs.length ≤ s0.reqs.length + j ∧
      Con wr g p d N rules rules s.pend s.err s.out true ∧ Hst wr hb B v' s.reqs ∧ Mod (g :: p :: d :: hb :: v.ownBlock.toList) w wr ∧ (∀ b, v'.ownBlock = some b → v.ownBlock = some b ∨ w.heap.size ≤ b)) (fun i _ => bs.length - (intOf i).toNat)
  case atStart => exact ⟨0, s0, v, Nat.zero_le _, rfl, by simp, by omega, HC.out, HH.out, Mod.refl _ w, fun b hb => .inl hb⟩
  case round =>
    obtain ⟨j, s, v', hj, rfl, hrun, hrl, hCr, hHr, hM, hat⟩ := hrel
    have RUN := Lib.hid hrun
    have CR := Lib.hid hCr
    have HR := Lib.hid hHr
    have MR := Lib.hid hM
    have HAT := Lib.hid hat
    by_cases hlt : j < bs.length
    · obtain ⟨c, hc⟩ : ∃ c, bs[j]? = some c := ⟨_, List.getElem?_eq_getElem hlt⟩
      have hbw : b ∉ (g :: p :: d :: hb :: v.ownBlock.toList) := by
        have h0 := own_block HH.out.2.1
        simp only [List.mem_cons, not_or]
        exact ⟨hbn.1, hbn.2.1, hbn.2.2.1, hbn.2.2.2, fun hx => by have := h0 b (by simpa using hx); omega⟩
      have hbl : b < w.heap.size := Nat.lt_of_lt_of_le hbB HH.out.2.2.2
      have cj : wr.cell? ⟨b, off + j, none⟩ = some (.int .u8 c.toNat) := (MR.out.cell hbl hbw).trans (HX.out j _ (vb_get hc))
      have hdrop : bs.drop j = c :: bs.drop (j + 1) := by
        rw [List.drop_eq_getElem_cons hlt]; congr 1
        rw [List.getElem?_eq_getElem hlt] at hc; injection hc
      have HD := Lib.hid hdrop
      clear hrun hCr hHr hM hat hbw hc hdrop
      go_wp2_with fail
      refine (err_any CR.out.dec).mono ?_
      rintro e w' ⟨rfl, rfl⟩
      by_cases he : s.err = 0
      · have he1 : ((s.err : Int) != 0) = false := by simp; omega
        have he0 : (s.err : Int) = 0 := by omega
        obtain ⟨⟨op, rule, cost, key, k⟩, ok, e, ht⟩ : ∃ q ok e, tried s.pend rules 0 c = (q, ok, e) := ⟨_, _, _, rfl⟩
        have HE := Lib.hid he
        have HT := Lib.hid ht
        clear he ht he0
        go_wp2_with fail
        have hTry := try_any CR.out.dec c
        unfold TryPost at hTry
        rw [HE.out, HT.out] at hTry
        refine hTry.mono ?_
        rintro x w2 ⟨rfl, hM2⟩
        clear hTry
        simp only [Req.val]
        have CR2 := Lib.hid ((CR.out.mod hM2 (by simp) (by simp) (by simp)).mod ((Mod.refl [] w2).alloc (.cells (Req.cells ⟨op, rule, cost, key, k⟩).toArray 50)) (by simp) (by simp) (by simp))
        obtain ⟨k78, k79, k80⟩ := CR2.out.cells
        have HR2 := Lib.hid (hst_mod (hst_mod HR.out hM2 (by simp) (by simp)) ((Mod.refl [] w2).alloc (.cells (Req.cells ⟨op, rule, cost, key, k⟩).toArray 50)) (by simp) (by simp))
        have M2 := Lib.hid ((MR.out.trans (hM2.mono (by simp))).alloc (.cells (Req.cells ⟨op, rule, cost, key, k⟩).toArray 50))
        have hs2 := MR.out.size
        have hs2' := hM2.size
        obtain ⟨hle, hN, hN1, hpd⟩ := CR.out.buf.le
        simp only [Req.cells] at k78 k79 k80
        clear hM2 k79 k80
        by_cases hee : e = 0
        · subst hee
          cases ok
          · have hst : Hid (cstep rules N s c = some ⟨s.pend ++ [c], 0, s.out, s.reqs⟩) := Lib.hid (by simp only [cstep, HE.out, HT.out]; rw [if_neg (by simp), if_neg (by simp), if_neg (by simp)])
            clear k78
            have hfd : fed s.pend rules 0 c = (s.pend ++ [c], 0) := by unfold fed; rw [HT.out]; rfl
            have hFeed := feed_any CR2.out.dec c
            unfold FeedPost at hFeed
            rw [HE.out, HT.out, hfd] at hFeed
            clear hfd
            go_wp2_with fail
            refine hFeed.mono ?_
            rintro x w6 ⟨rfl, hM6, hD6⟩
            have CR6 := Lib.hid (Con.mk hD6 (CR2.out.buf.mod hM6 (by simpa using CR.out.gp.symm) (by simpa using CR.out.gd.symm)) CR.out.gp CR.out.gd)
            have HR6 := Lib.hid (hst_mod HR2.out hM6 (by simpa using hne.1.symm) (by simpa using hgB.1))
            have M6 := Lib.hid (M2.out.trans (hM6.mono (by simp)))
            clear hFeed hM6 hD6
            go_wp2_with fail
            exact ⟨⟨j + 1, ⟨s.pend ++ [c], 0, s.out, s.reqs⟩, v', by omega, by go_num, step_run RUN.out HD.out hst.out, by show s.reqs.length ≤ _; omega, CR6.out, HR6.out, M6.out, HAT.out⟩, by simp [intOf]; omega⟩
          · have WX := Lib.hid (Box.new w2 ⟨op, rule, cost, key, k⟩ rfl)
            have k78d : (w2.alloc (.cells #[.int .i64 op, .int .i64 rule, .int .u32 cost, .string ⟨key.toArray⟩, .int .i64 k] 50)).drew.cell? ⟨g, 78, none⟩ = some (.pointer (some ⟨p, 0, none⟩)) := k78
            have iscb : IsC (w2.alloc (.cells #[.int .i64 op, .int .i64 rule, .int .u32 cost, .string ⟨key.toArray⟩, .int .i64 k] 50)).drew w2.heap.size := isC_of_cell (w := (w2.alloc (.cells #[.int .i64 op, .int .i64 rule, .int .u32 cost, .string ⟨key.toArray⟩, .int .i64 k] 50)).drew) (WX.out.cell (i := 0) rfl)
            have ISCB := Lib.hid iscb
            clear iscb
            go_wp2_with fail
            refine wp_region_held [5] [6] [] (by kernel_rfl) (by kernel_rfl) ?_
            simp only [wpCut, List.take_succ_cons, List.take_zero, List.drop_succ_cons, List.drop_zero]
            go_wp2_with fail
            refine (room_any (CR2.out.buf.mod (Mod.drew (Mod.refl [] _)) (by simp) (by simp))).mono ?_
            rintro x w3 ⟨rfl, rfl⟩
            obtain ⟨p0, p1, p2, p3, p4⟩ := Box.facts (Box.mod (w' := (w2.alloc (.cells (Req.cells ⟨op, rule, cost, key, k⟩).toArray 50)).drew.drew) WX.out (Mod.drew (Mod.drew (Mod.refl [] _))))
            clear k78d k78
            go_wp2_with fail
            refine ⟨Mod.drew (Mod.refl [] _), ?_⟩
            go_wp2_with fail
            refine (most_any _ hb ⟨op, rule, cost, key, k⟩).mono ?_
            rintro x w3 ⟨rfl, hM3⟩
            have hM3' : Mod [] (w2.alloc (.cells (Req.cells ⟨op, rule, cost, key, k⟩).toArray 50)) w3 := (Mod.drew (Mod.drew (Mod.refl [] _))).trans hM3
            have CR3 := Lib.hid (CR2.out.mod hM3' (by simp) (by simp) (by simp))
            have HR3 := Lib.hid (hst_mod HR2.out hM3' (by simp) (by simp))
            have M3 := Lib.hid (M2.out.trans (hM3'.mono (by simp)))
            have WX3 := Lib.hid (Box.mod WX.out hM3')
            have hs3 : w2.heap.size + 1 ≤ w3.heap.size := by have := hM3'.size; simpa using this
            obtain ⟨n, hn⟩ : ∃ n, cost % 30 = n := ⟨_, rfl⟩
            have hn30 : n < 30 := by omega
            have HN := Lib.hid hn
            clear hM3 hM3' p0 p1 p2 p3 p4
            simp only [hn]
            clear hn
            by_cases hroom : N < s.out.length + (n + 1)
            · have dr : decide (((N : Int) - s.out.length) < (n : Int) + 1) = true := by simp; omega
              have hst : Hid (crun rules N s (bs.drop j) = (0, s)) := Lib.hid (by rw [HD.out]; unfold crun; simp only [cstep, HE.out, HT.out, HN.out]; rw [if_neg (by simp), if_neg (by simp), if_pos trivial, if_pos hroom])
              go_wp2_with fail
              refine ⟨by kernel_rfl, ⟨⟨by simp, ISCB.out⟩, trivial⟩, ?_⟩
              go_wp2_with fail
              go_ret
              refine ⟨v', ?_, ?_, ?_, M3.out, HAT.out⟩
              all_goals rw [RUN.out, hst.out]
              · simp
              · exact CR3.out
              · exact HR3.out
            · have dr : decide (((N : Int) - s.out.length) < (n : Int) + 1) = false := by simp; omega
              have hst : Hid (cstep rules N s c = some ⟨[], 0, s.out ++ ansOf ⟨op, rule, cost, key, k⟩, s.reqs ++ [⟨op, rule, cost, key, k⟩]⟩) := Lib.hid (by simp only [cstep, HE.out, HT.out, HN.out]; rw [if_neg (by simp), if_neg (by simp), if_pos trivial, if_neg hroom])
              obtain ⟨k78', k79, k80⟩ := CR3.out.cells
              obtain ⟨p0, p1, p2, p3, p4⟩ := Box.facts WX3.out
              have hvb := own_block HR3.out.2.1
              have HVB := Lib.hid hvb
              have hgF : g ∉ (hb :: v'.ownBlock.toList) := by
                simp only [List.mem_cons, not_or]
                exact ⟨hne.1, fun hx => by have := HVB.out g (by simpa using hx); omega⟩
              have hpF : p ∉ (hb :: v'.ownBlock.toList) := by
                simp only [List.mem_cons, not_or]
                exact ⟨hne.2.1, fun hx => by have := HVB.out p (by simpa using hx); omega⟩
              have hdF : d ∉ (hb :: v'.ownBlock.toList) := by
                simp only [List.mem_cons, not_or]
                exact ⟨hne.2.2, fun hx => by have := HVB.out d (by simpa using hx); omega⟩
              have HF := Lib.hid (And.intro hgF (And.intro hpF hdF))
              have isc : IsC w3.drew g := isC_of_cell (w := w3.drew) k78'
              have ISC := Lib.hid isc
              clear isc k79 k80 hgF hpF hdF hvb
              go_wp2_with fail
              refine ⟨by kernel_rfl, ⟨⟨by simp, ISCB.out⟩, trivial⟩, ?_⟩
              go_wp2_with fail
              refine wp_region_held [7] [3] (hb :: v'.ownBlock.toList) (by kernel_rfl) (by kernel_rfl) ?_
              simp only [wpCut, List.take_succ_cons, List.take_zero, List.drop_succ_cons, List.drop_zero]
              go_wp2_with fail
              refine (answer_any (hst_mod HR3.out (Mod.drew (Mod.refl [] w3)) (by simp) (by simp)) ⟨op, rule, cost, key, k⟩ (by omega)).mono ?_
              rintro x w4 ⟨x4, v4, rfl, hx4, hxb, hH4, hM4, hat4⟩
              have CR4 := Lib.hid (CR3.out.mod ((Mod.drew (Mod.refl _ w3)).trans hM4) HF.out.1 HF.out.2.1 HF.out.2.2)
              have HR4 := Lib.hid hH4
              have HX4 := Lib.hid hx4
              have HXB := Lib.hid hxb
              have N4 := Lib.hid hM4
              have HAT4 : Hid (∀ b, v4.ownBlock = some b → v.ownBlock = some b ∨ w.heap.size ≤ b) := Lib.hid fun b hb => by
                rcases hat4 b hb with h | h
                · exact HAT.out b h
                · right; change w3.heap.size ≤ b at h; omega
              have M4 := Lib.hid ((M3.out.drew).trans' hM4 (fun x hx => by
                rcases List.mem_cons.1 hx with h | h
                · left; simp [h]
                · rcases HAT.out x (by simpa using h) with h | h
                  · left; simp [h]
                  · exact .inr h))
              have hlt3 := CR3.out.lt
              clear hH4 hx4 hxb hM4 hat4 k78' p0 p1 p2 p3 p4
              go_wp2_with fail
              refine ⟨N4.out, ?_⟩
              go_wp2_with fail
              refine (put_yes CR4.out.buf x4 (ansOf ⟨op, rule, cost, key, k⟩) HX4.out (fun b hb => .inr (by have := HXB.out b hb; change w3.heap.size ≤ b at this; omega)) (by rw [ansOf_length, HN.out]; omega)).mono ?_
              rintro x w5 ⟨rfl, hB5, hM5⟩
              have CR5 := Lib.hid (Con.mk (CR4.out.dec.mod hM5 (by simp [CR.out.gp, CR.out.gd])) hB5 CR.out.gp CR.out.gd)
              have HR5 := Lib.hid (hst_mod HR4.out hM5 (by simp [hne.2.1.symm, hne.2.2.symm]) (by simp [hgB.2.1, hgB.2.2]))
              have M5 := Lib.hid (M4.out.trans (hM5.mono (by simp)))
              clear hM5 hB5
              go_wp2_with fail
              refine ⟨by kernel_rfl, ⟨⟨HF.out.1, ISC.out⟩, trivial⟩, ?_⟩
              have hfd : fed s.pend rules 0 c = ([], 0) := by unfold fed; rw [HT.out]; rfl
              have hFeed := feed_any CR5.out.dec c
              unfold FeedPost at hFeed
              rw [HE.out, HT.out, hfd] at hFeed
              clear hfd
              go_wp2_with fail
              refine hFeed.mono ?_
              rintro x w6 ⟨rfl, hM6, hD6⟩
              have CR6 := Lib.hid (Con.mk hD6 (CR5.out.buf.mod hM6 (by simpa using CR.out.gp.symm) (by simpa using CR.out.gd.symm)) CR.out.gp CR.out.gd)
              have HR6 := Lib.hid (hst_mod HR5.out hM6 (by simpa using hne.1.symm) (by simpa using hgB.1))
              have M6 := Lib.hid (M5.out.trans (hM6.mono (by simp)))
              clear hFeed hM6 hD6
              go_wp2_with fail
              exact ⟨⟨j + 1, ⟨[], 0, s.out ++ ansOf ⟨op, rule, cost, key, k⟩, s.reqs ++ [⟨op, rule, cost, key, k⟩]⟩, v4, by omega, by go_num, step_run RUN.out HD.out hst.out, by show (s.reqs ++ [_]).length ≤ _; rw [List.length_append, List.length_singleton]; omega, CR6.out, HR6.out, M6.out, HAT4.out⟩, by simp [intOf]; omega⟩
        · have hee1 : ((e : Int) != 0) = true := by simp; omega
          go_wp2_with fail
          refine (room_any CR2.out.buf).mono ?_
          rintro x w3 ⟨rfl, rfl⟩
          by_cases hroom : N < s.out.length + 6
          · have dr : decide (((N : Int) - s.out.length) < 6) = true := by simp; omega
            have hst : Hid (crun rules N s (bs.drop j) = (0, s)) := Lib.hid (by rw [HD.out]; unfold crun; simp only [cstep, HE.out, HT.out]; rw [if_neg (by simp), if_pos hee, if_pos hroom])
            have CR3 := Lib.hid (CR2.out.mod (Mod.drew (Mod.refl [] _)) (by simp) (by simp) (by simp))
            have HR3 := Lib.hid (hst_mod HR2.out (Mod.drew (Mod.refl [] _)) (by simp) (by simp))
            go_wp2_with fail
            go_ret
            refine ⟨v', ?_, ?_, ?_, M2.out.drew, HAT.out⟩
            all_goals rw [RUN.out, hst.out]
            · simp
            · exact CR3.out
            · exact HR3.out
          · have dr : decide (((N : Int) - s.out.length) < 6) = false := by simp; omega
            have hst : Hid (cstep rules N s c = some ⟨[], e, s.out ++ faultB e, s.reqs⟩) := Lib.hid (by simp only [cstep, HE.out, HT.out]; rw [if_neg (by simp), if_pos hee, if_neg hroom])
            have isc : IsC (w2.alloc (.cells (Req.cells ⟨op, rule, cost, key, k⟩).toArray 50)).drew.drew g := isC_of_cell (w := (w2.alloc (.cells (Req.cells ⟨op, rule, cost, key, k⟩).toArray 50)).drew.drew) k78
            have ISC := Lib.hid isc
            have k78d : (w2.alloc (.cells (Req.cells ⟨op, rule, cost, key, k⟩).toArray 50)).drew.drew.cell? ⟨g, 78, none⟩ = some (.pointer (some ⟨p, 0, none⟩)) := k78
            clear isc
            go_wp2_with fail
            refine wp_region_held [6] [3] [] (by kernel_rfl) (by kernel_rfl) ?_
            simp only [wpCut, List.take_succ_cons, List.take_zero, List.drop_succ_cons, List.drop_zero]
            go_wp2_with fail
            refine (faulted_any _ e).mono ?_
            rintro x w4 ⟨v4, rfl, ho4, hM4⟩
            have hM4' : Mod [] (w2.alloc (.cells (Req.cells ⟨op, rule, cost, key, k⟩).toArray 50)) w4 := (Mod.drew (Mod.drew (Mod.refl [] _))).trans hM4
            have CR4 := Lib.hid (CR2.out.mod hM4' (by simp) (by simp) (by simp))
            have HR4 := Lib.hid (hst_mod HR2.out hM4' (by simp) (by simp))
            have M4 := Lib.hid (M2.out.trans (hM4'.mono (by simp)))
            have O4 := Lib.hid ho4
            have N4 := Lib.hid hM4
            obtain ⟨k78', k79, k80⟩ := CR4.out.cells
            have hlt2 := CR2.out.lt
            clear ho4 hM4 hM4' k79 k80 k78
            go_wp2_with fail
            refine ⟨N4.out, ?_⟩
            go_wp2_with fail
            refine (put_yes CR4.out.buf v4 (faultB e) (Sl.own O4.out) (fun b hb => .inr (by have := own_block O4.out b hb; change (w2.alloc _).heap.size ≤ b at this; omega)) (by rw [faultB_length]; omega)).mono ?_
            rintro x w5 ⟨rfl, hB5, hM5⟩
            have CR5 := Lib.hid (Con.mk (CR4.out.dec.mod hM5 (by simp [CR.out.gp, CR.out.gd])) hB5 CR.out.gp CR.out.gd)
            have HR5 := Lib.hid (hst_mod HR4.out hM5 (by simp [hne.2.1.symm, hne.2.2.symm]) (by simp [hgB.2.1, hgB.2.2]))
            have M5 := Lib.hid (M4.out.trans (hM5.mono (by simp)))
            clear hM5 hB5 k78'
            go_wp2_with fail
            refine ⟨by kernel_rfl, ⟨⟨by simp, ISC.out⟩, trivial⟩, ?_⟩
            have hfd : fed s.pend rules 0 c = ([], e) := by unfold fed; rw [HT.out]; simp only; rw [if_pos hee]
            have hFeed := feed_any CR5.out.dec c
            unfold FeedPost at hFeed
            rw [HE.out, HT.out, hfd] at hFeed
            clear hfd
            go_wp2_with fail
            refine hFeed.mono ?_
            rintro x w6 ⟨rfl, hM6, hD6⟩
            have CR6 := Lib.hid (Con.mk hD6 (CR5.out.buf.mod hM6 (by simpa using CR.out.gp.symm) (by simpa using CR.out.gd.symm)) CR.out.gp CR.out.gd)
            have HR6 := Lib.hid (hst_mod HR5.out hM6 (by simpa using hne.1.symm) (by simpa using hgB.1))
            have M6 := Lib.hid (M5.out.trans (hM6.mono (by simp)))
            clear hFeed hM6 hD6
            go_wp2_with fail
            exact ⟨⟨j + 1, ⟨[], e, s.out ++ faultB e, s.reqs⟩, v', by omega, by go_num, step_run RUN.out HD.out hst.out, by show s.reqs.length ≤ _; omega, CR6.out, HR6.out, M6.out, HAT.out⟩, by simp [intOf]; omega⟩
      · have he1 : ((s.err : Int) != 0) = true := by simp; omega
        have hst : Hid (crun rules N s (bs.drop j) = (0, s)) := Lib.hid (by rw [HD.out]; unfold crun; simp only [cstep, if_pos he])
        clear he
        go_wp2_with fail
        go_ret
        refine ⟨v', ?_, ?_, ?_, MR.out, HAT.out⟩
        all_goals rw [RUN.out, hst.out]
        · simp
        · exact CR.out
        · exact HR.out
    · obtain rfl : j = bs.length := by omega
      have hst : Hid (crun rules N s (bs.drop bs.length) = (0, s)) := Lib.hid (by rw [List.drop_length]; rfl)
      clear hrun hCr hHr hM hat
      go_wp2_with fail
      go_ret
      refine ⟨v', ?_, ?_, ?_, MR.out, HAT.out⟩
      all_goals rw [RUN.out, hst.out]
      · simp
      · exact CR.out
      · exact HR.out
end Go.Proofs.Ytnhnmpgjbopihaa.Conn
