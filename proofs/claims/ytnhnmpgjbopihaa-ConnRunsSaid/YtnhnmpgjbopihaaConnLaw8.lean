/- conn's laws: ConnRuns: call by call as many bytes come and go as the document says, and just the requests that are whole are answered. No condition. -/
import Derived.Test.YtnhnmpgjbopihaaConnLaw3
import Derived.Test.YtnhnmpgjbopihaaConnCalls
import Derived.Deep.Cut
import Derived.BigQuiet
import Derived.Deep.CutRange
import Derived.Deep.CutBlock
namespace Go.Proofs.Ytnhnmpgjbopihaa.Conn
open Go Go.RowKit Go.YtnhnmpgjbopihaaMem Go.YtnhnmpgjbopihaaLex Go.Proofs.Ytnhnmpgjbopihaa.Frame Go.Proofs.Ytnhnmpgjbopihaa.Out
set_option linter.unusedVariables false
set_option linter.unusedSimpArgs false

/-- What holds between two calls. -/
def Both (w wx : World) (g p d mb hb B N : Nat) (rules : Int) (j : Nat) : Prop :=
  ∃ (s : CS) (opn er : Bool) (dr : Int) (v vi vo : Value) (inn : List UInt8), s.reqs.length ≤ 400 * j ∧ Con wx g p d N rules dr s.pend s.err s.out opn ∧ Mdl wx mb B vi vo inn s.out er opn ∧ (opn = true → dr = rules ∧ er = decide (s.err ≠ 0) ∧ (s.err = 0 → inn = s.pend)) ∧ (opn = false → s.out = []) ∧
    Hst wx hb B v s.reqs ∧ (∀ b, v.ownBlock = some b → vi.ownBlock ≠ some b ∧ vo.ownBlock ≠ some b) ∧ Mod [] w wx
theorem hst_own {S : List Nat} {w w' : World} {hb B : Nat} {v : Value} {l : List Req} (h : Hst w hb B v l) (hm : Mod S w w') (hn : hb ∉ S) (hS : ∀ b, v.ownBlock = some b → b ∉ S) : Hst w' hb B v l :=
  ⟨hm.blk h.1 hn, hm.own h.2.1 hS, h.2.2.1, Nat.le_trans h.2.2.2 hm.size⟩
theorem held_own {F : List Nat} {w w' : World} {B n L c c' : Nat} {a : Option Addr} {bs : List UInt8} (h : OwnO w B (.slice a L c) bs) (hh : w'.heap = w.heap) (hF : ∀ b, (Value.slice a L c).ownBlock = some b → b ∉ F) : heldV F w' (.slice a n c') := by
  rcases h with ⟨h0, -⟩ | ⟨g, off, cap, cur, h0, -, h2, -⟩
  · injection h0 with e1 e2 e3; subst e1; trivial
  · injection h0 with e1 e2 e3; subst e1
    exact .inr ⟨hF g rfl, ⟨cur, _, _, by rw [hh]; exact h2⟩⟩
theorem dec_pend {T : TypeId} {rest : List Value} {w : World} {g : Nat} {pend : List UInt8} {rules : Int} {err : Nat} (h : Dec T rest w g pend rules err) : pend.length < 75 := by
  obtain ⟨_, _, _, h⟩ := h; exact h
theorem Both.drewN {w wx : World} {g p d mb hb B N : Nat} {rules : Int} {j : Nat} (h : Both w wx g p d mb hb B N rules j) (k : Nat) : Both w (wx.drewN k) g p d mb hb B N rules j := by
  obtain ⟨s, opn, er, dr, v, vi, vo, inn, h1, h2, h3, h4, h5, h6, h7, h8⟩ := h
  exact ⟨s, opn, er, dr, v, vi, vo, inn, h1, h2.mod (Mod.drewN (Mod.refl [] wx) k) (by simp) (by simp) (by simp), h3.mod0 (Mod.drewN (Mod.refl [] wx) k), h4, h5, hst_mod h6 (Mod.drewN (Mod.refl [] wx) k) (by simp) (by simp), h7, h8.drewN k⟩
set_option maxRecDepth 60000 in
set_option maxHeartbeats 6400000 in
theorem runs_main (w : World) (z1 z2 : Int) (a : Option Addr) (cp : Nat) (l : List CallV) (hm : l.length ≤ maxLen) (hl : l.length ≤ 100) (hI : InCalls w a l) :
    Calls Try.prog 7 #[.int .i64 z1, .int .i64 z2, .slice a l.length cp] w (TruePost w) := by
  have HI := Lib.hid hI
  have and7 : bits .and .i64 z1 7 = z1 % 8 := and_mask z1 3 (by decide)
  have and127 : bits .and .i64 z2 127 = z2 % 128 := and_mask z2 7 (by decide)
  obtain ⟨ru, hru⟩ : ∃ ru : Nat, z1 % 8 = ru := ⟨(z1 % 8).toNat, by omega⟩
  obtain ⟨N0, hN0⟩ : ∃ N0 : Nat, z2 % 128 = N0 := ⟨(z2 % 128).toNat, by omega⟩
  rw [hru] at and7
  rw [hN0] at and127
  obtain ⟨R, hR⟩ : ∃ R : Nat, (ru : Int) + 1 = R := ⟨ru + 1, by omega⟩
  obtain ⟨N, hN⟩ : ∃ N : Nat, (N0 : Int) + 1 = N := ⟨N0 + 1, by omega⟩
  have hN128 : 1 ≤ N ∧ N ≤ 128 := by omega
  have hru8 : ru < 8 := by omega
  have hN08 : N0 < 128 := by omega
  have d1 : decide ((100 : Int) < l.length) = false := by simp; omega
  clear hI hm hru hN0
  go_enter Try.func7, Try.ntmps7
  go_wp2_with fail
  refine (fit_any w).mono ?_
  rintro e w1 ⟨rfl, hM1⟩
  have M1 := Lib.hid hM1
  have hz1 := hM1.size
  clear hM1
  go_wp2_with fail
  refine (new_con w1 R N (by omega) (by omega)).mono ?_
  rintro e w2 ⟨g, p, d, rfl, hC2, hg, hp, hd, hM2⟩
  replace hC2 : Con w2 g p d N R 0 [] 0 [] false := hC2
  have hlt2 := hC2.lt
  have A2 := Lib.hid (((Mod.refl [] w2).alloc (.cells #[.slice none 0 0, .slice none 0 0, .bool false, .bool false] 57)).alloc (.cells #[.slice none 0 0] 30))
  have C2 := Lib.hid (hC2.mod A2.out (by simp) (by simp) (by simp))
  have H2 : Hid (Hst ((w2.alloc (.cells #[.slice none 0 0, .slice none 0 0, .bool false, .bool false] 57)).alloc (.cells #[.slice none 0 0] 30)) (w2.heap.size + 1) (w2.heap.size + 2) (.slice none 0 0) []) := Lib.hid (by have := new_host (w2.alloc (.cells #[.slice none 0 0, .slice none 0 0, .bool false, .bool false] 57)); simpa using this)
  have D2 : Hid (Mdl ((w2.alloc (.cells #[.slice none 0 0, .slice none 0 0, .bool false, .bool false] 57)).alloc (.cells #[.slice none 0 0] 30)) w2.heap.size (w2.heap.size + 2) (.slice none 0 0) (.slice none 0 0) [] [] false false) := Lib.hid ⟨((Blk.new w2 _ _).alloc _), World.ownsRow_nil _ _ _ _, fun _ => rfl, OwnO.nil _ _, fun b h => (by cases h), by omega, by simp⟩
  have M2 := Lib.hid ((M1.out.trans hM2).trans A2.out)
  have hz2 := hM2.size
  clear hC2 hM2
  go_wp2_with fail
  have hK : w.heap.size ≤ g ∧ w.heap.size ≤ p ∧ w.heap.size ≤ d ∧ w.heap.size ≤ w2.heap.size := by omega
  obtain ⟨mb, hmb⟩ : ∃ mb, w2.heap.size = mb := ⟨_, rfl⟩
  have hgB : g < mb ∧ p < mb ∧ d < mb := by omega
  rw [hmb] at H2 D2 hK
  rw [hmb]
  clear hz1 hg hp hd hz2 hlt2 hmb
  clear hR hN and7 and127 hru8 hN08
  go_loopw [38] (fun i wr => ∃ (j : Nat), j ≤ l.length ∧ i = .int .i64 j ∧ Both w wr g p d mb (mb + 1) (mb + 2) N R j) (fun i _ => l.length - (intOf i).toNat)
  case atStart => exact ⟨0, Nat.zero_le _, rfl, .start, false, false, 0, .slice none 0 0, .slice none 0 0, .slice none 0 0, [], Nat.le_refl _, C2.out, D2.out, fun h => (by cases h), fun _ => rfl, H2.out, fun b h => (by cases h), M2.out⟩
  case round =>
    obtain ⟨j, hj, rfl, hB⟩ := hrel
    by_cases hlt : j < l.length
    · obtain ⟨q, hq⟩ : ∃ q, l[j]? = some q := ⟨_, List.getElem?_eq_getElem hlt⟩
      obtain ⟨b, off, x, cx, rfl, hb, x0, x1, x2, hin⟩ := HI.out j q hq
      obtain ⟨kind, n, data⟩ := q
      simp only at x0 x1 x2 hin
      have BO := Lib.hid hB
      have hMr : Mod [] w wr := by obtain ⟨_, _, _, _, _, _, _, _, _, _, _, _, _, _, _, h⟩ := hB; exact h
      have y0 := (hMr.cell (a := ⟨b, off + j * 3, none⟩) hb (by simp)).trans x0
      have y1 := (hMr.cell (a := ⟨b, off + j * 3 + 1, none⟩) hb (by simp)).trans x1
      have y2 := (hMr.cell (a := ⟨b, off + j * 3 + 2, none⟩) hb (by simp)).trans x2
      have KB := Lib.hid (Blk.new wr [.int .i64 kind, .int .i64 n, .slice x data.length cx] 59)
      have IN := Lib.hid hin
      have hbw : b < wr.heap.size := Nat.lt_of_lt_of_le hb hMr.size
      have hbw' : ¬ b = wr.heap.size := by omega
      clear hB hMr x0 x1 x2 hin hq
      by_cases h400 : 400 < data.length
      · have d4 : decide ((400 : Int) < data.length) = true := by simp; omega
        go_wp2_with fail
        go_ret
        obtain ⟨_, _, _, _, _, _, _, _, _, _, _, _, _, _, _, h⟩ := BO.out
        exact ⟨rfl, h.alloc _⟩
      · have d4 : decide ((400 : Int) < data.length) = false := by simp; omega
        obtain ⟨t, ht⟩ : ∃ t : Int, kind.tmod 4 = t := ⟨_, rfl⟩
        have ht1 : -4 < t := by rw [← ht]; exact Int.lt_tmod_of_pos kind (by omega)
        have ht2 : t < 4 := by rw [← ht]; exact Int.tmod_lt_of_pos kind (by omega)
        obtain ⟨kd, hkd⟩ : ∃ kd : Nat, (t + 4).tmod 4 = (kd : Int) := ⟨((t + 4) % 4).toNat, by rw [Int.tmod_eq_emod_of_nonneg (by omega)]; omega⟩
        have hk4 : kd < 4 := by rw [Int.tmod_eq_emod_of_nonneg (by omega)] at hkd; omega
        have hj100 : j ≤ 99 := by omega
        have HB := Lib.hid (show w.heap.size ≤ wr.heap.size from (by obtain ⟨_, _, _, _, _, _, _, _, _, _, _, _, _, _, _, h⟩ := BO.out; exact h.size))
        have AC := Lib.hid ((Mod.refl [] wr).alloc (.cells #[.int .i64 kind, .int .i64 n, .slice x data.length cx] 59))
        go_upto_block 2 with fail
        go_cut [12, 13, 14, 15, 16, 17, 38] from 39 to 221 (fun s12 s13 s14 s15 s16 s17 i wx => i = .int .i64 j ∧ Both w wx g p d mb (mb + 1) (mb + 2) N R (j + 1))
        case rest =>
          obtain ⟨rfl, hB⟩ := hcut
          have BOTH := Lib.hid hB
          obtain ⟨s, opn, er, dr, v, vi, vo, inn, hrq, hC, hD, hop, hsh, hH, hdj, hM⟩ := hB
          obtain ⟨ao, co, rfl, -, -⟩ := hD.fo.slice
          have CR := Lib.hid hC
          have DR := Lib.hid hD
          have OP := Lib.hid hop
          have SH := Lib.hid hsh
          have HR := Lib.hid hH
          have DJ := Lib.hid hdj
          have MR := Lib.hid hM
          have m1 := hD.blk.cell (i := 1) rfl
          have m2 := hD.blk.cell (i := 2) rfl
          have m3 := hD.blk.cell (i := 3) rfl
          have hle := (hC.buf.le).1
          have ISM := Lib.hid (show IsC wc.drew mb from isC_of_cell (w := wc.drew) m1)
          clear hC hD hop hsh hH hdj hM hrq
          have CD := Lib.hid (fun k => CR.out.mod (Mod.drewN (Mod.refl [] wc) k) (by simp) (by simp) (by simp))
          have QO : Hid (∀ k, Calls Try.prog 21 #[.pointer (some ⟨g, 0, none⟩)] (wc.drewN k) fun e w'' => e = .returned (.bool opn) ∧ ∃ m, w'' = wc.drewN m) := Lib.hid (fun k => Calls.quiet_of_same ((isOpen_any (CD.out k)).mono fun e w' h => ⟨h.1, h.2.symm⟩))
          have QW : Hid (∀ k, Calls Try.prog 18 #[.pointer (some ⟨g, 0, none⟩)] (wc.drewN k) fun e w'' => e = .returned (.int .i64 s.out.length) ∧ ∃ m, w'' = wc.drewN m) := Lib.hid (fun k => Calls.quiet_of_same ((waits_any (CD.out k)).mono fun e w' h => ⟨h.1, h.2.symm⟩))
          have QR : Hid (∀ k, Calls Try.prog 22 #[.pointer (some ⟨g, 0, none⟩)] (wc.drewN k) fun e w'' => e = .returned (.int .i64 ((N : Int) - s.out.length)) ∧ ∃ m, w'' = wc.drewN m) := Lib.hid (fun k => Calls.quiet_of ((room_con (CD.out k)).mono fun e w' h => ⟨h.1, 1, h.2.symm⟩))
          have QE : Hid (∀ k, Calls Try.prog 16 #[.pointer (some ⟨g, 0, none⟩)] (wc.drewN k) fun e w'' => e = .returned (.int .i64 s.err) ∧ ∃ m, w'' = wc.drewN m) := Lib.hid (fun k => Calls.quiet_of_same ((err_any (CD.out k).dec).mono fun e w' h => ⟨h.1, h.2.symm⟩))
          have hne : (((N : Int) - s.out.length) != ((N : Int) - s.out.length)) = false := by simp
          go_upto_region 40 with fail
          cases opn with
          | false => as_aux_lemma =>
            go_quiet (first | (go_at_call 21; exact QO.out _) | (go_at_call 18; exact QW.out _) | (go_at_call 22; exact QR.out _) | (go_at_call 16; exact QE.out _))
            go_wp2_with fail
            go_roundw
            case rel => exact ⟨j + 1, by omega, by go_num, BOTH.out.drewN _⟩
            case measure => simp [intOf]; omega
          | true => as_aux_lemma =>
            obtain ⟨hdr, her, hinn⟩ := OP.out rfl
            subst hdr
            by_cases he : s.err = 0
            · have he1 : ((s.err : Int) != 0) = false := by simp; omega
              have he2 : er = false := by rw [her]; simp [he]
              subst he2
              clear her hinn he
              go_quiet (first | (go_at_call 21; exact QO.out _) | (go_at_call 18; exact QW.out _) | (go_at_call 22; exact QR.out _) | (go_at_call 16; exact QE.out _))
              go_wp2_with fail
              go_roundw
              case rel => exact ⟨j + 1, by omega, by go_num, BOTH.out.drewN _⟩
              case measure => simp [intOf]; omega
            · have he1 : ((s.err : Int) != 0) = true := by simp; omega
              have he2 : er = true := by rw [her]; simpa using he
              subst he2
              clear her hinn he
              go_quiet (first | (go_at_call 21; exact QO.out _) | (go_at_call 18; exact QW.out _) | (go_at_call 22; exact QR.out _) | (go_at_call 16; exact QE.out _))
              go_wp2_with fail
              go_roundw
              case rel => exact ⟨j + 1, by omega, by go_num, BOTH.out.drewN _⟩
              case measure => simp [intOf]; omega
        case first =>
          obtain ⟨s, opn, er, dr, v, vi, vo, inn, hrq, hC, hD, hop, hsh, hH, hdj, hM⟩ := BO.out
          obtain ⟨ao, co, rfl, -, -⟩ := hD.fo.slice
          obtain ⟨av, cv, rfl⟩ := hH.2.1.slice
          have VB : Hid ((∀ b, (Value.slice av s.reqs.length cv).ownBlock = some b → mb + 2 ≤ b ∧ b < wr.heap.size) ∧ (∀ b, vi.ownBlock = some b → mb + 2 ≤ b ∧ b < wr.heap.size) ∧ (∀ b, (Value.slice ao s.out.length co).ownBlock = some b → mb + 2 ≤ b ∧ b < wr.heap.size) ∧ mb + 2 ≤ wr.heap.size) := Lib.hid ⟨hH.2.1.lt, hD.fi.lt, hD.fo.lt, hD.le⟩
          have CA := Lib.hid (hC.mod AC.out (by simp) (by simp) (by simp))
          have DA := Lib.hid (hD.mod0 AC.out)
          have HA := Lib.hid (hst_own hH AC.out (by simp) (by simp))
          have MA := Lib.hid (hM.trans AC.out)
          have OP := Lib.hid hop
          have SH := Lib.hid hsh
          have DJ := Lib.hid hdj
          have IA := Lib.hid (IN.out.mod MA.out (Nat.le_refl _) (by simp))
          have hpd := dec_pend hC.dec
          have hle := (hC.buf.le).1
          have k0 := KB.out.cell (i := 0) rfl
          have k1 := KB.out.cell (i := 1) rfl
          have k2 := KB.out.cell (i := 2) rfl
          have m1 := DA.out.blk.cell (i := 1) rfl
          have m3 := DA.out.blk.cell (i := 3) rfl
          have h0 := HA.out.1.cell (i := 0) rfl
          have hwz := VB.out.2.2.2
          have hd400 : data.length ≤ 400 := by omega
          clear hC hD hop hsh hH hdj hM y0 y1 y2
          have hk : kd = 0 ∨ kd = 1 ∨ kd = 2 ∨ kd = 3 := by omega
          clear hk4
          rcases hk with rfl | rfl | rfl | rfl
          · go_wp2_with fail
            cases opn with
            | false => as_aux_lemma =>
              refine (mdl_shut DA.out x data.length cx R N).mono ?_
              rintro e w5 ⟨rfl, rfl⟩
              go_wp2_with fail
              refine (accept_no CA.out x data.length cx _).mono ?_
              rintro e w6 ⟨rfl, rfl⟩
              go_wp2_with fail
              refine wp_loop_once ?_
              go_wp2_with fail
              go_meet
              case rel => exact ⟨rfl, s, false, er, dr, .slice av s.reqs.length cv, vi, .slice ao s.out.length co, inn, by omega, CA.out, DA.out, fun h => (by cases h), fun _ => SH.out trivial, HA.out, DJ.out, MA.out⟩
            | true => as_aux_lemma =>
              obtain ⟨hdr, her, hinn⟩ := OP.out rfl
              subst hdr
              have DA' : Hid (Mdl (wr.alloc (.cells #[.int .i64 kind, .int .i64 n, .slice x data.length cx] 59)) mb (mb + 2) vi (.slice ao s.out.length co) inn s.out (decide (s.err ≠ 0)) true) := Lib.hid (by have := DA.out; rw [her] at this; exact this)
              have HRUN := Lib.hid (crun_reqs (rules := R) (N := N) data ⟨s.pend, s.err, s.out, []⟩ s.reqs)
              clear OP SH her
              refine (mdl_any (K := w.heap.size) ⟨s.pend, s.err, s.out, []⟩ DA'.out hinn rfl (by show s.pend.length ≤ 100; omega) hle (by omega) (by omega) IA.out hK.2.2.2).mono ?_
              rintro e w5 ⟨vl, vi5, vo5, inn5, rfl, hL5, hD5, hi5, hM5, hvi5, hvo5⟩
              have hle2 := crun_le (rules := R) (N := N) data ⟨s.pend, s.err, s.out, []⟩
              have hrr := reqs_run (rules := R) (N := N) data ⟨s.pend, s.err, s.out, []⟩
              obtain ⟨⟨nn, s'⟩, hr⟩ : ∃ r, crun R N ⟨s.pend, s.err, s.out, []⟩ data = r := ⟨_, rfl⟩
              rw [hr] at hL5 hD5 hi5 hle2 hrr ⊢
              have HRUN' : Hid (crun R N s data = (nn, ⟨s'.pend, s'.err, s'.out, s.reqs ++ s'.reqs⟩)) := Lib.hid (by have h := HRUN.out; rw [hr] at h; simpa using h)
              simp only [List.length_nil, Nat.zero_add] at hle2 hrr
              simp only at hL5 hD5 hi5
              obtain ⟨al, cl, rfl⟩ := hL5.slice
              obtain ⟨ao5, co5, rfl, -, -⟩ := hD5.fo.slice
              clear HRUN hr m1 m3 hinn
              have zA : (wr.alloc (.cells #[.int .i64 kind, .int .i64 n, .slice x data.length cx] 59)).heap.size = wr.heap.size + 1 := by simp
              have hz5 := hM5.size
              rw [zA] at hz5
              have vB : Hid (∀ b, vi5.ownBlock = some b → (mb + 2 ≤ b ∧ b < w5.heap.size) ∧ (Value.slice av s.reqs.length cv).ownBlock ≠ some b) := Lib.hid (fun b hb => ⟨hD5.fi.lt b hb, fun h => (hvi5 b hb).elim (fun e => (DJ.out b h).1 e) (fun e => by have := (VB.out.1 b h).2; rw [zA] at e; omega)⟩)
              have oB : Hid (∀ b, (Value.slice ao5 s'.out.length co5).ownBlock = some b → (mb + 2 ≤ b ∧ b < w5.heap.size) ∧ (Value.slice av s.reqs.length cv).ownBlock ≠ some b) := Lib.hid (fun b hb => ⟨hD5.fo.lt b hb, fun h => (hvo5 b hb).elim (fun e => (DJ.out b h).2 e) (fun e => by have := (VB.out.1 b h).2; rw [zA] at e; omega)⟩)
              have lB : Hid (∀ b, (Value.slice al s'.reqs.length cl).ownBlock = some b → (wr.heap.size + 1 ≤ b ∧ b < w5.heap.size) ∧ (Value.slice av s.reqs.length cv).ownBlock ≠ some b) := Lib.hid (fun b hb => by have h1 := hL5.lt b hb; rw [zA] at h1; exact ⟨h1, fun h => by have := (VB.out.1 b h).2; omega⟩)
              have S5 : Hid (∀ b, b ∈ (mb :: (Value.slice ao s.out.length co).ownBlock.toList) → b = mb ∨ (mb + 2 ≤ b ∧ b < wr.heap.size ∧ (Value.slice av s.reqs.length cv).ownBlock ≠ some b)) := Lib.hid (fun b hb => by
                rcases List.mem_cons.1 hb with h | h
                · exact .inl h
                · have h' : (Value.slice ao s.out.length co).ownBlock = some b := by simpa using h
                  exact .inr ⟨(VB.out.2.2.1 b h').1, (VB.out.2.2.1 b h').2, fun e => (DJ.out b e).2 h'⟩)
              have C5 := Lib.hid (CA.out.mod hM5 (fun h => by rcases S5.out _ h with h | h <;> omega) (fun h => by rcases S5.out _ h with h | h <;> omega) (fun h => by rcases S5.out _ h with h | h <;> omega))
              have H5 := Lib.hid (hst_own HA.out hM5 (fun h => by rcases S5.out _ h with h | h <;> omega) (fun b hb h => by rcases S5.out _ h with h | h; (have := (VB.out.1 b hb).1; omega); exact h.2.2 hb))
              have I5 := Lib.hid (IA.out.mod hM5 (by rw [zA]; omega) (fun b h => by rcases S5.out _ h with h | h <;> omega))
              have M5 := Lib.hid (MA.out.trans' hM5 (fun b h => .inr (by rcases S5.out _ h with h | h <;> omega)))
              have D5 := Lib.hid hD5
              have L5 := Lib.hid hL5
              have IN5 := Lib.hid hi5
              have KB5 := Lib.hid (hM5.blk KB.out (fun h => by rcases S5.out _ h with h | h <;> omega))
              have k2' := KB5.out.cell (i := 2) rfl
              clear hM5 hD5 hL5 hi5 hvi5 hvo5 k0 k1 k2 h0
              go_wp2_with fail
              refine (accept_any (K := w.heap.size) (hb := mb + 1) (B := mb + 2) s C5.out H5.out (by omega) (by omega) (by omega) (by omega) I5.out (by omega)).mono ?_
              rintro e w6 ⟨v6, rfl, hC6, hH6, hM6, hat6⟩
              rw [HRUN'.out] at hC6 hH6 ⊢
              simp only at hC6 hH6
              obtain ⟨av6, cv6, rfl⟩ := hH6.2.1.slice
              rw [List.length_append] at hH6 hat6
              have S6 : Hid (∀ b, b ∈ (g :: p :: d :: (mb + 1) :: (Value.slice av s.reqs.length cv).ownBlock.toList) → (w.heap.size ≤ b ∧ (b < mb ∨ b = mb + 1)) ∨ (mb + 2 ≤ b ∧ (Value.slice av s.reqs.length cv).ownBlock = some b)) := Lib.hid (fun b hb => by
                simp only [List.mem_cons] at hb
                rcases hb with h | h | h | h | h
                · omega
                · omega
                · omega
                · omega
                · have h' : (Value.slice av s.reqs.length cv).ownBlock = some b := by simpa using h
                  exact .inr ⟨(VB.out.1 b h').1, h'⟩)
              have D6 := Lib.hid (D5.out.mod hM6 (fun h => by rcases S6.out _ h with h | h <;> omega) (fun b hb h => by rcases S6.out _ h with h | h; (have := (vB.out b hb).1.1; omega); exact (vB.out b hb).2 h.2) (fun b hb h => by rcases S6.out _ h with h | h; (have := (oB.out b hb).1.1; omega); exact (oB.out b hb).2 h.2))
              have L6 : Hid (OwnQ w6 (wr.heap.size + 1) (.slice al s'.reqs.length cl) s'.reqs) := Lib.hid (hM6.own (by have := L5.out; rw [zA] at this; exact this) (fun b hb h => by rcases S6.out _ h with h | h; (have := (lB.out b hb).1.1; omega); exact (lB.out b hb).2 h.2))
              have M6 := Lib.hid (M5.out.trans' hM6 (fun b h => .inr (by rcases S6.out _ h with h | h <;> omega)))
              have C6 := Lib.hid hC6
              have H6 := Lib.hid hH6
              have AT6 := Lib.hid hat6
              have h6 := hH6.1.cell (i := 0) rfl
              have hsub : ((s.reqs.length : Int) + s'.reqs.length - s.reqs.length) = (s'.reqs.length : Int) := by omega
              clear hC6 hH6 hM6 hat6 k2'
              go_wp2_with fail
              have hs400 : s'.reqs.length ≤ 400 := by omega
              go_loopw [99] (fun i wi => ∃ k : Nat, k ≤ s'.reqs.length ∧ i = .int .i64 k ∧ Mod [] w6 wi) (fun i _ => s'.reqs.length - (intOf i).toNat)
              case atStart => exact ⟨0, Nat.zero_le _, rfl, Mod.refl [] w6⟩
              case round =>
                obtain ⟨k, hk, rfl, hMi⟩ := hrel
                have MI := Lib.hid hMi
                by_cases hkl : k < s'.reqs.length
                · obtain ⟨q, hq⟩ : ∃ q, s'.reqs[k]? = some q := ⟨_, List.getElem?_eq_getElem hkl⟩
                  have hq2 : (s.reqs ++ s'.reqs)[s.reqs.length + k]? = some q := by rw [List.getElem?_append_right (by omega), Nat.add_sub_cancel_left]; exact hq
                  have hne1 : s'.reqs ≠ [] := fun h => by rw [h] at hkl; simp at hkl
                  have hne2 : s.reqs ++ s'.reqs ≠ [] := fun h => hne1 (List.append_eq_nil_iff.1 h).2
                  obtain ⟨g7, cap7, hv7, -, hlt7, -, -, hx7⟩ := L6.out.at hne1
                  obtain ⟨g8, cap8, hv8, -, hlt8, -, -, hx8⟩ := H6.out.2.1.at hne2
                  rw [List.length_append] at hv8
                  injection hv7 with e1 e2 e3
                  subst e1; subst e3
                  injection hv8 with e4 e5 e6
                  subst e4; subst e6
                  have hy := fun j u h => (MI.out.cell hlt7 (by simp)).trans (hx7 k q hq j u h)
                  have hy2 := fun j u h => (MI.out.cell hlt8 (by simp)).trans (hx8 _ q hq2 j u h)
                  have y0 := hy 0 _ rfl
                  have y1 := hy 1 _ rfl
                  have y2 := hy 2 _ rfl
                  have y3 := hy 3 _ rfl
                  have y4 := hy 4 _ rfl
                  have v0 := hy2 0 _ rfl
                  have v1 := hy2 1 _ rfl
                  have v2 := hy2 2 _ rfl
                  have v3 := hy2 3 _ rfl
                  have v4 := hy2 4 _ rfl
                  have h6' := (MI.out.cell (H6.out.1.lt) (by simp)).trans h6
                  clear hx7 hx8 hy hy2 hq hq2 hne1 hne2 e2 e5 hMi h6
                  obtain ⟨op, rule, cost, key, kk⟩ := q
                  simp only [Nat.add_zero] at y0 y1 y2 y3 y4 v0 v1 v2 v3 v4
                  go_wp2_with fail
                  refine wp_region_lex (by kernel_rfl) (by kernel_rfl) ?_
                  go_wp2_with fail
                  refine ⟨by kernel_rfl, ?_⟩
                  go_wp2_with fail
                  go_roundw
                  case rel => exact ⟨k + 1, by omega, by go_num, MI.out.drew⟩
                  case measure => simp [intOf]; omega
                · obtain rfl : k = s'.reqs.length := by omega
                  clear hMi h6
                  go_wp2_with fail
                  go_meet
                  case rel => exact ⟨rfl, ⟨s'.pend, s'.err, s'.out, s.reqs ++ s'.reqs⟩, true, _, R, _, _, _, _, by rw [List.length_append]; omega, C6.out.mod MI.out (by simp) (by simp) (by simp), D6.out.mod0 MI.out, fun _ => ⟨rfl, rfl, IN5.out⟩, fun h => (by cases h), hst_own H6.out MI.out (by simp) (by simp), fun b hb => (AT6.out b hb).elim (fun h => ⟨fun e => (vB.out b e).2 h, fun e => (oB.out b e).2 h⟩) (fun h => ⟨fun e => by have := (vB.out b e).1.2; omega, fun e => by have := (oB.out b e).1.2; omega⟩), M6.out.trans MI.out⟩
          · obtain ⟨m, hm⟩ : ∃ m : Nat, (m : Int) = min (max n 0) s.out.length := ⟨(min (max n 0) (s.out.length : Int)).toNat, by omega⟩
            have hml : m ≤ s.out.length := by omega
            have hmx : ∀ w : World, (Builtin.max_ #[3, 3] 3 #[.int .i64 n, .int .i64 0]).run Try.prog w = .ok (.int .i64 (max n 0)) w := fun w => by
              show Result.ok (Value.int .i64 (if 0 > n then 0 else n)) w = _
              congr 2; omega
            have hmn : ∀ w : World, (Builtin.min_ #[3, 3] 3 #[.int .i64 (max n 0), .int .i64 s.out.length]).run Try.prog w = .ok (.int .i64 m) w := fun w => by
              show Result.ok (Value.int .i64 (if (s.out.length : Int) < max n 0 then (s.out.length : Int) else max n 0)) w = _
              congr 2; omega
            have HM := Lib.hid hm
            obtain ⟨a9, c9, e0, hlc, hcm⟩ := DA.out.fo.slice
            injection e0 with e1 e2 e3
            rw [← e3] at hlc hcm
            unfold maxLen at hcm
            have hmc : m ≤ co := by omega
            have hso : s.out.length ≤ 1000 := by omega
            have f1 := DA.out.blk.free 1
            clear hm k0 k2 h0 e1 e2 e3
            go_wp2_with fail
            refine wp_region_lex (by kernel_rfl) (by kernel_rfl) ?_
            go_wp2_with fail
            refine ⟨by kernel_rfl, ?_⟩
            clear hmx hmn
            have TK := Lib.hid (DA.out.fo.take (n := m) hml)
            have hkb : ¬ wr.heap.size = mb := by omega
            have hkb' : ¬ mb = wr.heap.size := by omega
            rcases DA.out.fo with ⟨h0, he⟩ | ⟨gg, of, cap9, cur, h0, hg1, hg2, hg3, hg4, hg5, hg6⟩
            · injection h0 with e1 e2 e3
              subst e1; subst e3
              obtain ⟨sp, se, so, sr⟩ := s
              dsimp only at *
              subst he
              have hm0 : m = 0 := by simpa using hml
              subst hm0
              simp only [List.length_nil] at *
              have CU := Lib.hid (OwnO.nil (wr.alloc (.cells #[.int .i64 kind, .int .i64 n, .slice x data.length cx] 59)) (mb + 2))
              cases opn with
              | false => as_aux_lemma =>
                have MS := Lib.hid ((Mod.refl [mb] (wr.alloc (.cells #[.int .i64 kind, .int .i64 n, .slice x data.length cx] 59))).setCell (p := ⟨mb, 1, none⟩) (.inl (by simp)) (Value.slice none 0 0))
                have NB : Hid (∀ b, (Value.slice none 0 0).ownBlock = some b → (Value.slice none 0 0).ownBlock = some b) := Lib.hid (fun b hb => by cases hb)
                have hmk : ∀ b, mb + 2 ≤ b → b ∉ [mb] := fun b h => by simp; omega
                have D7 : Hid (Mdl ((wr.alloc (.cells #[.int .i64 kind, .int .i64 n, .slice x data.length cx] 59)).setCell ⟨mb, 1, none⟩ (Value.slice none 0 0)) mb (mb + 2) vi (Value.slice none 0 0) inn (([] : List UInt8).drop 0) er false) := Lib.hid ⟨DA.out.blk.set 1 _, MS.out.own DA.out.fi (fun b hb => hmk b (VB.out.2.1 b hb).1), DA.out.fz, CU.out.mod MS.out (fun b hb => hmk b (VB.out.2.2.1 b (NB.out b hb)).1), fun b h1 h2 => DA.out.dj b h1 (NB.out b h2), by omega, by have := DA.out.le; simpa using this⟩
                have TK7 := Lib.hid (TK.out.mod MS.out (fun b hb => hmk b (VB.out.2.2.1 b hb).1))
                have C7 := Lib.hid (CA.out.mod MS.out (by simp; omega) (by simp; omega) (by simp; omega))
                have H7 := Lib.hid (hst_own HA.out MS.out (by simp) (fun b hb => hmk b (VB.out.1 b hb).1))
                have W7 := Lib.hid (MA.out.trans' MS.out (fun b hb => .inr (by simp at hb; omega)))
                go_wp2_with fail
                refine wp_region_held [4] [6] [] (by kernel_rfl) (by kernel_rfl) ?_
                simp only [wpCut, List.take_succ_cons, List.take_zero, List.drop_succ_cons, List.drop_zero]
                go_wp2_with fail
                refine (drain_no (C7.out.mod (Mod.drew (Mod.drew (Mod.refl [] _))) (by simp) (by simp) (by simp)) n).mono ?_
                rintro e w8 ⟨rfl, rfl⟩
                have cv1 := run_str (P := Try.prog) (bs := []) (Sl.nil ((wr.alloc (.cells #[.int .i64 kind, .int .i64 n, .slice x data.length cx] 59)).setCell ⟨mb, 1, none⟩ (Value.slice none 0 0)).drew.drew none 0) Try.underlying22 Try.underlying5 Try.underlying9
                go_wp2_with fail
                refine ⟨Mod.refl [] _, ?_⟩
                go_wp2_with fail
                refine ⟨by kernel_rfl, ⟨trivial, trivial⟩, ?_⟩
                go_wp2_with fail
                go_meet
                case rel =>
                  have hdm : ([] : List UInt8).drop 0 = ([] : List UInt8) := by rfl
                  exact ⟨rfl, ⟨sp, se, ([] : List UInt8).drop 0, sr⟩, false, er, dr, _, _, _, _, by show sr.length ≤ _; omega, by show Con _ _ _ _ _ _ _ _ _ (([] : List UInt8).drop 0) _; rw [hdm]; exact C7.out.mod (Mod.drew (Mod.drew (Mod.refl [] _))) (by simp) (by simp) (by simp), D7.out.mod0 (Mod.drew (Mod.drew (Mod.refl [] _))), fun h => (by cases h), fun _ => (by show ([] : List UInt8).drop 0 = []; exact hdm), hst_own H7.out (Mod.drew (Mod.drew (Mod.refl [] _))) (by simp) (by simp), fun b hb => ⟨(DJ.out b hb).1, fun h => (DJ.out b hb).2 (NB.out b h)⟩, W7.out.drew.drew⟩
              | true => as_aux_lemma =>
                obtain ⟨hdr, her, hinn⟩ := OP.out rfl
                subst hdr
                have MS := Lib.hid ((Mod.refl [mb] (wr.alloc (.cells #[.int .i64 kind, .int .i64 n, .slice x data.length cx] 59))).setCell (p := ⟨mb, 1, none⟩) (.inl (by simp)) (Value.slice none 0 0))
                have NB : Hid (∀ b, (Value.slice none 0 0).ownBlock = some b → (Value.slice none 0 0).ownBlock = some b) := Lib.hid (fun b hb => by cases hb)
                have hmk : ∀ b, mb + 2 ≤ b → b ∉ [mb] := fun b h => by simp; omega
                have D7 : Hid (Mdl ((wr.alloc (.cells #[.int .i64 kind, .int .i64 n, .slice x data.length cx] 59)).setCell ⟨mb, 1, none⟩ (Value.slice none 0 0)) mb (mb + 2) vi (Value.slice none 0 0) inn (([] : List UInt8).drop 0) er true) := Lib.hid ⟨DA.out.blk.set 1 _, MS.out.own DA.out.fi (fun b hb => hmk b (VB.out.2.1 b hb).1), DA.out.fz, CU.out.mod MS.out (fun b hb => hmk b (VB.out.2.2.1 b (NB.out b hb)).1), fun b h1 h2 => DA.out.dj b h1 (NB.out b h2), by omega, by have := DA.out.le; simpa using this⟩
                have TK7 := Lib.hid (TK.out.mod MS.out (fun b hb => hmk b (VB.out.2.2.1 b hb).1))
                have C7 := Lib.hid (CA.out.mod MS.out (by simp; omega) (by simp; omega) (by simp; omega))
                have H7 := Lib.hid (hst_own HA.out MS.out (by simp) (fun b hb => hmk b (VB.out.1 b hb).1))
                have W7 := Lib.hid (MA.out.trans' MS.out (fun b hb => .inr (by simp at hb; omega)))
                go_wp2_with fail
                refine wp_region_held [4] [6] [p, d] (by kernel_rfl) (by kernel_rfl) ?_
                simp only [wpCut, List.take_succ_cons, List.take_zero, List.drop_succ_cons, List.drop_zero]
                go_wp2_with fail
                refine (drain_yes (C7.out.mod (Mod.drew (Mod.drew (Mod.refl [] _))) (by simp) (by simp) (by simp)) n 0 HM.out).mono ?_
                rintro e w8 ⟨v8, rfl, hO8, hC8, hM8⟩
                obtain ⟨a8, c8, rfl⟩ := hO8.slice
                have tk : (([] : List UInt8).take 0).length = 0 := by simp; try omega
                rw [tk] at hO8 ⊢
                have M8 := Lib.hid hM8
                have T8 := (TK7.out.mod (Mod.drew (Mod.drew (Mod.refl [] _))) (by simp)).mod hM8 (fun b hb => by have := (VB.out.2.2.1 b hb).1; simp; omega)
                have D8 := Lib.hid ((D7.out.mod0 (Mod.drew (Mod.drew (Mod.refl [] _)))).mod hM8 (by simp; omega) (fun b hb => by have := (VB.out.2.1 b hb).1; simp; omega) (fun b hb => by have := (VB.out.2.2.1 b (NB.out b hb)).1; simp; omega))
                have H8 := Lib.hid (hst_own (hst_own H7.out (Mod.drew (Mod.drew (Mod.refl [] _))) (by simp) (by simp)) hM8 (by simp; omega) (fun b hb => by have := (VB.out.1 b hb).1; simp; omega))
                have W8 := Lib.hid ((W7.out.drew.drew).trans' hM8 (fun b hb => .inr (by simp at hb; omega)))
                have C8 := Lib.hid hC8
                have cv2 := run_str (P := Try.prog) T8.sl Try.underlying22 Try.underlying5 Try.underlying9
                have cv1 := own_str (P := Try.prog) hO8 Try.underlying22 Try.underlying5 Try.underlying9
                clear hC8 hM8 hO8 T8
                go_wp2_with fail
                refine ⟨M8.out, ?_⟩
                go_wp2_with fail
                refine ⟨by kernel_rfl, ⟨held_own TK7.out rfl (fun b hb => by have := (VB.out.2.2.1 b hb).1; simp; omega), trivial⟩, ?_⟩
                go_wp2_with fail
                go_meet
                case rel => exact ⟨rfl, ⟨sp, se, ([] : List UInt8).drop 0, sr⟩, true, er, R, _, _, _, _, by show sr.length ≤ _; omega, C8.out, D8.out, fun _ => ⟨rfl, her, hinn⟩, fun h => (by cases h), H8.out, fun b hb => ⟨(DJ.out b hb).1, fun h => (DJ.out b hb).2 (NB.out b h)⟩, W8.out⟩
            · injection h0 with e1 e2 e3
              subst e1
              have hgl : gg < wr.heap.size + 1 := by have := lt_of_some hg2; simpa using this
              clear e2 e3 hg2 hg3 hg4 hg5 hg6
              by_cases hcap : co = m
              · subst hcap
                have CU := Lib.hid (DA.out.fo.cut0 (n := co) hml)
                rw [Nat.sub_self, show s.out.length - co = 0 by omega] at CU
                cases opn with
                | false => as_aux_lemma =>
                  have HO := Lib.hid (SH.out rfl)
                  have MS := Lib.hid ((Mod.refl [mb] (wr.alloc (.cells #[.int .i64 kind, .int .i64 n, .slice x data.length cx] 59))).setCell (p := ⟨mb, 1, none⟩) (.inl (by simp)) (Value.slice (some ⟨gg, of, none⟩) 0 0))
                  have NB : Hid (∀ b, (Value.slice (some ⟨gg, of, none⟩) 0 0).ownBlock = some b → (Value.slice (some (⟨gg, of, none⟩ : Addr)) s.out.length co).ownBlock = some b) := Lib.hid (fun b hb => by exact hb)
                  have hmk : ∀ b, mb + 2 ≤ b → b ∉ [mb] := fun b h => by simp; omega
                  have D7 : Hid (Mdl ((wr.alloc (.cells #[.int .i64 kind, .int .i64 n, .slice x data.length cx] 59)).setCell ⟨mb, 1, none⟩ (Value.slice (some ⟨gg, of, none⟩) 0 0)) mb (mb + 2) vi (Value.slice (some ⟨gg, of, none⟩) 0 0) inn (s.out.drop co) er false) := Lib.hid ⟨DA.out.blk.set 1 _, MS.out.own DA.out.fi (fun b hb => hmk b (VB.out.2.1 b hb).1), DA.out.fz, CU.out.mod MS.out (fun b hb => hmk b (VB.out.2.2.1 b (NB.out b hb)).1), fun b h1 h2 => DA.out.dj b h1 (NB.out b h2), by omega, by have := DA.out.le; simpa using this⟩
                  have TK7 := Lib.hid (TK.out.mod MS.out (fun b hb => hmk b (VB.out.2.2.1 b hb).1))
                  have C7 := Lib.hid (CA.out.mod MS.out (by simp; omega) (by simp; omega) (by simp; omega))
                  have H7 := Lib.hid (hst_own HA.out MS.out (by simp) (fun b hb => hmk b (VB.out.1 b hb).1))
                  have W7 := Lib.hid (MA.out.trans' MS.out (fun b hb => .inr (by simp at hb; omega)))
                  go_wp2_with fail
                  refine wp_region_held [4] [6] [] (by kernel_rfl) (by kernel_rfl) ?_
                  simp only [wpCut, List.take_succ_cons, List.take_zero, List.drop_succ_cons, List.drop_zero]
                  go_wp2_with fail
                  refine (drain_no (C7.out.mod (Mod.drew (Mod.drew (Mod.refl [] _))) (by simp) (by simp) (by simp)) n).mono ?_
                  rintro e w8 ⟨rfl, rfl⟩
                  have cv1 := run_str (P := Try.prog) (bs := []) (Sl.nil ((wr.alloc (.cells #[.int .i64 kind, .int .i64 n, .slice x data.length cx] 59)).setCell ⟨mb, 1, none⟩ (Value.slice (some ⟨gg, of, none⟩) 0 0)).drew.drew none 0) Try.underlying22 Try.underlying5 Try.underlying9
                  go_wp2_with fail
                  refine ⟨Mod.refl [] _, ?_⟩
                  go_wp2_with fail
                  refine ⟨by kernel_rfl, ⟨trivial, trivial⟩, ?_⟩
                  go_wp2_with fail
                  go_meet
                  case rel =>
                    have hdm : s.out.drop co = s.out := by rw [HO.out]; simp
                    exact ⟨rfl, ⟨s.pend, s.err, s.out.drop co, s.reqs⟩, false, er, dr, _, _, _, _, by show s.reqs.length ≤ _; omega, by show Con _ _ _ _ _ _ _ _ _ (s.out.drop co) _; rw [hdm]; exact C7.out.mod (Mod.drew (Mod.drew (Mod.refl [] _))) (by simp) (by simp) (by simp), D7.out.mod0 (Mod.drew (Mod.drew (Mod.refl [] _))), fun h => (by cases h), fun _ => (by show s.out.drop co = []; rw [hdm, HO.out]), hst_own H7.out (Mod.drew (Mod.drew (Mod.refl [] _))) (by simp) (by simp), fun b hb => ⟨(DJ.out b hb).1, fun h => (DJ.out b hb).2 (NB.out b h)⟩, W7.out.drew.drew⟩
                | true => as_aux_lemma =>
                  obtain ⟨hdr, her, hinn⟩ := OP.out rfl
                  subst hdr
                  have MS := Lib.hid ((Mod.refl [mb] (wr.alloc (.cells #[.int .i64 kind, .int .i64 n, .slice x data.length cx] 59))).setCell (p := ⟨mb, 1, none⟩) (.inl (by simp)) (Value.slice (some ⟨gg, of, none⟩) 0 0))
                  have NB : Hid (∀ b, (Value.slice (some ⟨gg, of, none⟩) 0 0).ownBlock = some b → (Value.slice (some (⟨gg, of, none⟩ : Addr)) s.out.length co).ownBlock = some b) := Lib.hid (fun b hb => by exact hb)
                  have hmk : ∀ b, mb + 2 ≤ b → b ∉ [mb] := fun b h => by simp; omega
                  have D7 : Hid (Mdl ((wr.alloc (.cells #[.int .i64 kind, .int .i64 n, .slice x data.length cx] 59)).setCell ⟨mb, 1, none⟩ (Value.slice (some ⟨gg, of, none⟩) 0 0)) mb (mb + 2) vi (Value.slice (some ⟨gg, of, none⟩) 0 0) inn (s.out.drop co) er true) := Lib.hid ⟨DA.out.blk.set 1 _, MS.out.own DA.out.fi (fun b hb => hmk b (VB.out.2.1 b hb).1), DA.out.fz, CU.out.mod MS.out (fun b hb => hmk b (VB.out.2.2.1 b (NB.out b hb)).1), fun b h1 h2 => DA.out.dj b h1 (NB.out b h2), by omega, by have := DA.out.le; simpa using this⟩
                  have TK7 := Lib.hid (TK.out.mod MS.out (fun b hb => hmk b (VB.out.2.2.1 b hb).1))
                  have C7 := Lib.hid (CA.out.mod MS.out (by simp; omega) (by simp; omega) (by simp; omega))
                  have H7 := Lib.hid (hst_own HA.out MS.out (by simp) (fun b hb => hmk b (VB.out.1 b hb).1))
                  have W7 := Lib.hid (MA.out.trans' MS.out (fun b hb => .inr (by simp at hb; omega)))
                  go_wp2_with fail
                  refine wp_region_held [4] [6] [p, d] (by kernel_rfl) (by kernel_rfl) ?_
                  simp only [wpCut, List.take_succ_cons, List.take_zero, List.drop_succ_cons, List.drop_zero]
                  go_wp2_with fail
                  refine (drain_yes (C7.out.mod (Mod.drew (Mod.drew (Mod.refl [] _))) (by simp) (by simp) (by simp)) n co HM.out).mono ?_
                  rintro e w8 ⟨v8, rfl, hO8, hC8, hM8⟩
                  obtain ⟨a8, c8, rfl⟩ := hO8.slice
                  have tk : (s.out.take co).length = co := by simp; try omega
                  rw [tk] at hO8 ⊢
                  have M8 := Lib.hid hM8
                  have T8 := (TK7.out.mod (Mod.drew (Mod.drew (Mod.refl [] _))) (by simp)).mod hM8 (fun b hb => by have := (VB.out.2.2.1 b hb).1; simp; omega)
                  have D8 := Lib.hid ((D7.out.mod0 (Mod.drew (Mod.drew (Mod.refl [] _)))).mod hM8 (by simp; omega) (fun b hb => by have := (VB.out.2.1 b hb).1; simp; omega) (fun b hb => by have := (VB.out.2.2.1 b (NB.out b hb)).1; simp; omega))
                  have H8 := Lib.hid (hst_own (hst_own H7.out (Mod.drew (Mod.drew (Mod.refl [] _))) (by simp) (by simp)) hM8 (by simp; omega) (fun b hb => by have := (VB.out.1 b hb).1; simp; omega))
                  have W8 := Lib.hid ((W7.out.drew.drew).trans' hM8 (fun b hb => .inr (by simp at hb; omega)))
                  have C8 := Lib.hid hC8
                  have cv2 := run_str (P := Try.prog) T8.sl Try.underlying22 Try.underlying5 Try.underlying9
                  have cv1 := own_str (P := Try.prog) hO8 Try.underlying22 Try.underlying5 Try.underlying9
                  clear hC8 hM8 hO8 T8
                  go_wp2_with fail
                  refine ⟨M8.out, ?_⟩
                  go_wp2_with fail
                  refine ⟨by kernel_rfl, ⟨held_own TK7.out rfl (fun b hb => by have := (VB.out.2.2.1 b hb).1; simp; omega), trivial⟩, ?_⟩
                  go_wp2_with fail
                  go_meet
                  case rel => exact ⟨rfl, ⟨s.pend, s.err, s.out.drop co, s.reqs⟩, true, er, R, _, _, _, _, by show s.reqs.length ≤ _; omega, C8.out, D8.out, fun _ => ⟨rfl, her, hinn⟩, fun h => (by cases h), H8.out, fun b hb => ⟨(DJ.out b hb).1, fun h => (DJ.out b hb).2 (NB.out b h)⟩, W8.out⟩
              · have CU := Lib.hid (DA.out.fo.cut (n := m) hml (fun h => hcap h.symm))
                simp only [Option.map, add_eq] at CU
                cases opn with
                | false => as_aux_lemma =>
                  have HO := Lib.hid (SH.out rfl)
                  have MS := Lib.hid ((Mod.refl [mb] (wr.alloc (.cells #[.int .i64 kind, .int .i64 n, .slice x data.length cx] 59))).setCell (p := ⟨mb, 1, none⟩) (.inl (by simp)) (Value.slice (some ⟨gg, of + m, none⟩) (s.out.length - m) (co - m)))
                  have NB : Hid (∀ b, (Value.slice (some ⟨gg, of + m, none⟩) (s.out.length - m) (co - m)).ownBlock = some b → (Value.slice (some (⟨gg, of, none⟩ : Addr)) s.out.length co).ownBlock = some b) := Lib.hid (fun b hb => by exact hb)
                  have hmk : ∀ b, mb + 2 ≤ b → b ∉ [mb] := fun b h => by simp; omega
                  have D7 : Hid (Mdl ((wr.alloc (.cells #[.int .i64 kind, .int .i64 n, .slice x data.length cx] 59)).setCell ⟨mb, 1, none⟩ (Value.slice (some ⟨gg, of + m, none⟩) (s.out.length - m) (co - m))) mb (mb + 2) vi (Value.slice (some ⟨gg, of + m, none⟩) (s.out.length - m) (co - m)) inn (s.out.drop m) er false) := Lib.hid ⟨DA.out.blk.set 1 _, MS.out.own DA.out.fi (fun b hb => hmk b (VB.out.2.1 b hb).1), DA.out.fz, CU.out.mod MS.out (fun b hb => hmk b (VB.out.2.2.1 b (NB.out b hb)).1), fun b h1 h2 => DA.out.dj b h1 (NB.out b h2), by omega, by have := DA.out.le; simpa using this⟩
                  have TK7 := Lib.hid (TK.out.mod MS.out (fun b hb => hmk b (VB.out.2.2.1 b hb).1))
                  have C7 := Lib.hid (CA.out.mod MS.out (by simp; omega) (by simp; omega) (by simp; omega))
                  have H7 := Lib.hid (hst_own HA.out MS.out (by simp) (fun b hb => hmk b (VB.out.1 b hb).1))
                  have W7 := Lib.hid (MA.out.trans' MS.out (fun b hb => .inr (by simp at hb; omega)))
                  go_wp2_with fail
                  refine wp_region_held [4] [6] [] (by kernel_rfl) (by kernel_rfl) ?_
                  simp only [wpCut, List.take_succ_cons, List.take_zero, List.drop_succ_cons, List.drop_zero]
                  go_wp2_with fail
                  refine (drain_no (C7.out.mod (Mod.drew (Mod.drew (Mod.refl [] _))) (by simp) (by simp) (by simp)) n).mono ?_
                  rintro e w8 ⟨rfl, rfl⟩
                  have cv1 := run_str (P := Try.prog) (bs := []) (Sl.nil ((wr.alloc (.cells #[.int .i64 kind, .int .i64 n, .slice x data.length cx] 59)).setCell ⟨mb, 1, none⟩ (Value.slice (some ⟨gg, of + m, none⟩) (s.out.length - m) (co - m))).drew.drew none 0) Try.underlying22 Try.underlying5 Try.underlying9
                  go_wp2_with fail
                  refine ⟨Mod.refl [] _, ?_⟩
                  go_wp2_with fail
                  refine ⟨by kernel_rfl, ⟨trivial, trivial⟩, ?_⟩
                  go_wp2_with fail
                  go_meet
                  case rel =>
                    have hdm : s.out.drop m = s.out := by rw [HO.out]; simp
                    exact ⟨rfl, ⟨s.pend, s.err, s.out.drop m, s.reqs⟩, false, er, dr, _, _, _, _, by show s.reqs.length ≤ _; omega, by show Con _ _ _ _ _ _ _ _ _ (s.out.drop m) _; rw [hdm]; exact C7.out.mod (Mod.drew (Mod.drew (Mod.refl [] _))) (by simp) (by simp) (by simp), D7.out.mod0 (Mod.drew (Mod.drew (Mod.refl [] _))), fun h => (by cases h), fun _ => (by show s.out.drop m = []; rw [hdm, HO.out]), hst_own H7.out (Mod.drew (Mod.drew (Mod.refl [] _))) (by simp) (by simp), fun b hb => ⟨(DJ.out b hb).1, fun h => (DJ.out b hb).2 (NB.out b h)⟩, W7.out.drew.drew⟩
                | true => as_aux_lemma =>
                  obtain ⟨hdr, her, hinn⟩ := OP.out rfl
                  subst hdr
                  have MS := Lib.hid ((Mod.refl [mb] (wr.alloc (.cells #[.int .i64 kind, .int .i64 n, .slice x data.length cx] 59))).setCell (p := ⟨mb, 1, none⟩) (.inl (by simp)) (Value.slice (some ⟨gg, of + m, none⟩) (s.out.length - m) (co - m)))
                  have NB : Hid (∀ b, (Value.slice (some ⟨gg, of + m, none⟩) (s.out.length - m) (co - m)).ownBlock = some b → (Value.slice (some (⟨gg, of, none⟩ : Addr)) s.out.length co).ownBlock = some b) := Lib.hid (fun b hb => by exact hb)
                  have hmk : ∀ b, mb + 2 ≤ b → b ∉ [mb] := fun b h => by simp; omega
                  have D7 : Hid (Mdl ((wr.alloc (.cells #[.int .i64 kind, .int .i64 n, .slice x data.length cx] 59)).setCell ⟨mb, 1, none⟩ (Value.slice (some ⟨gg, of + m, none⟩) (s.out.length - m) (co - m))) mb (mb + 2) vi (Value.slice (some ⟨gg, of + m, none⟩) (s.out.length - m) (co - m)) inn (s.out.drop m) er true) := Lib.hid ⟨DA.out.blk.set 1 _, MS.out.own DA.out.fi (fun b hb => hmk b (VB.out.2.1 b hb).1), DA.out.fz, CU.out.mod MS.out (fun b hb => hmk b (VB.out.2.2.1 b (NB.out b hb)).1), fun b h1 h2 => DA.out.dj b h1 (NB.out b h2), by omega, by have := DA.out.le; simpa using this⟩
                  have TK7 := Lib.hid (TK.out.mod MS.out (fun b hb => hmk b (VB.out.2.2.1 b hb).1))
                  have C7 := Lib.hid (CA.out.mod MS.out (by simp; omega) (by simp; omega) (by simp; omega))
                  have H7 := Lib.hid (hst_own HA.out MS.out (by simp) (fun b hb => hmk b (VB.out.1 b hb).1))
                  have W7 := Lib.hid (MA.out.trans' MS.out (fun b hb => .inr (by simp at hb; omega)))
                  go_wp2_with fail
                  refine wp_region_held [4] [6] [p, d] (by kernel_rfl) (by kernel_rfl) ?_
                  simp only [wpCut, List.take_succ_cons, List.take_zero, List.drop_succ_cons, List.drop_zero]
                  go_wp2_with fail
                  refine (drain_yes (C7.out.mod (Mod.drew (Mod.drew (Mod.refl [] _))) (by simp) (by simp) (by simp)) n m HM.out).mono ?_
                  rintro e w8 ⟨v8, rfl, hO8, hC8, hM8⟩
                  obtain ⟨a8, c8, rfl⟩ := hO8.slice
                  have tk : (s.out.take m).length = m := by simp; try omega
                  rw [tk] at hO8 ⊢
                  have M8 := Lib.hid hM8
                  have T8 := (TK7.out.mod (Mod.drew (Mod.drew (Mod.refl [] _))) (by simp)).mod hM8 (fun b hb => by have := (VB.out.2.2.1 b hb).1; simp; omega)
                  have D8 := Lib.hid ((D7.out.mod0 (Mod.drew (Mod.drew (Mod.refl [] _)))).mod hM8 (by simp; omega) (fun b hb => by have := (VB.out.2.1 b hb).1; simp; omega) (fun b hb => by have := (VB.out.2.2.1 b (NB.out b hb)).1; simp; omega))
                  have H8 := Lib.hid (hst_own (hst_own H7.out (Mod.drew (Mod.drew (Mod.refl [] _))) (by simp) (by simp)) hM8 (by simp; omega) (fun b hb => by have := (VB.out.1 b hb).1; simp; omega))
                  have W8 := Lib.hid ((W7.out.drew.drew).trans' hM8 (fun b hb => .inr (by simp at hb; omega)))
                  have C8 := Lib.hid hC8
                  have cv2 := run_str (P := Try.prog) T8.sl Try.underlying22 Try.underlying5 Try.underlying9
                  have cv1 := own_str (P := Try.prog) hO8 Try.underlying22 Try.underlying5 Try.underlying9
                  clear hC8 hM8 hO8 T8
                  go_wp2_with fail
                  refine ⟨M8.out, ?_⟩
                  go_wp2_with fail
                  refine ⟨by kernel_rfl, ⟨held_own TK7.out rfl (fun b hb => by have := (VB.out.2.2.1 b hb).1; simp; omega), trivial⟩, ?_⟩
                  go_wp2_with fail
                  go_meet
                  case rel => exact ⟨rfl, ⟨s.pend, s.err, s.out.drop m, s.reqs⟩, true, er, R, _, _, _, _, by show s.reqs.length ≤ _; omega, C8.out, D8.out, fun _ => ⟨rfl, her, hinn⟩, fun h => (by cases h), H8.out, fun b hb => ⟨(DJ.out b hb).1, fun h => (DJ.out b hb).2 (NB.out b h)⟩, W8.out⟩
          · clear k0 k1 k2 h0
            have hkb : ¬ wr.heap.size = mb := by omega
            have hkb' : ¬ mb = wr.heap.size := by omega
            cases opn with
            | false => as_aux_lemma =>
              have HO := Lib.hid (SH.out rfl)
              have ISC := Lib.hid (show IsC (wr.alloc (.cells #[.int .i64 kind, .int .i64 n, .slice x data.length cx] 59)).drew mb from isC_of_cell (w := (wr.alloc (.cells #[.int .i64 kind, .int .i64 n, .slice x data.length cx] 59)).drew) m3)
              go_wp2_with fail
              refine wp_region_held [2] [5] [g, p, d] (by kernel_rfl) (by kernel_rfl) ?_
              simp only [wpCut, List.take_succ_cons, List.take_zero, List.drop_succ_cons, List.drop_zero]
              go_wp2_with fail
              refine (open_yes (CA.out.mod (Mod.drew (Mod.refl [] _)) (by simp) (by simp) (by simp))).mono ?_
              rintro e w6 ⟨rfl, hC6, hM6⟩
              have hM6' := (Mod.drew (Mod.refl [g, p, d] (wr.alloc (.cells #[.int .i64 kind, .int .i64 n, .slice x data.length cx] 59)))).trans hM6
              have N6 := Lib.hid hM6
              have C6 := Lib.hid hC6
              have D6 := Lib.hid (DA.out.mod hM6' (by simp; omega) (fun b hb => by have := (VB.out.2.1 b hb).1; simp; omega) (fun b hb => by have := (VB.out.2.2.1 b hb).1; simp; omega))
              have H6 := Lib.hid (hst_own HA.out hM6' (by simp; omega) (fun b hb => by have := (VB.out.1 b hb).1; simp; omega))
              have W6 := Lib.hid (MA.out.trans' hM6' (fun b hb => .inr (by simp at hb; omega)))
              have n0 := D6.out.blk.cell (i := 0) rfl
              have n1 := D6.out.blk.cell (i := 1) rfl
              have n2 := D6.out.blk.cell (i := 2) rfl
              have n3 := D6.out.blk.cell (i := 3) rfl
              have f0 := D6.out.blk.free 0
              have f1 := D6.out.blk.free 1
              have f2 := D6.out.blk.free 2
              have f3 := D6.out.blk.free 3
              clear hC6 hM6 hM6' m1 m3
              go_wp2_with fail
              refine ⟨N6.out, ?_⟩
              go_wp2_with fail
              refine ⟨by kernel_rfl, ⟨⟨by simp; omega, ISC.out⟩, trivial⟩, ?_⟩
              go_wp2_with fail
              have MS : Hid (Mod [mb] (w6) ((((w6.setCell ⟨mb, 0, none⟩ (.slice none 0 0)).setCell ⟨mb, 1, none⟩ (.slice none 0 0)).setCell ⟨mb, 2, none⟩ (.bool false)).setCell ⟨mb, 3, none⟩ (.bool true))) := Lib.hid (((((Mod.refl [mb] w6).setCell (p := ⟨mb, 0, none⟩) (.inl (by simp)) (.slice none 0 0)).setCell (p := ⟨mb, 1, none⟩) (.inl (by simp)) (.slice none 0 0)).setCell (p := ⟨mb, 2, none⟩) (.inl (by simp)) (.bool false)).setCell (p := ⟨mb, 3, none⟩) (.inl (by simp)) (.bool true))
              go_meet
              case rel =>
                have hD : Mdl ((((w6.setCell ⟨mb, 0, none⟩ (.slice none 0 0)).setCell ⟨mb, 1, none⟩ (.slice none 0 0)).setCell ⟨mb, 2, none⟩ (.bool false)).setCell ⟨mb, 3, none⟩ (.bool true)) mb (mb + 2) (.slice none 0 0) (.slice none 0 0) [] [] false true := ⟨(((D6.out.blk.set 0 (.slice none 0 0)).set 1 (.slice none 0 0)).set 2 (.bool false)).set 3 (.bool true), World.ownsRow_nil _ _ _ _, fun _ => rfl, OwnO.nil _ _, fun b h => (by cases h), by omega, by have := D6.out.le; simpa using this⟩
                exact ⟨rfl, ⟨[], 0, [], s.reqs⟩, true, false, R, _, _, _, [], by show s.reqs.length ≤ _; omega, C6.out.mod MS.out (by simp; omega) (by simp; omega) (by simp; omega), hD, fun _ => ⟨rfl, rfl, fun _ => rfl⟩, fun h => (by cases h), hst_own H6.out MS.out (by simp) (fun b hb => by have := (VB.out.1 b hb).1; simp; omega), fun b hb => ⟨fun h => (by cases h), fun h => (by cases h)⟩, W6.out.trans' MS.out (fun b hb => .inr (by simp at hb; omega))⟩
            | true => as_aux_lemma =>
              obtain ⟨hdr, her, hinn⟩ := OP.out rfl
              subst hdr
              have ISC := Lib.hid (show IsC (wr.alloc (.cells #[.int .i64 kind, .int .i64 n, .slice x data.length cx] 59)).drew mb from isC_of_cell (w := (wr.alloc (.cells #[.int .i64 kind, .int .i64 n, .slice x data.length cx] 59)).drew) m3)
              go_wp2_with fail
              refine wp_region_held [2] [5] [] (by kernel_rfl) (by kernel_rfl) ?_
              simp only [wpCut, List.take_succ_cons, List.take_zero, List.drop_succ_cons, List.drop_zero]
              go_wp2_with fail
              refine (open_no (CA.out.mod (Mod.drew (Mod.refl [] _)) (by simp) (by simp) (by simp))).mono ?_
              rintro e w6 ⟨rfl, rfl⟩
              have n0 := DA.out.blk.cell (i := 0) rfl
              have n2 := DA.out.blk.cell (i := 2) rfl
              have f0 := DA.out.blk.free 0
              have f1 := DA.out.blk.free 1
              have f2 := DA.out.blk.free 2
              have f3 := DA.out.blk.free 3
              go_wp2_with fail
              refine ⟨Mod.refl [] _, ?_⟩
              go_wp2_with fail
              refine ⟨by kernel_rfl, ⟨⟨by simp, ISC.out⟩, trivial⟩, ?_⟩
              go_wp2_with fail
              go_meet
              case rel => exact ⟨rfl, s, true, er, R, _, _, _, _, by omega, CA.out.mod (Mod.drew (Mod.refl [] _)) (by simp) (by simp) (by simp), DA.out.mod0 (Mod.drew (Mod.refl [] _)), fun _ => ⟨rfl, her, hinn⟩, fun h => (by cases h), hst_own HA.out (Mod.drew (Mod.refl [] _)) (by simp) (by simp), DJ.out, MA.out.drew⟩
          · clear k0 k1 k2 h0
            have hkb : ¬ wr.heap.size = mb := by omega
            have hkb' : ¬ mb = wr.heap.size := by omega
            cases opn with
            | false => as_aux_lemma =>
              have HO := Lib.hid (SH.out rfl)
              have ISC := Lib.hid (show IsC (wr.alloc (.cells #[.int .i64 kind, .int .i64 n, .slice x data.length cx] 59)).drew mb from isC_of_cell (w := (wr.alloc (.cells #[.int .i64 kind, .int .i64 n, .slice x data.length cx] 59)).drew) m3)
              go_wp2_with fail
              refine wp_region_held [2] [5] [] (by kernel_rfl) (by kernel_rfl) ?_
              simp only [wpCut, List.take_succ_cons, List.take_zero, List.drop_succ_cons, List.drop_zero]
              go_wp2_with fail
              refine (shut_no (CA.out.mod (Mod.drew (Mod.refl [] _)) (by simp) (by simp) (by simp))).mono ?_
              rintro e w6 ⟨rfl, rfl⟩
              have n0 := DA.out.blk.cell (i := 0) rfl
              have n2 := DA.out.blk.cell (i := 2) rfl
              have f0 := DA.out.blk.free 0
              have f1 := DA.out.blk.free 1
              have f2 := DA.out.blk.free 2
              have f3 := DA.out.blk.free 3
              go_wp2_with fail
              refine ⟨Mod.refl [] _, ?_⟩
              go_wp2_with fail
              refine ⟨by kernel_rfl, ⟨⟨by simp, ISC.out⟩, trivial⟩, ?_⟩
              go_wp2_with fail
              have MS : Hid (Mod [mb] ((wr.alloc (.cells #[.int .i64 kind, .int .i64 n, .slice x data.length cx] 59)).drew) (((((wr.alloc (.cells #[.int .i64 kind, .int .i64 n, .slice x data.length cx] 59)).drew.setCell ⟨mb, 0, none⟩ (.slice none 0 0)).setCell ⟨mb, 1, none⟩ (.slice none 0 0)).setCell ⟨mb, 2, none⟩ (.bool false)).setCell ⟨mb, 3, none⟩ (.bool false))) := Lib.hid (((((Mod.refl [mb] (wr.alloc (.cells #[.int .i64 kind, .int .i64 n, .slice x data.length cx] 59)).drew).setCell (p := ⟨mb, 0, none⟩) (.inl (by simp)) (.slice none 0 0)).setCell (p := ⟨mb, 1, none⟩) (.inl (by simp)) (.slice none 0 0)).setCell (p := ⟨mb, 2, none⟩) (.inl (by simp)) (.bool false)).setCell (p := ⟨mb, 3, none⟩) (.inl (by simp)) (.bool false))
              go_meet
              case rel =>
                have hD : Mdl (((((wr.alloc (.cells #[.int .i64 kind, .int .i64 n, .slice x data.length cx] 59)).drew.setCell ⟨mb, 0, none⟩ (.slice none 0 0)).setCell ⟨mb, 1, none⟩ (.slice none 0 0)).setCell ⟨mb, 2, none⟩ (.bool false)).setCell ⟨mb, 3, none⟩ (.bool false)) mb (mb + 2) (.slice none 0 0) (.slice none 0 0) [] [] false false := ⟨(((DA.out.blk.drew.set 0 (.slice none 0 0)).set 1 (.slice none 0 0)).set 2 (.bool false)).set 3 (.bool false), World.ownsRow_nil _ _ _ _, fun _ => rfl, OwnO.nil _ _, fun b h => (by cases h), by omega, by have := DA.out.le; simpa using this⟩
                exact ⟨rfl, ⟨s.pend, s.err, s.out, s.reqs⟩, false, false, dr, _, _, _, [], by show s.reqs.length ≤ _; omega, (CA.out.mod (Mod.drew (Mod.refl [] _)) (by simp) (by simp) (by simp)).mod MS.out (by simp; omega) (by simp; omega) (by simp; omega), (by show Mdl _ _ _ _ _ _ s.out _ _; rw [HO.out]; exact hD), fun h => (by cases h), fun _ => HO.out, hst_own (hst_own HA.out (Mod.drew (Mod.refl [] _)) (by simp) (by simp)) MS.out (by simp) (fun b hb => by have := (VB.out.1 b hb).1; simp; omega), fun b hb => ⟨fun h => (by cases h), fun h => (by cases h)⟩, MA.out.drew.trans' MS.out (fun b hb => .inr (by simp at hb; omega))⟩
            | true => as_aux_lemma =>
              obtain ⟨hdr, her, hinn⟩ := OP.out rfl
              subst hdr
              have ISC := Lib.hid (show IsC (wr.alloc (.cells #[.int .i64 kind, .int .i64 n, .slice x data.length cx] 59)).drew mb from isC_of_cell (w := (wr.alloc (.cells #[.int .i64 kind, .int .i64 n, .slice x data.length cx] 59)).drew) m3)
              go_wp2_with fail
              refine wp_region_held [2] [5] [g, p, d] (by kernel_rfl) (by kernel_rfl) ?_
              simp only [wpCut, List.take_succ_cons, List.take_zero, List.drop_succ_cons, List.drop_zero]
              go_wp2_with fail
              refine (shut_yes (CA.out.mod (Mod.drew (Mod.refl [] _)) (by simp) (by simp) (by simp))).mono ?_
              rintro e w6 ⟨rfl, hC6, hM6⟩
              have hM6' := (Mod.drew (Mod.refl [g, p, d] (wr.alloc (.cells #[.int .i64 kind, .int .i64 n, .slice x data.length cx] 59)))).trans hM6
              have N6 := Lib.hid hM6
              have C6 := Lib.hid hC6
              have D6 := Lib.hid (DA.out.mod hM6' (by simp; omega) (fun b hb => by have := (VB.out.2.1 b hb).1; simp; omega) (fun b hb => by have := (VB.out.2.2.1 b hb).1; simp; omega))
              have H6 := Lib.hid (hst_own HA.out hM6' (by simp; omega) (fun b hb => by have := (VB.out.1 b hb).1; simp; omega))
              have W6 := Lib.hid (MA.out.trans' hM6' (fun b hb => .inr (by simp at hb; omega)))
              have n0 := D6.out.blk.cell (i := 0) rfl
              have n1 := D6.out.blk.cell (i := 1) rfl
              have n2 := D6.out.blk.cell (i := 2) rfl
              have n3 := D6.out.blk.cell (i := 3) rfl
              have f0 := D6.out.blk.free 0
              have f1 := D6.out.blk.free 1
              have f2 := D6.out.blk.free 2
              have f3 := D6.out.blk.free 3
              clear hC6 hM6 hM6' m1 m3
              go_wp2_with fail
              refine ⟨N6.out, ?_⟩
              go_wp2_with fail
              refine ⟨by kernel_rfl, ⟨⟨by simp; omega, ISC.out⟩, trivial⟩, ?_⟩
              go_wp2_with fail
              have MS : Hid (Mod [mb] (w6) ((((w6.setCell ⟨mb, 0, none⟩ (.slice none 0 0)).setCell ⟨mb, 1, none⟩ (.slice none 0 0)).setCell ⟨mb, 2, none⟩ (.bool false)).setCell ⟨mb, 3, none⟩ (.bool false))) := Lib.hid (((((Mod.refl [mb] w6).setCell (p := ⟨mb, 0, none⟩) (.inl (by simp)) (.slice none 0 0)).setCell (p := ⟨mb, 1, none⟩) (.inl (by simp)) (.slice none 0 0)).setCell (p := ⟨mb, 2, none⟩) (.inl (by simp)) (.bool false)).setCell (p := ⟨mb, 3, none⟩) (.inl (by simp)) (.bool false))
              go_meet
              case rel =>
                have hD : Mdl ((((w6.setCell ⟨mb, 0, none⟩ (.slice none 0 0)).setCell ⟨mb, 1, none⟩ (.slice none 0 0)).setCell ⟨mb, 2, none⟩ (.bool false)).setCell ⟨mb, 3, none⟩ (.bool false)) mb (mb + 2) (.slice none 0 0) (.slice none 0 0) [] [] false false := ⟨(((D6.out.blk.set 0 (.slice none 0 0)).set 1 (.slice none 0 0)).set 2 (.bool false)).set 3 (.bool false), World.ownsRow_nil _ _ _ _, fun _ => rfl, OwnO.nil _ _, fun b h => (by cases h), by omega, by have := D6.out.le; simpa using this⟩
                exact ⟨rfl, ⟨s.pend, s.err, [], s.reqs⟩, false, false, R, _, _, _, [], by show s.reqs.length ≤ _; omega, C6.out.mod MS.out (by simp; omega) (by simp; omega) (by simp; omega), hD, fun h => (by cases h), fun _ => rfl, hst_own H6.out MS.out (by simp) (fun b hb => by have := (VB.out.1 b hb).1; simp; omega), fun b hb => ⟨fun h => (by cases h), fun h => (by cases h)⟩, W6.out.trans' MS.out (fun b hb => .inr (by simp at hb; omega))⟩
    · obtain rfl : j = l.length := by omega
      have BO := Lib.hid hB
      clear hB
      go_wp2_with fail
      go_ret
      obtain ⟨_, _, _, _, _, _, _, _, _, _, _, _, _, _, _, h⟩ := BO.out
      exact ⟨rfl, h⟩
set_option maxRecDepth 4000 in
theorem runs_walk (w : World) (z1 : Int) (h1 : (Lit.int .i64 z1).wf = true) (z2 : Int) (h2 : (Lit.int .i64 z2).wf = true) (a : Option Addr) (cp : Nat) (l : List CallV) (hm : l.length ≤ maxLen) (hI : InCalls w a l) :
    Calls Try.prog 7 #[.int .i64 z1, .int .i64 z2, .slice a l.length cp] w (TruePost w) := by
  by_cases hl : l.length ≤ 100
  · exact runs_main w z1 z2 a cp l hm hl hI
  · unfold maxLen at hm
    have and7 : bits .and .i64 z1 7 = z1 % 8 := and_mask z1 3 (by decide)
    have and127 : bits .and .i64 z2 127 = z2 % 128 := and_mask z2 7 (by decide)
    have d1 : decide ((100 : Int) < l.length) = true := by simp; omega
    clear h1 h2 hI hl
    go_enter Try.func7, Try.ntmps7
    go_wp2_with fail
    refine (fit_any w).mono ?_
    rintro e w1 ⟨rfl, hM1⟩
    go_wp2_with fail
    go_ret
    exact ⟨rfl, hM1⟩
end Go.Proofs.Ytnhnmpgjbopihaa.Conn
