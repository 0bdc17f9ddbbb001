/- frame: (*Said).list: counts out of bytes. -/
import Derived.Test.YtpjmoomjbcplgaaFrameList
import Derived.Test.YtpjmoomjbcplgaaParse3
namespace Go.Proofs.Ytpjmoomjbcplgaa.Frame
open Go Go.RowKit Go.YtpjmoomjbcplgaaMem Go.YtpjmoomjbcplgaaLex
set_option linter.unusedVariables false
set_option linter.unusedSimpArgs false

/-- 64 bits as a signed number. -/
def s64 (n : Nat) : Int := wrap64 n
/-- The count that stands at a place, and whether one does. -/
def cntAt (bs : List UInt8) (m : Nat) : Cnt := ⟨(bs.drop (m + 1)).take (nb bs m), s64 (numOf ((bs.drop (m + 1 + nb bs m)).take 8)), s64 (numOf ((bs.drop (m + 9 + nb bs m)).take 8))⟩
def okAt (bs : List UInt8) (m : Nat) : Bool := decide (m + 1 ≤ bs.length) && decide (nb bs m ≤ 64) && decide (m + 17 + nb bs m ≤ bs.length)
/-- The first j counts, and where they end. -/
def pre (bs : List UInt8) : Nat → Option (List Cnt × Nat)
  | 0 => some ([], 0)
  | j + 1 => match pre bs j with
    | none => none
    | some (l, m) => if okAt bs m = true then some (l ++ [cntAt bs m], m + 17 + nb bs m) else none
theorem pre_none {bs : List UInt8} {j : Nat} (h : pre bs j = none) : ∀ n, j ≤ n → pre bs n = none := by
  intro n hn
  induction n with
  | zero => obtain rfl : j = 0 := by omega
            exact h
  | succ n ih =>
    rcases Nat.lt_or_ge n j with hlt | hge
    · obtain rfl : j = n + 1 := by omega
      exact h
    · simp only [pre, ih hge]
theorem pre_len {bs : List UInt8} : ∀ {j : Nat} {l : List Cnt} {m : Nat}, pre bs j = some (l, m) → l.length = j ∧ m ≤ bs.length
  | 0, l, m, h => by
    simp only [pre, Option.some.injEq, Prod.mk.injEq] at h
    obtain ⟨rfl, rfl⟩ := h
    exact ⟨rfl, Nat.zero_le _⟩
  | j + 1, l, m, h => by
    unfold pre at h
    split at h
    · cases h
    · rename_i l' m' h'
      split at h
      · rename_i hok
        injection h with h
        injection h with h1 h2
        subst h1; subst h2
        simp only [okAt, Bool.and_eq_true, decide_eq_true_eq] at hok
        have := (pre_len h').1
        exact ⟨by simp [this], hok.2⟩
      · cases h
def listOf (bs : List UInt8) (n : Nat) : Option (List Cnt) :=
  match pre bs n with
  | none => none
  | some (l, m) => if m = bs.length then some l else none

/-- Counts in a row of one's own. -/
def cflat (l : List Cnt) : List Value := l.flatMap Cnt.cells
theorem cflat_snoc (l : List Cnt) (q : Cnt) : cflat (l ++ [q]) = cflat l ++ q.cells := by simp [cflat]
def OwnC (w : World) (B : Nat) (x : Value) (l : List Cnt) : Prop := w.ownsRow B 34 3 x l.length (cflat l)
theorem OwnC.nil (w : World) (B : Nat) : OwnC w B (.slice none 0 0) [] := World.ownsRow_nil w _ _ _
theorem OwnC.mod {w w' : World} {B : Nat} {x : Value} {l : List Cnt} {S : List Nat} (h : OwnC w B x l) (hm : Mod S w w') (hn : ∀ b, b ∈ S → b < B) : OwnC w' B x l :=
  hm.own h (fun b hb hx => by have := own_block h b hb; have := hn b hx; omega)
theorem OwnC.drew {w : World} {B : Nat} {x : Value} {l : List Cnt} (h : OwnC w B x l) : OwnC w.drew B x l := h
theorem OwnC.alloc {w : World} {B : Nat} {x : Value} {l : List Cnt} (h : OwnC w B x l) (o : Obj) : OwnC (w.alloc o) B x l := World.ownsRow.alloc h o
theorem cnt_info : ∃ i, Try.prog.info? 34 = some i ∧ i.zero = some (.agg #[.string ⟨#[]⟩, .int .i64 0, .int .i64 0]) ∧ i.size = 3 ∧ i.bytes = 32 := ⟨_, rfl, rfl, rfl, rfl⟩
section
variable {ops : Array Oper} {rest : List Oper} {o : Oper} {act : Act} {Q : Exit → Act → World → Prop} {w : World} {B : Nat} {v : Value} {l : List Cnt}
theorem app_cnt (q : Cnt) (n : Nat) (hown : OwnC w B v l) (hgd : o.guard = none) (s x : Operand) (ho : o.op = .call { callee := .builtin .append, args := #[s, x], argTypes := #[31, 31] })
    (hs : act.eval s = v) (hx : act.eval x = .slice (some ⟨n, 0, none⟩) 1 1) (hn : Blk w n 34 q.cells) (hB : B ≤ w.heap.size) (hl : l.length ≤ 900000)
    (h : ∀ v' w', OwnC w' B v' (l ++ [q]) → Mod v.ownBlock.toList w w' → wpList Try.prog ops Q rest (act.put o.dst v') w') : wpList Try.prog ops Q (o :: rest) act w := by
  obtain ⟨i0, hi, hz0, hz1, hz2⟩ := cnt_info
  refine wpList_append_own_at w hgd s x 31 ho B 34 i0 _ 3 32 Try.underlying31 hi hz0 hz1 hz2 rfl (by decide) v l.length (cflat l) hs hown ⟨n, 0, none⟩ 1 1 q.cells hx rfl (fun j u hu => by rw [add_eq, Nat.zero_add]; exact hn.cell hu)
    (fun u hu => by simp [Cnt.cells] at hu; rcases hu with rfl | rfl | rfl <;> rfl) (by unfold maxLen; omega) (by omega) hB fun v' w' h1 h2 _ h4 => h v' w' ?_ (grown_mod (Mod.refl [] w) h2)
  unfold OwnC; rw [cflat_snoc, List.length_append]; exact h1
end

/-- What an answer's frame says, but for its list. -/
structure Said where
  op : Int
  rule : Int
  v : Int
  r : Int
  t : Int
  a : Int
  b : Int
  c : Int
  d : Int
  e : Int
  er : Int
def Said.cells (s : Said) (x : Value) : List Value := [.int .i64 s.op, .int .i64 s.rule, .int .i64 s.v, .int .i64 s.r, .int .i64 s.t, .int .i64 s.a, .int .i64 s.b, .int .i64 s.c, .int .i64 s.d, .int .i64 s.e, x, .int .i64 s.er]
def ListPost (w : World) (gs : Nat) (s : Said) (bs : List UInt8) (n : Nat) (e : Ending) (w' : World) : Prop :=
  ∃ x l, e = .returned (.bool (listOf bs n).isSome) ∧ (∀ l', listOf bs n = some l' → l = l') ∧ Blk w' gs 55 (s.cells x) ∧ OwnC w' w.heap.size x l ∧ Mod [gs] w w'
theorem list_fail {w w' : World} {gs n : Nat} {s : Said} {bs : List UInt8} {x : Value} {l : List Cnt} (h : listOf bs n = none) (hB : Blk w' gs 55 (s.cells x)) (hO : OwnC w' w.heap.size x l) (hM : Mod [gs] w w') :
    ListPost w gs s bs n (.returned (.bool false)) w' := ⟨x, l, by rw [h]; rfl, fun l' h' => by rw [h] at h'; exact absurd h' (by simp), hB, hO, hM⟩
theorem list_done {w w' : World} {gs n : Nat} {s : Said} {bs : List UInt8} {x : Value} {l : List Cnt} (h : listOf bs n = some l) (hB : Blk w' gs 55 (s.cells x)) (hO : OwnC w' w.heap.size x l) (hM : Mod [gs] w w') :
    ListPost w gs s bs n (.returned (.bool true)) w' := ⟨x, l, by rw [h]; rfl, fun l' h' => Option.some.inj (h.symm.trans h'), hB, hO, hM⟩
theorem slice_eq {b o o' n n' c c' : Nat} (ho : o = o') (hn : n = n') (hc : c = c') : Value.slice (some ⟨b, o, none⟩) n c = .slice (some ⟨b, o', none⟩) n' c' := by subst ho; subst hn; subst hc; rfl
theorem drop_cells {w : World} {b off m k : Nat} {bs : List UInt8} (h : ∀ i u, (vb bs)[i]? = some u → w.cell? ⟨b, off + i, none⟩ = some u) : ∀ i u, (vb ((bs.drop m).take k))[i]? = some u → w.cell? ⟨b, off + m + i, none⟩ = some u := fun i u hu => by
  have hi : i < k := by have := (List.getElem?_eq_some_iff.1 hu).1; simp at this; omega
  rw [show off + m + i = off + (m + i) by omega]
  refine h (m + i) u ?_
  rw [← hu]; unfold vb; simp [List.getElem?_take, hi]

set_option maxRecDepth 4000 in
set_option maxHeartbeats 3200000 in
theorem list_any {w : World} {gs b off cap : Nat} {bs : List UInt8} (s : Said) (n : Nat) (hn : n ≤ 255) (hbl : bs.length ≤ 60000) (hc1 : bs.length ≤ cap) (hc2 : cap ≤ maxLen) (hbox : Blk w gs 55 (s.cells (.slice none 0 0))) (hb : b < gs)
    (hcell : ∀ i u, (vb bs)[i]? = some u → w.cell? ⟨b, off + i, none⟩ = some u) (v0 : Value) (hv : (0 < bs.length ∧ v0 = .slice (some ⟨b, off, none⟩) bs.length cap) ∨ ∃ a c, bs.length = 0 ∧ v0 = .slice a 0 c) :
    Calls Try.prog 39 #[.pointer (some ⟨gs, 0, none⟩), v0, .int .i64 n] w (ListPost w gs s bs n) := by
  have HB := Lib.hid hbox
  have HC := Lib.hid hcell
  have HV := Lib.hid hv
  have hgl := hbox.lt
  unfold maxLen at hc2
  clear hbox hcell hv
  go_enter Try.func39, Try.ntmps39
  go_wp2_with fail
  go_loopw [1, 9] (fun u i wr => ∃ (j m : Nat) (x : Value) (l : List Cnt), j ≤ n ∧ i = .int .i64 j ∧ pre bs j = some (l, m) ∧ ((m < bs.length ∧ u = .slice (some ⟨b, off + m, none⟩) (bs.length - m) (cap - m)) ∨ ∃ a c, m = bs.length ∧ u = .slice a 0 c) ∧ Blk wr gs 55 (s.cells x) ∧ OwnC wr w.heap.size x l ∧ Mod [gs] w wr) (fun _ i _ => n - (intOf i).toNat)
  case atStart =>
    refine ⟨0, 0, _, [], Nat.zero_le _, rfl, rfl, ?_, HB.out, OwnC.nil _ _, Mod.refl _ w⟩
    rcases HV.out with ⟨h1, h2⟩ | ⟨a, c, h1, h2⟩
    · exact .inl ⟨h1, by rw [h2]; simp⟩
    · exact .inr ⟨a, c, by omega, h2⟩
  case round =>
    obtain ⟨j, m, x, l, hj, rfl, hp, hu, hB, hO, hM⟩ := hrel
    obtain ⟨hlj, hml⟩ := pre_len hp
    have HP := Lib.hid hp
    have HBX := Lib.hid hB
    have HO := Lib.hid hO
    have MR := Lib.hid hM
    clear hp hB hO hM
    by_cases hlt : j < n
    · rcases hu with ⟨hm, rfl⟩ | ⟨a, c, hm, rfl⟩
      · have hnb := nb_lt bs m
        have cm : wr.cell? ⟨b, off + m, none⟩ = some (.int .u8 (nb bs m)) := (MR.out.cell (by show b < _; omega) (by simp; omega)).trans (HC.out m _ (nb_get hm))
        by_cases h64 : nb bs m ≤ 64
        · by_cases h17 : m + 17 + nb bs m ≤ bs.length
          · have HN : Hid (pre bs (j + 1) = some (l ++ [cntAt bs m], m + 17 + nb bs m)) := Lib.hid (by simp only [pre, HP.out]; rw [if_pos (by simp [okAt]; omega)])
            have e1 : ((bs.drop (m + 1 + nb bs m)).take 8).length = 8 := by simp; omega
            have e2 : ((bs.drop (m + 9 + nb bs m)).take 8).length = 8 := by simp; omega
            have HC' : Hid (∀ i u, (vb bs)[i]? = some u → wr.cell? ⟨b, off + i, none⟩ = some u) := Lib.hid fun i u hu => (MR.out.cell (by show b < _; omega) (by simp; omega)).trans (HC.out i u hu)
            have E1 := Lib.hid e1
            have E2 := Lib.hid e2
            have hx0 := HBX.out.cell (i := 10) rfl
            have hown := own_block HO.out
            have HOWN := Lib.hid hown
            have hcv : (convert 28 9 (.slice (some ⟨b, off + m + 1, none⟩) (nb bs m) (cap - m - 1))).run Try.prog wr.drew = .ok (.string ⟨((bs.drop (m + 1)).take (nb bs m)).toArray⟩) wr.drew := by
              have h := run_str (P := Try.prog) (Sl.part (w := wr.drew) (b := b) (off := off) (c := cap - m - 1) (i := m + 1) (m := nb bs m) (bs := bs) (by have := MR.out.size; show b < wr.heap.size; omega) HC'.out (by omega) (by omega) (by unfold maxLen; omega)) Try.underlying28 Try.underlying5 Try.underlying9
              exact h
            have e7 : 1 + nb bs m - 1 = nb bs m := by omega
            have D1 : Hid (∀ i u, (vb ((bs.drop (m + 1 + nb bs m)).take 8))[i]? = some u → wr.cell? ⟨b, off + m + (1 + nb bs m) + i, none⟩ = some u) := Lib.hid fun i u hu => by
              have := drop_cells HC'.out i u hu
              rw [show off + m + (1 + nb bs m) + i = off + (m + 1 + nb bs m) + i by omega]; exact this
            have D2 : Hid (∀ i u, (vb ((bs.drop (m + 9 + nb bs m)).take 8))[i]? = some u → wr.cell? ⟨b, off + m + (1 + nb bs m + 8) + i, none⟩ = some u) := Lib.hid fun i u hu => by
              have := drop_cells HC'.out i u hu
              rw [show off + m + (1 + nb bs m + 8) + i = off + (m + 9 + nb bs m) + i by omega]; exact this
            clear e1 e2 hown
            go_wp2_with fail
            refine wp_region_held [15, 8] [4, 8] x.ownBlock.toList (by kernel_rfl) (by kernel_rfl) ?_
            simp only [wpCut, List.take_succ_cons, List.take_zero, List.drop_succ_cons, List.drop_zero]
            go_wp2_with fail
            refine (num_at (w := wr.drew) (bs := (bs.drop (m + 1 + nb bs m)).take 8) E1.out (by omega) D1.out).mono ?_
            rintro e w2 ⟨rfl, rfl⟩
            go_wp2_with fail
            refine ⟨Mod.refl _ _, ?_⟩
            go_wp2_with fail
            refine (num_at (w := wr.drew) (bs := (bs.drop (m + 9 + nb bs m)).take 8) E2.out (by omega) D2.out).mono ?_
            rintro e w2 ⟨rfl, rfl⟩
            go_wp2_with fail
            refine ⟨Mod.refl _ _, ?_⟩
            have hgN : gs ∉ x.ownBlock.toList := fun hx => by have := HOWN.out gs (by simpa using hx); omega
            have hbN : b ∉ x.ownBlock.toList := fun hx => by have := HOWN.out b (by simpa using hx); omega
            have iscg : IsC wr.drew gs := isC_of_cell (w := wr.drew) hx0
            have iscb : IsC wr.drew b := isC_of_cell (w := wr.drew) cm
            have HGN := Lib.hid hgN
            clear hgN
            go_wp2_with (at_builtin; go_must (refine app_cnt (cntAt bs m) wr.heap.size (HO.out.alloc (.cells (cntAt bs m).cells.toArray 34)).drew rfl _ _ rfl rfl rfl (Blk.new wr (cntAt bs m).cells 34).drew (by have := MR.out.size; show w.heap.size ≤ (wr.alloc _).heap.size; simp; omega) (by omega) ?_; intro v3 w3 ho3 hM3; obtain ⟨a3, k3, rfl⟩ := own_slice ho3; have BX3 := Lib.hid (hM3.blk (HBX.out.alloc (.cells (cntAt bs m).cells.toArray 34)).drew HGN.out); have c10 := BX3.out.cell (i := 10) rfl; have f10 := BX3.out.free 10; have O3 := Lib.hid ho3; have N3 := Lib.hid hM3; clear ho3 hM3))
            refine ⟨by kernel_rfl, ⟨⟨HGN.out, iscg⟩, .inr ⟨hbN, iscb⟩, trivial⟩, ?_⟩
            have MW := Lib.hid ((((MR.out.alloc (.cells (cntAt bs m).cells.toArray 34)).drew.trans' N3.out (fun y hy => by have := HOWN.out y (by simpa using hy); omega)).setCell (p := ⟨gs, 10, none⟩) (by simp) (.slice a3 (l ++ [cntAt bs m]).length k3)))
            have BW := Lib.hid (BX3.out.set 10 (.slice a3 (l ++ [cntAt bs m]).length k3))
            have OW := Lib.hid (O3.out.mod ((Mod.refl [gs] w3).setCell (p := ⟨gs, 10, none⟩) (by simp) (.slice a3 (l ++ [cntAt bs m]).length k3)) (by simp; omega))
            have hlen : (l ++ [cntAt bs m]).length = j + 1 := by simp; omega
            rw [hlen] at MW BW OW
            clear hlen c10 f10 hx0 cm
            by_cases hcap : cap = m + 17 + nb bs m
            · have ez : cap - m - (1 + nb bs m + 16) = 0 := by omega
              have en : bs.length - m - (1 + nb bs m + 16) = 0 := by omega
              go_wp2_with fail
              go_roundw
              case rel => exact ⟨j + 1, m + 17 + nb bs m, _, _, by omega, by go_num, HN.out, .inr ⟨_, _, by omega, slice_eq rfl (by omega) rfl⟩, BW.out, OW.out, MW.out⟩
              case measure => simp [intOf]; omega
            · go_wp2_with fail
              go_roundw
              case rel =>
                refine ⟨j + 1, m + 17 + nb bs m, _, _, by omega, by go_num, HN.out, ?_, BW.out, OW.out, MW.out⟩
                by_cases he : m + 17 + nb bs m < bs.length
                · exact .inl ⟨he, slice_eq (by omega) (by omega) (by omega)⟩
                · exact .inr ⟨_, _, by omega, slice_eq rfl (by omega) rfl⟩
              case measure => simp [intOf]; omega
          · have HN : Hid (pre bs (j + 1) = none) := Lib.hid (by simp only [pre, HP.out]; rw [if_neg (by simp [okAt]; omega)])
            have HL : Hid (listOf bs n = none) := Lib.hid (by unfold listOf; rw [pre_none HN.out n (by omega)])
            go_wp2_with fail
            go_ret
            exact list_fail HL.out HBX.out HO.out MR.out
        · have HN : Hid (pre bs (j + 1) = none) := Lib.hid (by simp only [pre, HP.out]; rw [if_neg (by simp [okAt]; omega)])
          have HL : Hid (listOf bs n = none) := Lib.hid (by unfold listOf; rw [pre_none HN.out n (by omega)])
          go_wp2_with fail
          go_ret
          exact list_fail HL.out HBX.out HO.out MR.out
      · have HN : Hid (pre bs (j + 1) = none) := Lib.hid (by simp only [pre, HP.out]; rw [if_neg (by simp [okAt]; omega)])
        have HL : Hid (listOf bs n = none) := Lib.hid (by unfold listOf; rw [pre_none HN.out n (by omega)])
        go_wp2_with fail
        go_ret
        exact list_fail HL.out HBX.out HO.out MR.out
    · obtain rfl : j = n := by omega
      have HL : Hid (listOf bs j = if m = bs.length then some l else none) := Lib.hid (by unfold listOf; rw [HP.out])
      rcases hu with ⟨hm, rfl⟩ | ⟨a, c, hm, rfl⟩
      · have hne : ((bs.length - m : Nat) == 0) = false := by simp; omega
        have hne' : (((bs.length - m : Nat) : Int) == 0) = false := by simp; omega
        go_wp2_with fail
        go_ret
        exact list_fail (by rw [HL.out, if_neg (by omega)]) HBX.out HO.out MR.out
      · go_wp2_with fail
        go_ret
        exact list_done (by rw [HL.out, if_pos hm]) HBX.out HO.out MR.out
end Go.Proofs.Ytpjmoomjbcplgaa.Frame
