/- conn's laws: ConnNone: what isn't open takes nothing and gives nothing; there is none without room. No condition. -/
import Derived.Test.YtnhnmpgjbopihaaConnLaw1
namespace Go.Proofs.Ytnhnmpgjbopihaa.Conn
open Go Go.RowKit Go.YtnhnmpgjbopihaaMem Go.YtnhnmpgjbopihaaLex Go.Proofs.Ytnhnmpgjbopihaa.Frame Go.Proofs.Ytnhnmpgjbopihaa.Out
set_option linter.unusedVariables false
set_option linter.unusedSimpArgs false

theorem bytes_any (w : World) (n : Int) : Calls Try.prog 23 #[.int .i64 n] w fun e w' => e = .returned (.int .i64 n) ∧ w = w' := by
  go_enter Try.func23, Try.ntmps23
  go_wp2_with fail
  go_ret
  exact ⟨rfl, rfl⟩

set_option maxRecDepth 8000 in
set_option maxHeartbeats 6400000 in
theorem none_main (w : World) (size : Int) (hw : (Lit.int .i64 size).wf = true) (v1 : Value) (b : List UInt8) (h1 : Sl w v1 (vb b)) (hl1 : b.length ≤ 300) :
    Calls Try.prog 9 #[.int .i64 size, v1] w (TruePost w) := by
  obtain ⟨a1, c1, rfl, hm1, -⟩ := h1.open
  rw [vb_length] at *
  have d1 : decide ((300 : Int) < b.length) = false := by simp; omega
  obtain ⟨z, hz⟩ : ∃ z, z = size % 65536 := ⟨_, rfl⟩
  have hand : bits .and .i64 size 65535 = z := by rw [hz]; exact and_mask size 16 (by decide)
  have hzb : 0 ≤ z ∧ z ≤ 65535 := by omega
  clear h1 hm1 hz
  go_enter Try.func9, Try.ntmps9
  go_wp2_with fail
  refine (fit_any w).mono ?_
  rintro e w1 ⟨rfl, hM1⟩
  have M1 := Lib.hid hM1
  clear hM1
  go_wp2_with fail
  refine (new_con w1 1 50 (by decide) (by decide)).mono ?_
  rintro e w2 ⟨g, p, d, rfl, hC2, hg, hp, hd, hM2⟩
  have C2 := Lib.hid (hC2.mod ((Mod.refl [] w2).alloc (.cells #[.slice none 0 0] 30)) (by simp) (by simp) (by simp))
  have M2 := Lib.hid ((M1.out.trans hM2).alloc (.cells #[.slice none 0 0] 30))
  clear hC2 hM2
  go_wp2_with fail
  refine (accept_no C2.out _ _ _ _).mono ?_
  rintro e w' ⟨rfl, rfl⟩
  go_wp2_with fail
  refine (drain_no C2.out 9).mono ?_
  rintro e w' ⟨rfl, rfl⟩
  go_wp2_with fail
  refine (shut_no C2.out).mono ?_
  rintro e w' ⟨rfl, rfl⟩
  go_wp2_with fail
  refine (isOpen_any C2.out).mono ?_
  rintro e w' ⟨rfl, rfl⟩
  go_wp2_with fail
  refine (accept_nil _ _ _ _ _).mono ?_
  rintro e w' ⟨rfl, rfl⟩
  go_wp2_with fail
  refine (drain_nil _ 9).mono ?_
  rintro e w' ⟨rfl, rfl⟩
  go_wp2_with fail
  refine (open_nil _).mono ?_
  rintro e w' ⟨rfl, rfl⟩
  go_wp2_with fail
  refine (shut_nil _).mono ?_
  rintro e w' ⟨rfl, rfl⟩
  go_wp2_with fail
  refine (isOpen_nil _).mono ?_
  rintro e w' ⟨rfl, rfl⟩
  go_wp2_with fail
  refine (waits_nil _).mono ?_
  rintro e w' ⟨rfl, rfl⟩
  go_wp2_with fail
  refine (room_con_nil _).mono ?_
  rintro e w' ⟨rfl, rfl⟩
  go_wp2_with fail
  by_cases hs : 1 ≤ size ∧ size ≤ 65536
  · obtain ⟨s1, s2⟩ := hs
    refine (new_con _ 1 size s1 s2).mono ?_
    rintro e w3 ⟨g', p', d', rfl, hC3, hg', hp', hd', hM3⟩
    have M3 := Lib.hid (M2.out.trans hM3)
    clear hC3 hM3
    go_wp2_with fail
    refine (bytes_any _ z).mono ?_
    rintro e w' ⟨rfl, rfl⟩
    go_wp2_with fail
    go_ret
    exact ⟨rfl, M3.out⟩
  · refine (new_con_none _ 1 size (by omega)).mono ?_
    rintro e w' ⟨rfl, rfl⟩
    by_cases s1 : 1 ≤ size
    · have s2 : ¬ size ≤ 65536 := fun h => hs ⟨s1, h⟩
      have ds : Hid (decide (size ≤ 65536) = false) := Lib.hid (by simpa using s2)
      clear hs
      go_wp2_with fail
      refine (bytes_any _ z).mono ?_
      rintro e w' ⟨rfl, rfl⟩
      go_wp2_with fail
      go_ret
      refine ⟨?_, M2.out⟩
      show Ending.returned (Value.bool (!decide (size ≤ 65536))) = _
      rw [ds.out]; rfl
    · clear hs
      go_wp2_with fail
      refine (bytes_any _ z).mono ?_
      rintro e w' ⟨rfl, rfl⟩
      go_wp2_with fail
      go_ret
      exact ⟨rfl, M2.out⟩

set_option maxRecDepth 4000 in
theorem none_walk (w : World) (size : Int) (hw : (Lit.int .i64 size).wf = true) (v1 : Value) (b : List UInt8) (h1 : Sl w v1 (vb b)) :
    Calls Try.prog 9 #[.int .i64 size, v1] w (TruePost w) := by
  by_cases hl1 : b.length ≤ 300
  · exact none_main w size hw v1 b h1 hl1
  · obtain ⟨a1, c1, rfl, hm1, -⟩ := h1.open
    unfold maxLen at hm1
    rw [vb_length] at *
    have hn1 : b.length ≤ 9223372036854775807 := by omega
    have d1 : decide ((300 : Int) < b.length) = true := by simp; omega
    clear h1 hm1
    go_enter Try.func9, Try.ntmps9
    go_wp2_with fail
    refine (fit_any w).mono ?_
    rintro e w1 ⟨rfl, hM1⟩
    go_wp2_with fail
    go_ret
    exact ⟨rfl, hM1⟩
end Go.Proofs.Ytnhnmpgjbopihaa.Conn
