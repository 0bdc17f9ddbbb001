/- A range over a function within a loop: each round leaves one collected row of deferred calls, empty, behind; at the function's end all of them are taken. Over any program. -/
import Derived.Test.YtpobjhmfidebbaaRange
namespace Go.YtpobjhmfidebbaaRange
set_option linter.unusedVariables false
set_option linter.unusedSimpArgs false
open Go Go.YtpobjhmfidebbaaMem

def coll (D : Nat) : Deferred := { target := .collected D, args := #[] }
def closeAll (Ds : List Nat) (W : World) : World := Ds.foldl (fun W D => W.putObj D (.deferred none)) W
theorem closeAll_mod : ∀ (Ds : List Nat) (W : World), Mod Ds W (closeAll Ds W)
  | [], W => Mod.refl _ _
  | D :: Ds, W => ((mod_putObj W D (.deferred none)).mono (by simp)).trans ((closeAll_mod Ds _).mono (by simp +contextual))
/-- Are all of them rows that nothing is left in? -/
def Shut (Ds : List Nat) (W : World) : Prop := Ds.Nodup ∧ ∀ D ∈ Ds, W.heap[D]? = some (.deferred (some []))
theorem shut_nil (W : World) : Shut [] W := ⟨List.nodup_nil, by simp⟩
theorem Shut.mod {Ds S : List Nat} {W W' : World} (h : Shut Ds W) (hm : Mod S W W') (hs : ∀ D ∈ Ds, D ∉ S) : Shut Ds W' :=
  ⟨h.1, fun D hD => hm.heap (h.2 D hD) (hs D hD)⟩
theorem Shut.lt {Ds : List Nat} {W : World} (h : Shut Ds W) : ∀ D ∈ Ds, D < W.heap.size := fun D hD => (Array.getElem?_eq_some_iff.1 (h.2 D hD)).1
theorem Shut.cons {Ds : List Nat} {W : World} {D : Nat} (h : Shut Ds W) (hD : W.heap[D]? = some (.deferred (some []))) (hn : D ∉ Ds) : Shut (D :: Ds) W :=
  ⟨List.nodup_cons.2 ⟨hn, h.1⟩, fun x hx => by rcases List.mem_cons.1 hx with rfl | hx; exact hD; exact h.2 x hx⟩
theorem leaves_all {P : Program} {fn : Func} {R : Ending → World → Prop} {tmps : Array Value} : ∀ (Ds : List Nat) (W : World), Shut Ds W →
    (∃ v, (results fn tmps).run P (closeAll Ds W) = .ok v (closeAll Ds W) ∧ R (.returned v) (closeAll Ds W)) → LeavesInM Fence.wide 3 P fn tmps R (Ds.map coll) .returning W
  | [], W, _, h => h
  | D :: Ds, W, hS, h => ⟨by simp, .inl ⟨_, _, rfl, run_takeDeferred (hS.2 D (by simp)), leaves_all Ds _
      ⟨(List.nodup_cons.1 hS.1).2, fun x hx => (World.putObj_heap_other (show x ≠ D from fun e => (List.nodup_cons.1 hS.1).1 (by rw [← e]; exact hx))).trans (hS.2 x (by simp [hx]))⟩ h⟩⟩
theorem leaveN {P : Program} {fn : Func} {R : Ending → World → Prop} {Ds : List Nat} {tmps : Array Value} {W : World} {v : Value} (hS : Shut Ds W)
    (hres : (results fn tmps).run P (closeAll Ds W) = .ok v (closeAll Ds W)) (hR : R (.returned v) (closeAll Ds W)) :
    bodyPostM Fence.wide 3 P fn R .ret { tmps := tmps, defers := Ds.map coll } W := leaves_all Ds W hS ⟨v, hres, hR⟩
theorem closeAll_blk {Ds : List Nat} {W : World} {b : Nat} {T : TypeId} {cs : List Value} (hS : Shut Ds W) (h : Blk W b T cs) : Blk (closeAll Ds W) b T cs := by
  refine (closeAll_mod Ds W).blk h fun hb => ?_
  have := hS.2 b hb
  unfold Blk at h
  rw [h] at this; cases this
end Go.YtpobjhmfidebbaaRange
