/- What is proved: words for maps from integers to integers. No condition beyond those in each statement. -/
import Derived.Test.YthnhmfmlhlpggaaU
import Derived.Maps.Own
import Derived.Maps.Views
namespace Go.Proofs.Ythnhmfmlhlpggaa
open Go.RowKit
open Go.Maps (Keyed)
set_option maxRecDepth 100000

theorem law3 : Keyed Try.prog 3 := Maps.int_keyed Try.underlying3
theorem key3 (x : Int) (h : (Lit.int .i64 x).wf = true) : keyOf Try.prog 3 (.int .i64 x) = some (.int .i64 x) := by
  simp [keyOf, Try.underlying3, mapKey, h]

/-- A map that reads as a function. -/
def Mi (w : World) (m n : Nat) (f : Int → Int) : Prop :=
  ∃ D : DataW Unit, w.ownsMap Try.prog 3 (plainElem Try.prog 3) m n D ∧ Maps.IsMap D ∧ ∀ x, D.atKey (.int .i64 x) (.lit (.int .i64 0)) = .lit (.int .i64 (f x))
theorem mi_new (w : World) : Mi (w.alloc (.map #[] 0)) w.heap.size 0 (fun _ => 0) := ⟨.map [], World.ownsMap_made w _ _ _, ⟨_, rfl⟩, fun _ => rfl⟩
theorem Mi.lt {w : World} {m n : Nat} {f : Int → Int} (h : Mi w m n f) : m < w.heap.size := by obtain ⟨D, h, _⟩ := h; exact h.lt
theorem Mi.kept {w w' : World} {m n : Nat} {f : Int → Int} {row : Option Nat} (h : Mi w m n f) (hg : w.grownBy w' row) (hne : some m ≠ row) : Mi w' m n f := by
  obtain ⟨D, h, h1, h2⟩ := h
  exact ⟨D, h.kept hg hne, h1, h2⟩
theorem Mi.below {w w' : World} {m n : Nat} {f : Int → Int} (h : Mi w m n f) (hb : Below w.heap.size w w') : Mi w' m n f :=
  h.kept (row := none) ⟨hb.os, hb.tape, hb.output, hb.size, fun k hk _ => hb.block k hk⟩ (by simp)
theorem mi_lookup {w : World} {m n : Nat} {f : Int → Int} (h : Mi w m n f) (x : Int) (hx : (Lit.int .i64 x).wf = true) : (Instr.lookup 96 (.map (some m)) (.int .i64 x) false).run Try.prog w = .ok (.int .i64 (f x)) w := by
  obtain ⟨D, h, _, h2⟩ := h
  obtain ⟨c, hrun, hat, _⟩ := h.lookup_int law3 Try.underlying96 Try.underlying3 (by rfl) (key3 x hx)
  rw [h2 x] at hat
  injection hat with e
  injection e with _ e
  rw [hrun, e]
theorem mi_update {w : World} {m n : Nat} {f : Int → Int} (h : Mi w m n f) (hn : n < 1000000) (x v : Int) (hx : (Lit.int .i64 x).wf = true) (hv : (Lit.int .i64 v).wf = true) :
    ∃ w', (Instr.mapUpdate 96 (.map (some m)) (.int .i64 x) (.int .i64 v)).run Try.prog w = .ok () w' ∧ Mi w' m (n + 1) (fun y => if y = x then v else f y) ∧ w.grownBy w' (some m) := by
  obtain ⟨D, h, h1, h2⟩ := h
  obtain ⟨w', hrun, ho, hg⟩ := h.update law3 Try.underlying96 (by simp [maxLen]; omega) (key3 x hx) (plainElem_int Try.underlying3 hv)
  refine ⟨w', hrun, ⟨_, ho, (by obtain ⟨es, rfl⟩ := h1; exact ⟨_, rfl⟩), fun y => ?_⟩, hg⟩
  show _ = DataW.lit (Lit.int .i64 (if y = x then v else f y))
  by_cases e : y = x
  · rw [if_pos e, e]
    exact Maps.atKey_put_same h1 (by trivial) _ _
  · rw [if_neg e, Maps.atKey_put_other (by intro e'; injection e' with _ e'; exact e e')]
    exact h2 y
end Go.Proofs.Ythnhmfmlhlpggaa
