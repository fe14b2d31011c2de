/- What is proved: frames, an append to a row or to nil. No condition beyond those in each statement. -/
import Derived.Test.YtahjgdikjaakbaaE
import Derived.Deep.RegionHeld3
namespace Go.Proofs.Ytahjgdikjaakbaa
open Go.RowKit

theorem info70 : (Try.prog.info? 70).map (fun i => (i.zero, i.size, i.bytes)) = some (some .nilIface, 1, 16) := by kernel_rfl
/-- All blocks but those of X stand as they were. -/
structure Off (X : Nat → Prop) (W w' : World) : Prop where
  os : w'.os = W.os
  tape : w'.tape = W.tape
  output : w'.output = W.output
  size : W.heap.size ≤ w'.heap.size
  block : ∀ k, k < W.heap.size → ¬ X k → w'.heap[k]? = W.heap[k]?
theorem Off.refl (X : Nat → Prop) (w : World) : Off X w w := ⟨rfl, rfl, rfl, Nat.le_refl _, fun _ _ _ => rfl⟩
theorem Off.trans {X : Nat → Prop} {a b c : World} (h : Off X a b) (k : Off X b c) : Off X a c :=
  ⟨k.os.trans h.os, k.tape.trans h.tape, k.output.trans h.output, Nat.le_trans h.size k.size, fun i hi hx => (k.block i (Nat.lt_of_lt_of_le hi h.size) hx).trans (h.block i hi hx)⟩
theorem Off.drew {X : Nat → Prop} {a b : World} (h : Off X a b) : Off X a b.drew := ⟨h.os, h.tape, h.output, h.size, h.block⟩
theorem Off.alloc {X : Nat → Prop} {a b : World} (h : Off X a b) (o : Obj) : Off X a (b.alloc o) :=
  h.trans ⟨rfl, rfl, rfl, by simp, fun k hk _ => Below.heap_alloc _ _ _ hk⟩
theorem Off.grown {X : Nat → Prop} {a b c : World} {row : Option Nat} (h : Off X a b) (g : b.grownBy c row) (hr : ∀ k, row = some k → X k ∨ a.heap.size ≤ k) : Off X a c :=
  ⟨g.os.trans h.os, g.tape.trans h.tape, g.output.trans h.output, Nat.le_trans h.size g.size, fun k hk hx => (g.block k (Nat.lt_of_lt_of_le hk h.size) (fun e => by
    rcases hr k e.symm with h1 | h1
    · exact hx h1
    · omega)).trans (h.block k hk hx)⟩
theorem Off.setCell {X : Nat → Prop} {a b : World} (h : Off X a b) {p : Addr} (hp : X p.block) (v : Value) : Off X a (b.setCell p v) :=
  h.trans ⟨rfl, rfl, rfl, by simp [World.setCell], fun k _ hx => Below.heap_setCell _ _ _ _ (fun e => hx (e ▸ hp))⟩
theorem Off.mono {X Y : Nat → Prop} {a b : World} (h : Off X a b) (hxy : ∀ k, X k → Y k) : Off Y a b := ⟨h.os, h.tape, h.output, h.size, fun k hk hy => h.block k hk fun hx => hy (hxy k hx)⟩
theorem Off.below {X : Nat → Prop} {a b : World} {N : Nat} (h : Off X a b) (hN : N ≤ a.heap.size) (hx : ∀ k, X k → N ≤ k) : Below N a b :=
  ⟨h.os, h.tape, h.output, h.size, fun k hk => h.block k (by omega) fun hX => by have := hx k hX; omega⟩
theorem Off.cell {X : Nat → Prop} {a b : World} (h : Off X a b) {p : Addr} (hl : p.block < a.heap.size) (hx : ¬ X p.block) : b.cell? p = a.cell? p := World.cell?_of_block (h.block p.block hl hx)
theorem sl_push {P : Program} (w : World) (t ty e : TypeId) (i : TypeInfo) (z : Value) (ht : P.underlying t = some (.slice e)) (hi : P.info? e = some i) (hz : i.zero = some z) (hs1 : i.size = 1) (hby : i.bytes ≤ 32) (hzs : z.cells.size = 1)
    {v : Value} {xs : List Value} (h : Sl1 w e v xs) (hl : xs.length ≤ 100000) (a : Addr) (c : Nat) (x : Value) (hx : w.cell? a = some x) (h1 : x.oneCell' = true) :
    ∃ v' w', (Builtin.append_ #[t, t] ty #[v, .slice (some a) 1 c]).run P w = .ok v' w' ∧ Sl1 w' e v' (xs ++ [x]) ∧ w.grownBy w' v.ownBlock ∧ (∃ g, v'.ownBlock = some g ∧ (v.ownBlock = some g ∨ w.heap.size ≤ g)) := by
  rcases h with ⟨rfl, rfl⟩ | ⟨g, off, cap, rfl, h⟩
  · have hnews : ∀ j u, ([x] : List Value)[j]? = some u → w.cell? (a.add j) = some u := by
      intro j u hj
      match j, hj with
      | 0, hj => cases hj; simpa [Addr.add] using hx
    have hr := run_append_nil (P := P) w t ty e i z ht hi hz a 1 c [x] (by rw [hs1]; rfl) hnews (by omega) (by omega) (by omega)
    have hge := grownCap_ge w 1 0 e
    have hcm : grownCap w 1 0 e ≤ maxLen := grownCap_le_maxLen w 1 0 e (by simp [maxLen])
    refine ⟨_, _, hr, .inr ⟨_, 0, _, rfl, _, heap_alloc_new w.drew _, by simpa using hge, hcm, ?_, ?_⟩, ⟨rfl, rfl, rfl, by simp, fun k hk _ => _root_.Go.heap_alloc_old w.drew _ hk⟩, w.heap.size, rfl, .inr (Nat.le_refl _)⟩
    · simp only [Array.size_append, List.size_toArray, size_zeroCells, hzs, List.length_cons, List.length_nil]
      omega
    · simp
  · obtain ⟨g', off', cap', w', hr, hrow, hg, hne⟩ := row_push w t ty e i z ht hi hz hs1 hby hzs rfl h hl a c x hx h1
    refine ⟨_, w', hr, .inr ⟨g', off', cap', by rw [List.length_append]; rfl, hrow⟩, hg, g', rfl, ?_⟩
    rcases hne with rfl | hne
    · exact .inl rfl
    · exact .inr hne
end Go.Proofs.Ytahjgdikjaakbaa
