/- What is proved: how a slice of pairs of integers that came in is read. No condition beyond those in each statement. -/
import Derived.Test.YtlidnhmagleehaaAt
import Derived.ChangeSame
namespace Go.Proofs.Ytlidnhmagleehaa
open Go.ChangeShapes Go.WideShapes Go.ChangeAt Go.RowKit

variable {H : Type} {enc : TypeId × Value → H} {w : World} {base : Nat} {spare : Nat → Bool} {held : Bool}
theorem cells55 : Try.prog.cellsOf 55 = 2 := by kernel_rfl
/-- One pair of integers behind a slice. -/
theorem edge_read {fuel : Nat} {a : Addr} {y : DataW H × List MemPlace} (h : (w.cells? base a 2).bind (DataW.trod enc Try.prog w base spare held fuel 55) = some y) :
    ∃ x0 x1 : Int, w.cell? a = some (.int .i64 x0) ∧ w.cell? (a.add 1) = some (.int .i64 x1) ∧ (Lit.int .i64 x0).wf = true ∧ (Lit.int .i64 x1).wf = true := by
  rw [Option.bind_eq_some_iff] at h
  obtain ⟨cs, hcs, hy⟩ := h
  obtain ⟨_, hlen, hat⟩ := World.cells?_some hcs
  obtain ⟨c0, c1, rfl⟩ := list2 cs hlen
  obtain ⟨y0, y1, m, _, _, hy0, hy1⟩ := trod_struct2 Try.underlying55 hy
  rw [cells3] at hy0 hy1
  obtain ⟨x0, e0, _, w0⟩ := DataW.trod_int Try.underlying3 hy0
  obtain ⟨x1, e1, _, w1⟩ := DataW.trod_int Try.underlying3 hy1
  simp at e0 e1
  subst e0 e1
  have a0 := hat 0 (by omega)
  have a1 := hat 1 (by omega)
  simp [Addr.add] at a0
  exact ⟨x0, x1, a0, by simpa using a1, w0, w1⟩
theorem open_edges {fuel : Nat} {a : Option Addr} {len cap : Nat} {x : DataW H × List MemPlace}
    (h : DataW.trod enc Try.prog w base spare held fuel 22 [.slice a len cap] = some x) :
    ∃ ps : List (Int × Int), len = ps.length ∧ RdE w a ps ∧ len ≤ cap ∧ cap ≤ 9223372036854775807 ∧ (a = none → cap = 0) ∧ ∀ p ∈ ps, (Lit.int .i64 p.1).wf = true ∧ (Lit.int .i64 p.2).wf = true := by
  rcases DataW.trod_slice Try.underlying22 h with ⟨h0, _⟩ | ⟨b, l, c, elems, rest, n, _, hcs, _, hb, hl, hm, hlen, hel, _, _⟩
  · simp at h0
    obtain ⟨rfl, rfl, rfl⟩ := h0
    exact ⟨[], rfl, fun hne => absurd rfl hne, by omega, by omega, fun _ => rfl, fun p hp => by simp at hp⟩
  · simp at hcs
    obtain ⟨rfl, rfl, rfl⟩ := hcs
    rw [cells55] at hel
    obtain ⟨ps, hps, hat⟩ := list_of (fun i (p : Int × Int) => (w.cell? (b.add (i * 2)) = some (.int .i64 p.1) ∧ w.cell? ((b.add (i * 2)).add 1) = some (.int .i64 p.2)) ∧ (Lit.int .i64 p.1).wf = true ∧ (Lit.int .i64 p.2).wf = true) len (fun i hi => by
      obtain ⟨x0, x1, h0, h1, r0, r1⟩ := edge_read ((hel i hi).trans (List.getElem?_eq_getElem (by omega)))
      exact ⟨(x0, x1), ⟨h0, h1⟩, r0, r1⟩)
    refine ⟨ps, hps.symm, fun hne => ?_, hl, by simpa [maxLen] using hm, (fun h' => by cases h'), fun p hp => ?_⟩
    · have hpos : 0 < ps.length := List.length_pos_iff.2 hne
      obtain ⟨b0, off, spot⟩ := b
      have h0 := (hat 0 hpos).1.1
      have hspot : spot = none := by simpa [Addr.add] using World.cell?_spot h0
      subst hspot
      refine ⟨b0, off, rfl, ?_, fun i hi => ?_⟩
      · exact World.block_lt_of_cell? _ _ (by simpa [Addr.add] using h0)
      · obtain ⟨⟨q0, q1⟩, _⟩ := hat i hi
        have e1 : (⟨b0, off, none⟩ : Addr).add (i * 2) = ⟨b0, off + i * 2, none⟩ := by
          unfold Addr.add
          split
          · simp
          · rfl
        rw [e1] at q0 q1
        exact ⟨q0, by simpa [Addr.add] using q1⟩
    · obtain ⟨i, hi, rfl⟩ := List.getElem_of_mem hp
      exact (hat i hi).2
theorem i64_in {x : Int} (h : (Lit.int .i64 x).wf = true) : -9223372036854775808 ≤ x ∧ x ≤ 9223372036854775807 := by
  simp [Lit.wf, IntKind.min, IntKind.max, IntKind.signed, IntKind.bits] at h
  omega
end Go.Proofs.Ytlidnhmagleehaa
