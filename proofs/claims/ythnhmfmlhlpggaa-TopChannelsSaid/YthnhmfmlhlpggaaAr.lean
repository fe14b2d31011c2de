/- What is proved: how a slice of pairs of bytes that came in is read. No condition beyond those in each statement. -/
import Derived.Test.YthnhmfmlhlpggaaRows
import Derived.Test.YthnhmfmlhlpggaaO
import Derived.WalkKit
import Derived.ProofKit
import Derived.OpenShut
import Derived.Laws.IdiomArrays
namespace Go.Proofs.Ythnhmfmlhlpggaa
open Go.ChangeShapes Go.WideShapes Go.ChangeAt Go.RowKit

theorem cells5 : Try.prog.cellsOf 5 = 1 := by kernel_rfl
theorem cells3 : Try.prog.cellsOf 3 = 1 := by kernel_rfl
theorem cells24 : Try.prog.cellsOf 24 = 2 := by kernel_rfl
theorem list2 {α : Type} (l : List α) (h : l.length = 2) : ∃ a b, l = [a, b] := by
  match l, h with
  | [a, b], _ => exact ⟨a, b, rfl⟩
theorem u8_in {x : Int} (h : (Lit.int .u8 x).wf = true) : 0 ≤ x ∧ x ≤ 255 := by
  simp [Lit.wf, IntKind.min, IntKind.max, IntKind.signed, IntKind.bits] at h
  omega

variable {H : Type} {enc : TypeId × Value → H} {w : World} {base : Nat} {spare : Nat → Bool} {held : Bool}
theorem trod_arr2 {P : Program} {t e : TypeId} {fuel : Nat} {c0 c1 : Value} {x : DataW H × List MemPlace} (ht : P.underlying t = some (.array 2 e)) (hce : P.cellsOf e = 1)
    (h : DataW.trod enc P w base spare held fuel t [c0, c1] = some x) :
    ∃ y0 y1 n, x = (.agg [y0.1, y1.1], y0.2 ++ y1.2) ∧ DataW.trod enc P w base spare held n e [c0] = some y0 ∧ DataW.trod enc P w base spare held n e [c1] = some y1 := by
  cases fuel with
  | zero => simp [DataW.trod] at h
  | succ n =>
    unfold DataW.trod at h
    rw [ht] at h
    have r2 : List.range 2 = [0, 1] := rfl
    simp [r2, hce] at h
    obtain ⟨_, h⟩ := h
    cases h0 : DataW.trod enc P w base spare held n e [c0] with
    | none => simp [h0] at h
    | some y0 =>
      cases h1 : DataW.trod enc P w base spare held n e [c1] with
      | none => simp [h0, h1] at h
      | some y1 =>
        simp [h0, h1] at h
        exact ⟨y0, y1, n, h.symm, h0, h1⟩

/-- One pair of bytes behind a slice. -/
theorem pair_read {fuel : Nat} {a : Addr} {y : DataW H × List MemPlace} (h : (w.cells? base a 2).bind (DataW.trod enc Try.prog w base spare held fuel 24) = some y) :
    ∃ x0 x1 : Int, w.cell? a = some (.int .u8 x0) ∧ w.cell? (a.add 1) = some (.int .u8 x1) ∧ (0 ≤ x0 ∧ x0 ≤ 255) ∧ (0 ≤ x1 ∧ x1 ≤ 255) := by
  rw [Option.bind_eq_some_iff] at h
  obtain ⟨cs, hcs, hy⟩ := h
  obtain ⟨_, hlen, hat⟩ := World.cells?_some hcs
  obtain ⟨c0, c1, rfl⟩ := list2 cs hlen
  obtain ⟨y0, y1, m, _, hy0, hy1⟩ := trod_arr2 Try.underlying24 cells5 hy
  obtain ⟨x0, e0, _, w0⟩ := DataW.trod_int Try.underlying5 hy0
  obtain ⟨x1, e1, _, w1⟩ := DataW.trod_int Try.underlying5 hy1
  simp at e0 e1
  subst e0 e1
  have a0 := hat 0 (by omega)
  have a1 := hat 1 (by omega)
  simp [Addr.add] at a0
  exact ⟨x0, x1, a0, by simpa using a1, u8_in w0, u8_in w1⟩

/-- A list from its places. -/
theorem list_of {α : Type} (p : Nat → α → Prop) : ∀ n : Nat, (∀ i, i < n → ∃ a, p i a) → ∃ l : List α, l.length = n ∧ ∀ i (hi : i < l.length), p i l[i]
  | 0, _ => ⟨[], rfl, fun i hi => absurd hi (by simp)⟩
  | n + 1, h => by
    obtain ⟨l, hl, hp⟩ := list_of p n (fun i hi => h i (by omega))
    obtain ⟨a, ha⟩ := h n (by omega)
    refine ⟨l ++ [a], by simp [hl], fun i hi => ?_⟩
    by_cases hc : i < l.length
    · rw [List.getElem_append_left hc]; exact hp i hc
    · have : i = n := by simp at hi; omega
      subst this
      rw [List.getElem_append_right (by omega)]
      simpa using ha

theorem open_pairs {fuel : Nat} {a : Option Addr} {len cap : Nat} {x : DataW H × List MemPlace}
    (h : DataW.trod enc Try.prog w base spare held fuel 22 [.slice a len cap] = some x) :
    ∃ ps : List (Int × Int), len = ps.length ∧ RdP w a ps ∧ len ≤ cap ∧ cap ≤ 9223372036854775807 ∧ ∀ p ∈ ps, (0 ≤ p.1 ∧ p.1 ≤ 255) ∧ (0 ≤ p.2 ∧ p.2 ≤ 255) := by
  rcases DataW.trod_slice Try.underlying22 h with ⟨h0, _⟩ | ⟨b, l, c, elems, rest, n, _, hcs, _, hb, hl, hm, hlen, hel, _, _⟩
  · simp at h0
    obtain ⟨rfl, rfl, rfl⟩ := h0
    exact ⟨[], rfl, fun hne => absurd rfl hne, by omega, by omega, fun p hp => by simp at hp⟩
  · simp at hcs
    obtain ⟨rfl, rfl, rfl⟩ := hcs
    rw [cells24] at hel
    obtain ⟨ps, hps, hat⟩ := list_of (fun i (p : Int × Int) => (w.cell? (b.add (i * 2)) = some (.int .u8 p.1) ∧ w.cell? ((b.add (i * 2)).add 1) = some (.int .u8 p.2)) ∧ (0 ≤ p.1 ∧ p.1 ≤ 255) ∧ (0 ≤ p.2 ∧ p.2 ≤ 255)) len (fun i hi => by
      obtain ⟨x0, x1, h0, h1, r0, r1⟩ := pair_read ((hel i hi).trans (List.getElem?_eq_getElem (by omega)))
      exact ⟨(x0, x1), ⟨h0, h1⟩, r0, r1⟩)
    refine ⟨ps, hps.symm, fun hne => ?_, hl, by simpa [maxLen] using hm, fun p hp => ?_⟩
    · have hpos : 0 < ps.length := List.length_pos_iff.2 hne
      obtain ⟨b0, off, spot⟩ := b
      have h0 := (hat 0 hpos).1.1
      have hspot : spot = none := by simpa [Addr.add] using World.cell?_spot h0
      subst hspot
      refine ⟨b0, off, rfl, ?_, fun i hi => ?_⟩
      · exact World.block_lt_of_cell? _ _ (by simpa [Addr.add] using h0)
      · obtain ⟨⟨q0, q1⟩, _⟩ := hat i hi
        have e1 : (⟨b0, off, none⟩ : Addr).add (i * 2) = ⟨b0, off + i * 2, none⟩ := by
          unfold Addr.add
          split
          · simp
          · rfl
        rw [e1] at q0 q1
        exact ⟨q0, by simpa [Addr.add] using q1⟩
    · obtain ⟨i, hi, rfl⟩ := List.getElem_of_mem hp
      exact (hat i hi).2
end Go.Proofs.Ythnhmfmlhlpggaa
