/- What is proved: how a slice of bytes that came in is read. No condition beyond those in each statement. -/
import Derived.Test.YthnhmfmlhlpggaaAr
import Derived.ChangeOld
namespace Go.Proofs.Ythnhmfmlhlpggaa
open Go.ChangeShapes Go.WideShapes Go.ChangeAt Go.RowKit
set_option maxRecDepth 100000

theorem rdU_of_cells {w : World} {x : Addr} {len : Nat} {zs : List Int} (hc : ∀ i, i < zs.length → w.cell? (x.add i) = some (.int .u8 (zs.getD i 0))) : RdU w (some x) (zs.take len) := by
  intro hne
  have hpos : 0 < zs.length := by
    rcases Nat.eq_zero_or_pos zs.length with h | h
    · rw [List.eq_nil_of_length_eq_zero h] at hne; simp at hne
    · exact h
  obtain ⟨b, off, spot⟩ := x
  have h0 := hc 0 hpos
  have hspot : spot = none := by simpa [Addr.add] using World.cell?_spot h0
  subst hspot
  refine ⟨b, off, rfl, ?_, fun i hi => ?_⟩
  · rw [addr_add] at h0
    exact World.block_lt_of_cell? _ _ h0
  · have hi' : i < zs.length := by rw [List.length_take] at hi; omega
    have := hc i hi'
    rw [addr_add, getD_lt _ () hi'] at this
    rw [this, List.getElem_take]
variable {H : Type} {enc : TypeId × Value → H} {w : World} {base : Nat} {spare : Nat → Bool} {held : Bool}
theorem open_bytes {fuel : Nat} {a : Option Addr} {len cap : Nat} {x : DataW H × List MemPlace}
    (h : DataW.trod enc Try.prog w base spare held fuel 46 [.slice a len cap] = some x) :
    ∃ bs : List Int, len = bs.length ∧ RdU w a bs ∧ len ≤ cap ∧ cap ≤ 9223372036854775807 ∧ ∀ b ∈ bs, 0 ≤ b ∧ b ≤ 255 := by
  rcases open_ints Try.underlying46 Try.underlying5 cells5 h with ⟨hcs, _⟩ | ⟨x, l, c, zs, hcs, _, hl, hm, hz, _, hcell, hwz⟩
  · simp at hcs
    obtain ⟨rfl, rfl, rfl⟩ := hcs
    exact ⟨[], rfl, fun hne => absurd rfl hne, Nat.le_refl _, by omega, fun b hb => by cases hb⟩
  · simp at hcs
    obtain ⟨rfl, rfl, rfl⟩ := hcs
    exact ⟨zs.take len, by have hz2 : len ≤ zs.length := (by have h9 := hz; split at h9 <;> omega); rw [List.length_take]; omega, rdU_of_cells hcell, hl, by simpa [maxLen] using hm, fun b hb => u8_in (hwz b (List.mem_of_mem_take hb))⟩
end Go.Proofs.Ythnhmfmlhlpggaa
