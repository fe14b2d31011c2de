/- What is proved: how a slice of bytes and a slice of integers that came in are read. No condition beyond those in each statement. -/
import Derived.Test.YtlidnhmagleehaaAs
import Derived.Test.YtlidnhmagleehaaV
import Derived.ChangeOld
namespace Go.Proofs.Ytlidnhmagleehaa
open Go.ChangeShapes Go.WideShapes Go.ChangeAt Go.RowKit

theorem rdU_of_cells {w : World} {x : Addr} {len : Nat} {zs : List Int} (hc : ∀ i, i < zs.length → w.cell? (x.add i) = some (.int .u8 (zs.getD i 0))) : RdU w (some x) (zs.take len) := by
  intro hne
  have hpos : 0 < zs.length := by
    rcases Nat.eq_zero_or_pos zs.length with h | h
    · rw [List.eq_nil_of_length_eq_zero h] at hne; simp at hne
    · exact h
  obtain ⟨b, off, spot⟩ := x
  have h0 := hc 0 hpos
  have hspot : spot = none := by simpa [Addr.add] using World.cell?_spot h0
  subst hspot
  refine ⟨b, off, rfl, ?_, fun i hi => ?_⟩
  · rw [addr_add] at h0
    exact World.block_lt_of_cell? _ _ h0
  · have hi' : i < zs.length := by rw [List.length_take] at hi; omega
    have := hc i hi'
    rw [addr_add, getD_lt _ () hi'] at this
    rw [this, List.getElem_take]
variable {H : Type} {enc : TypeId × Value → H} {w : World} {base : Nat} {spare : Nat → Bool} {held : Bool}
theorem open_bytes {fuel : Nat} {a : Option Addr} {len cap : Nat} {x : DataW H × List MemPlace}
    (h : DataW.trod enc Try.prog w base spare held fuel 39 [.slice a len cap] = some x) :
    ∃ bs : List Int, len = bs.length ∧ RdU w a bs ∧ len ≤ cap ∧ cap ≤ 9223372036854775807 ∧ ∀ b ∈ bs, 0 ≤ b ∧ b ≤ 255 := by
  rcases open_ints Try.underlying39 Try.underlying5 cells5 h with ⟨hcs, _⟩ | ⟨x, l, c, zs, hcs, _, hl, hm, hz, _, hcell, hwz⟩
  · simp at hcs
    obtain ⟨rfl, rfl, rfl⟩ := hcs
    exact ⟨[], rfl, fun hne => absurd rfl hne, Nat.le_refl _, by omega, fun b hb => by cases hb⟩
  · simp at hcs
    obtain ⟨rfl, rfl, rfl⟩ := hcs
    exact ⟨zs.take len, by have hz2 : len ≤ zs.length := (by have h9 := hz; split at h9 <;> omega); rw [List.length_take]; omega, rdU_of_cells hcell, hl, by simpa [maxLen] using hm, fun b hb => u8_in (hwz b (List.mem_of_mem_take hb))⟩
theorem open_row {fuel : Nat} {a : Option Addr} {len cap : Nat} {x : DataW H × List MemPlace}
    (h : DataW.trod enc Try.prog w base spare held fuel 27 [.slice a len cap] = some x) :
    ∃ zs : List Int, len = zs.length ∧ Rd w a zs ∧ len ≤ cap ∧ cap ≤ 9223372036854775807 ∧ (a = none → cap = 0) ∧ ∀ b ∈ zs, (Lit.int .i64 b).wf = true := by
  rcases open_ints Try.underlying27 Try.underlying3 cells3 h with ⟨hcs, _⟩ | ⟨x, l, c, zs, hcs, _, hl, hm, hz, _, hcell, hwz⟩
  · simp at hcs
    obtain ⟨rfl, rfl, rfl⟩ := hcs
    exact ⟨[], rfl, fun hne => absurd rfl hne, Nat.le_refl _, by omega, fun _ => rfl, fun b hb => by cases hb⟩
  · simp at hcs
    obtain ⟨rfl, rfl, rfl⟩ := hcs
    exact ⟨zs.take len, by have hz2 : len ≤ zs.length := (by have h9 := hz; split at h9 <;> omega); rw [List.length_take]; omega, rd_of_cells hcell, hl, by simpa [maxLen] using hm, (fun h' => by cases h'), fun b hb => hwz b (List.mem_of_mem_take hb)⟩
end Go.Proofs.Ytlidnhmagleehaa
