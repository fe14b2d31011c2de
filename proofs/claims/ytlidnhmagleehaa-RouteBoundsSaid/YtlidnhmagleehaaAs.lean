/- What is proved: how an array of two bytes that came in is read. No condition beyond those in each statement. -/
import Derived.Test.YtlidnhmagleehaaAr
namespace Go.Proofs.Ytlidnhmagleehaa
open Go.ChangeShapes Go.WideShapes Go.ChangeAt Go.RowKit
variable {H : Type} {enc : TypeId × Value → H} {w : World} {base : Nat} {spare : Nat → Bool} {held : Bool}
theorem open_u8x2 {r : Reach} {v : Value} {d : DataW H} {p : List MemPlace} (hv : Value.okWide Try.prog w r base 57 v) (h : DataW.Trod enc Try.prog w 0 spare held 57 v d p) :
    ∃ x0 x1 : Int, v = .agg #[.int .u8 x0, .int .u8 x1] ∧ d = .agg [.lit (.int .u8 x0), .lit (.int .u8 x1)] ∧ p = [] ∧ (Lit.int .u8 x0).wf = true ∧ (Lit.int .u8 x1).wf = true := by
  obtain ⟨cs, rfl, hsz, _⟩ : ∃ cs, v = .agg cs ∧ cs.size = Try.prog.cellsOf 57 ∧ Row.okWide Try.prog w r base 57 cs := by
    simpa [Value.okWide, Try.underlying57] using hv
  rw [cells57] at hsz
  obtain ⟨l⟩ := cs
  obtain ⟨c0, c1, rfl⟩ := list2 l hsz
  obtain ⟨fuel, hf⟩ := h
  obtain ⟨y0, y1, m, hx, hy0, hy1⟩ := trod_arr2 Try.underlying57 cells5 hf
  obtain ⟨x0, e0, rfl, w0⟩ := DataW.trod_int Try.underlying5 hy0
  obtain ⟨x1, e1, rfl, w1⟩ := DataW.trod_int Try.underlying5 hy1
  simp at e0 e1
  subst e0 e1
  simp only [Prod.mk.injEq] at hx
  obtain ⟨rfl, rfl⟩ := hx
  exact ⟨x0, x1, rfl, rfl, rfl, w0, w1⟩
theorem shut_u8x2 {x0 x1 : Int} (w0 : (Lit.int .u8 x0).wf = true) (w1 : (Lit.int .u8 x1).wf = true) :
    DataW.Trod enc Try.prog w 0 spare held 57 (.agg #[.int .u8 x0, .int .u8 x1]) (DataW.agg [.lit (.int .u8 x0), .lit (.int .u8 x1)]) [] :=
  ⟨2, by simp [DataW.trod, Value.cells, Try.underlying57, Try.underlying5, cells57, cells5, w0, w1, show List.range 2 = [0, 1] from rfl]⟩
end Go.Proofs.Ytlidnhmagleehaa
