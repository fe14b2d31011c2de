/- PaintFewer returns true for all arrays. No condition beyond the row's own. -/
import Derived.Test.YtplafgmceggcnaaRows
import Derived.Test.YtplafgmceggcnaaAr
import Derived.Test.YtplafgmceggcnaaZG
import Derived.WalkKit
import Derived.ProofKit
import Derived.OpenShut
import Derived.ShutString
import Derived.ChangeOld
import Derived.Below
namespace Go.Proofs.Ytplafgmceggcnaa.paintFewer
open Go.ChangeShapes Go.WideShapes Go.ChangeAt Go.RowKit
open Go.ChangeMaps (open_string shut_string)
set_option linter.unusedVariables false

theorem own : ownKnob Try.prog.godebug = none := by kernel_rfl
theorem laidOut : laidOutB Try.prog = true := by kernel_rfl

/-- WHAT THE WALK IS TOLD OF A SLICE OF INTEGERS THAT CAME IN. -/
def IsRow (k : IntKind) (w : World) (a : Option Addr) (len cap : Nat) (zs : List Int) : Prop :=
  (a = none ∧ len = 0 ∧ cap = 0 ∧ zs = []) ∨
  ∃ x, a = some x ∧ len ≤ cap ∧ cap ≤ maxLen ∧ zs.length = cap ∧ (∀ i, i < zs.length → w.cell? (x.add i) = some (.int k (zs.getD i 0))) ∧ ∀ n ∈ zs, (Lit.int k n).wf = true

theorem walk (x0_0 : Int) (x0_1 : Int) (x0_2 : Int) (x1_0 : Int) (x1_1 : Int) (w : World) (w0_0 : (Lit.int .u8 x0_0).wf = true) (w0_1 : (Lit.int .u8 x0_1).wf = true) (w0_2 : (Lit.int .u8 x0_2).wf = true) (w1_0 : (Lit.int .u8 x1_0).wf = true) (w1_1 : (Lit.int .u8 x1_1).wf = true) :
    Calls Try.prog 10 #[.agg #[.int .u8 x0_0, .int .u8 x0_1, .int .u8 x0_2], .agg #[.int .u8 x1_0, .int .u8 x1_1]] w fun e w' => e = .returned (.bool true) ∧ Below w.heap.size w w' := by
  exact Go.Proofs.Ytplafgmceggcnaa.fewerlaw_calls x0_0 x0_1 x0_2 x1_0 x1_1 (Go.Proofs.Ytplafgmceggcnaa.u8_in w0_0) (Go.Proofs.Ytplafgmceggcnaa.u8_in w0_1) (Go.Proofs.Ytplafgmceggcnaa.u8_in w0_2) (Go.Proofs.Ytplafgmceggcnaa.u8_in w1_0) (Go.Proofs.Ytplafgmceggcnaa.u8_in w1_1) w

set_option maxRecDepth 100000 in
theorem lifted (os : Os) (started : os.Started) (H : Type) (enc : TypeId × Value → H) :
    ReturnsInHanded {} Try.checked os 10 .any (Rows.paintFewerSpec.pre6 enc Try.prog Try.f10 Rows.paintFewerRow.domain false) (Rows.paintFewerSpec.post enc Try.prog Try.f10 false true false false) := by
  refine returnsInHanded_of_change (C := Try.checked) own started (by kernel_rfl) Try.func10
    (ChangeSpec.witness6 (enc := enc) (C := Try.checked) false ⟨#[], #[.agg #[.int .u8 0, .int .u8 0, .int .u8 0], .agg #[.int .u8 0, .int .u8 0]], []⟩ 8 (by kernel_rfl) (by kernel_rfl) (by kernel_rfl) (by kernel_rfl)) ?_
  intro W base args ds gs before hval0 hW hcnd _
  have hval : ∀ (j : Nat) t v, Try.f10.params[j]? = some t → args[j]? = some v → Value.okWide Try.prog W .any base t v := hval0
  have hW' := hW
  obtain ⟨p, q, hA0, hV, rfl, hfz, hnd⟩ := hW
  have hA : DataW.TrodAll enc Try.prog W 0 (fun _ => true) true Try.f10.params.toList args.toList ds p := hA0
  rw [Try.params10] at hA hval
  obtain ⟨v0, vs0, d0, ds0, p0, q0, hargs, rfl, rfl, h0, r0⟩ := trodAll_cons hA
  obtain ⟨v1, vs1, d1, ds1, p1, q1, rfl, rfl, rfl, h1, r1⟩ := trodAll_cons r0
  obtain ⟨rfl, rfl, rfl⟩ := trodAll_nil r1
  obtain rfl : args = #[v0, v1] := by cases args; simp_all
  obtain ⟨rfl, rfl⟩ := trodVars_none hV
  obtain ⟨x0_0, x0_1, x0_2, rfl, rfl, rfl, w0_0, w0_1, w0_2⟩ := open_u8x3 (hval 0 42 v0 rfl rfl) h0
  obtain ⟨x1_0, x1_1, rfl, rfl, rfl, w1_0, w1_1⟩ := open_u8x2 (hval 1 43 v1 rfl rfl) h1
  clear hA0 hval0
  simp only [List.append_nil] at hW'
  refine (walk x0_0 x0_1 x0_2 x1_0 x1_1 W w0_0 w0_1 w0_2 w1_0 w1_1).mono fun e W' ⟨he, bel⟩ => ?_
  subst he
  exact ⟨_, rfl, _, _, _, [], _, [], hW', trodAll_mk1 (shut_bool Try.underlying4 _), (trodAll_cons_mk (shut_u8x3 w0_0 w0_1 w0_2) (trodAll_cons_mk (shut_u8x2 w1_0 w1_1) trodAll_mk0)), rfl, bel.frame _, fun h => by cases h⟩

theorem over : Rows.paintFewerRow.holds Try.pinned (OpenSpec.ofChange Rows.paintFewerSpec) :=
  OpenClaim.holds_of_wide 10 Try.f10 rfl rfl rfl rfl rfl rfl rfl ⟨rfl, rfl, rfl, rfl, rfl⟩ rfl rfl rfl rfl rfl (by kernel_rfl) Try.func10 (by kernel_rfl)
    (of_decide_eq_true (by kernel_rfl)) (by unfold Func.isWrapper; first | (rw [if_pos (by decide +kernel)]; kernel_rfl) | (rw [if_neg (by decide +kernel)]; exact ⟨rfl, rfl⟩))
    (fun os started H enc _ => lifted os started H enc)

/-- The statement. -/
theorem proved : Rows.PaintFewerSaid := over
#print axioms proved
end Go.Proofs.Ytplafgmceggcnaa.paintFewer
