/- What is proved: progressions (contracts of functions of paint, and what they need). No condition beyond those in each statement. -/
import Derived.Test.YthnhmfmlhlpggaaPtD
namespace Go.Proofs.Ythnhmfmlhlpggaa.Pt
open Go.RowKit
set_option maxRecDepth 100000

set_option maxHeartbeats 400000 in
theorem sumless1_calls (A : Option Addr) (n c : Nat) (cs : List Int) (w : World) (hn : n = cs.length) (hn2 : n ≤ 1000) (hA : Rd w A cs) (hl : n ≤ c) (hc : c ≤ 9223372036854775807) :
    Calls Try.prog 72 #[.slice A n c] w fun e w' => e = .returned (.bool (sumF cs).isNone) ∧ Below w.heap.size w w' := by
  have qT : ∀ (w : World) (a : Option Addr) (n c n' c' : Nat), (binOp .eql 27 (.slice a n c) (.slice none n' c')).run Try.prog w = .ok (.bool a.isNone) w := fun w a n c n' c' => Lib.run_eql_slice_nil w _ _ a n c n' c' Try.underlying27
  have HC := Lib.hid (sum_calls A n c cs w hn hn2 hA hl hc)
  clear hn hA
  go_enter Try.func72, Try.ntmps72
  go_wp2_with fail
  refine HC.out.mono ?_
  rintro e w1 ⟨v, rfl, ho, hB⟩
  have HB := Lib.hid hB
  clear hB
  cases hr : sumF cs with
  | none =>
    rw [hr] at ho
    obtain rfl : v = .slice none 0 0 := ho
    have HR := Lib.hid hr
    clear hr
    go_wp2_with fail
    go_ret
    exact ⟨ret_bool (by simp [HR.out]), HB.out⟩
  | some r =>
    rw [hr] at ho
    obtain ⟨⟨a, m, c', rfl⟩, _⟩ := ho
    have HR := Lib.hid hr
    clear hr
    go_wp2_with fail
    go_ret
    exact ⟨ret_bool (by simp [HR.out]), HB.out⟩

end Go.Proofs.Ythnhmfmlhlpggaa.Pt
