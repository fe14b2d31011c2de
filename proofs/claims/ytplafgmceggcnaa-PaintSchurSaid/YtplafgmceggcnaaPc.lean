/- What is proved: for which numbers there is a coloring without sums, or without progressions. No condition beyond those in each statement. -/
import Derived.Test.YtplafgmceggcnaaPa
namespace Go.Proofs.Ytplafgmceggcnaa
open Go.RowKit
set_option maxHeartbeats 4000000 in
theorem schur (n : Nat) : (sumlessL n 1).head?.isSome = decide (n < 2) ∧ (sumlessL n 2).head?.isSome = decide (n < 5) ∧ (sumlessL n 3).head?.isSome = decide (n < 14) := by
  refine ⟨leaves_bar ?_ ?_ n, leaves_bar ?_ ?_ n, leaves_bar ?_ ?_ n⟩ <;> decide +kernel
theorem waerden (n : Nat) : (steplessL n 2 3).head?.isSome = decide (n < 9) ∧ (steplessL n 1 3).head?.isSome = decide (n < 3) ∧ (steplessL n 1 4).head?.isSome = decide (n < 4) := by
  refine ⟨leaves_bar ?_ ?_ n, leaves_bar ?_ ?_ n, leaves_bar ?_ ?_ n⟩ <;> decide +kernel

end Go.Proofs.Ytplafgmceggcnaa
