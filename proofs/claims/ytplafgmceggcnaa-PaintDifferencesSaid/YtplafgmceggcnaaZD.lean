/- What is proved: the law of avoided patterns. No condition beyond those in each statement. -/
import Derived.Test.YtplafgmceggcnaaZE
import Derived.Test.YtplafgmceggcnaaZC
namespace Go.Proofs.Ytplafgmceggcnaa
open Go.RowKit

theorem leaves_last {below : Nat} {good : List Int → Bool} {f : Nat} {xs : List Int} (h : xs ∈ leaves below good f []) (hf : 1 ≤ f) : good xs = true ∧ xs.length = f ∧ ∀ y ∈ xs, 0 ≤ y ∧ y < below := by
  obtain ⟨ys, rfl, h1, h2, h3⟩ := mem_leaves.1 h
  have := h3 f hf (Nat.le_refl _)
  rw [List.take_of_length_le (by omega)] at this
  refine ⟨this, by simpa using h1, fun y hy => ?_⟩
  obtain ⟨c, hc, rfl⟩ := h2 y (by simpa using hy)
  omega
theorem inRange_of {r : Int} {xs : List Int} (h : ∀ y ∈ xs, 0 ≤ y ∧ y < r) : inRange r xs = true := by
  unfold inRange
  rw [Bool.not_eq_true', List.any_eq_false]
  intro y hy
  have := h y hy
  simp; omega
theorem free_form {n : Nat} {k l : Int} {xs : List Int} (h : Free n k l xs) : (decide ((xs.length : Int) = (npairs n : Nat)) && inRange 2 xs) = true := by
  rw [Bool.and_eq_true, decide_eq_true_eq]
  refine ⟨by rw [h.1], inRange_of fun y hy => ?_⟩
  rcases h.2.1 y hy with rfl | rfl <;> omega
theorem free_clique {n k l : Nat} (hn : 1 ≤ n ∧ n ≤ 8) (hk : 2 ≤ k ∧ k ≤ 4) (hl : 2 ≤ l ∧ l ≤ 4) {xs : List Int} (h : Free n k l xs) : CliqueR n xs 0 k = (none, 5) ∧ CliqueR n xs 1 l = (none, 5) := by
  have hf := free_form h
  constructor
  · rw [CliqueR_ok (by omega) hf, cliqueF_free.2 (by simpa using h.2.2.1)]; rfl
  · rw [CliqueR_ok (by omega) hf, cliqueF_free.2 (by simpa using h.2.2.2)]; rfl
theorem sumless_none {n r : Nat} (hn : 1 ≤ n ∧ n ≤ 14) (hr : r ≤ 3) {xs : List Int} (h : xs ∈ sumlessL n r) : SumR xs = (none, 5) ∧ xs.length = n := by
  obtain ⟨h1, h2, h3⟩ := leaves_last h hn.1
  have hs : sumF xs = none := by simpa using h1
  refine ⟨?_, h2⟩
  rw [SumR_ok (by omega) (by omega) (inRange_of fun y hy => by have := h3 y hy; omega), hs]; rfl
theorem stepless_none {n r k : Nat} (hn : 1 ≤ n ∧ n ≤ 20) (hr : r ≤ 3) (hk : k = 3 ∨ k = 4) {xs : List Int} (h : xs ∈ steplessL n r k) : ProgR xs k = (none, 5) ∧ xs.length = n := by
  obtain ⟨h1, h2, h3⟩ := leaves_last h hn.1
  have hs : progF xs k = none := by simpa using h1
  refine ⟨?_, h2⟩
  rw [ProgR_ok (stepsB_iff.2 (by omega)) (by omega) (by omega) (inRange_of fun y hy => by have := h3 y hy; omega), Int.toNat_natCast, hs]; rfl
end Go.Proofs.Ytplafgmceggcnaa
