/- What is proved: for which numbers of vertices there is a coloring without cliques. No condition beyond those in each statement. -/
import Derived.Test.YtplafgmceggcnaaPa
namespace Go.Proofs.Ytplafgmceggcnaa
open Go.RowKit
theorem k633 : (avoidL 6 3 3).head?.isSome = false := by decide +kernel
theorem k533 : (avoidL 5 3 3).head?.isSome = true := by decide +kernel
theorem ksmall : ∀ l : Nat, 2 ≤ l → l ≤ 4 → (avoidL l 2 l).head?.isSome = false ∧ (avoidL l l 2).head?.isSome = false ∧ (avoidL (l - 1) 2 l).head?.isSome = true ∧ (avoidL (l - 1) l 2).head?.isSome = true := by
  have : ∀ l : Nat, l < 5 → 2 ≤ l → (avoidL l 2 l).head?.isSome = false ∧ (avoidL l l 2).head?.isSome = false ∧ (avoidL (l - 1) 2 l).head?.isSome = true ∧ (avoidL (l - 1) l 2).head?.isSome = true := by decide +kernel
  exact fun l h1 h2 => this l (by omega) h1
def wit834 : List Int := (endsOf 8).map fun e => if (e.2 - e.1 == 1 || e.2 - e.1 == 4 || e.2 - e.1 == 7) then 0 else 1
theorem wit834_good : ∀ j, j < 29 → 1 ≤ j → goodW 8 3 4 (wit834.take j) = true := by decide +kernel
theorem np8 : npairs 8 = 28 := rfl
theorem avoid834 : avoidL 8 3 4 ≠ [] := by
  refine List.ne_nil_of_mem (a := wit834) ?_
  unfold avoidL
  exact mem_leaves.2 ⟨wit834, rfl, by decide +kernel, fun y hy => by
    have : ∀ y ∈ wit834, y = 0 ∨ y = 1 := by decide +kernel
    rcases this y hy with rfl | rfl
    · exact ⟨0, by omega, rfl⟩
    · exact ⟨1, by omega, rfl⟩, fun j h1 h2 => wit834_good j (by rw [np8] at h2; omega) h1⟩
theorem avoid33 {n : Nat} (hn : n ≤ 8) : (avoidL n 3 3).head?.isSome = decide (n < 6) := by
  by_cases h : n < 6
  · rw [decide_eq_true h]
    have := avoid_down (by omega) (by omega) (by omega) (by omega : n ≤ 5) (ne_of_head k533)
    cases he : avoidL n 3 3 with
    | nil => exact absurd he this
    | cons => rfl
  · rw [decide_eq_false h]
    cases he : avoidL n 3 3 with
    | nil => rfl
    | cons a t =>
      have := avoid_down (k := 3) (l := 3) (by omega) (by omega) hn (by omega : 6 ≤ n) (by rw [he]; simp)
      exact absurd (eq_of_head k633) this
theorem avoid34 {n : Nat} (hn : n ≤ 8) : (avoidL n 3 4).head?.isSome = true := by
  have := avoid_down (by omega) (by omega) (by omega) (by omega : n ≤ 8) avoid834
  cases he : avoidL n 3 4 with
  | nil => exact absurd he this
  | cons => rfl
theorem avoid2 {n l : Nat} (hn : n ≤ 8) (h2 : 2 ≤ l) (h4 : l ≤ 4) : (avoidL n 2 l).head?.isSome = decide (n < l) ∧ (avoidL n l 2).head?.isSome = decide (n < l) := by
  obtain ⟨q1, q2, q3, q4⟩ := ksmall l h2 h4
  have key : ∀ k k' : Int, 2 ≤ k → 2 ≤ k' → (avoidL l k k').head?.isSome = false → (avoidL (l - 1) k k').head?.isSome = true → (avoidL n k k').head?.isSome = decide (n < l) := by
    intro k k' hk hk' h1 h2
    by_cases h : n < l
    · rw [decide_eq_true h]
      have := avoid_down hk hk' (by omega) (by omega : n ≤ l - 1) (ne_of_head h2)
      cases he : avoidL n k k' with
      | nil => exact absurd he this
      | cons => rfl
    · rw [decide_eq_false h]
      cases he : avoidL n k k' with
      | nil => rfl
      | cons a t =>
        have := avoid_down hk hk' hn (by omega : l ≤ n) (by rw [he]; simp)
        exact absurd (eq_of_head h1) this
  exact ⟨key _ _ (by omega) (by omega) q1 q3, key _ _ (by omega) (by omega) q2 q4⟩
end Go.Proofs.Ytplafgmceggcnaa
