/- What is proved: learn, asks. No condition beyond those in each statement. -/
import Derived.Test.YtahjgdikjaakbaaH
namespace Go.Proofs.Ytahjgdikjaakbaa
open Go.RowKit

theorem Row.set {w : World} {e : TypeId} {g off cap : Nat} {xs : List Value} (h : Row w e g off cap xs) (j : Nat) (hj : j < xs.length) (v : Value) : Row (w.setCell ⟨g, off + j, none⟩ v) e g off cap (xs.set j v) := by
  obtain ⟨cur, h1, h2, h3, h4, h5⟩ := h
  refine ⟨_, heap_setCell_same w g (off + j) cur e v h1, by rw [List.length_set]; exact h2, h3, by rw [Array.size_setIfInBounds]; exact h4, ?_⟩
  rw [List.length_set]
  apply List.ext_getElem?
  intro p
  rw [List.getElem?_take]
  by_cases hp : p < xs.length
  · rw [if_pos hp, List.getElem?_drop, Array.getElem?_toList, Array.getElem?_setIfInBounds, List.getElem?_set]
    have e1 : ((cur.toList.drop off).take xs.length)[p]? = xs[p]? := by rw [h5]
    rw [List.getElem?_take, if_pos hp, List.getElem?_drop, Array.getElem?_toList] at e1
    by_cases hjp : j = p
    · subst hjp
      rw [if_pos rfl, if_pos (by omega), if_pos rfl, if_pos hj]
    · rw [if_neg (by omega), if_neg hjp]
      exact e1
  · rw [if_neg hp, List.getElem?_eq_none (by rw [List.length_set]; omega)]
theorem Low.cR {w : World} {T : Nat} {s : LS} (h : Low w T s) {i : Nat} (hi : i < s.n) : w.cell? ⟨s.R, i * 2, none⟩ = some (.slice (some ⟨s.K i, 0, none⟩) s.n (s.Kc i)) ∧ w.cell? ⟨s.R, i * 2 + 1, none⟩ = some (.int .i64 (s.mood.getD i 0)) := by
  obtain ⟨cur, h1, _, h3⟩ := h.hR
  rw [cell_of_row w s.R _ cur 77 (0, 0) h1, cell_of_row w s.R _ cur 77 (0, 0) h1]
  exact h3 i hi
theorem Low.fR {w : World} {T : Nat} {s : LS} (h : Low w T s) (i : Nat) : w.frozen? ⟨s.R, i, none⟩ = false := by
  obtain ⟨cur, h1, _⟩ := h.hR
  simp [World.frozen?, h1]
theorem intsV_at (l : List Int) (j : Nat) (h : j < (intsV l).length) : (intsV l)[j] = Value.int .i64 (l.getD j 0) := by
  have h2 : j < l.length := by rw [intsV_len] at h; exact h
  simp [intsV, List.getD_eq_getElem?_getD, h2]
theorem intsV_set (l : List Int) (j : Nat) (v : Int) : (intsV l).set j (.int .i64 v) = intsV (l.set j v) := by
  simp [intsV, List.map_set]
theorem Low.cK {w : World} {T : Nat} {s : LS} (h : Low w T s) {i j : Nat} (hi : i < s.n) (hj : j < s.n) : w.cell? ⟨s.K i, j, none⟩ = some (.int .i64 ((s.known.getD i []).getD j 0)) := by
  have hl := h.lki i hi
  have := (h.hK i hi).at j (by rw [intsV_len]; omega)
  rw [Nat.zero_add] at this
  rw [this]
  rw [intsV_at]
set_option maxHeartbeats 2000000 in
theorem learn_low {w : World} {R K n kc o : Nat} {y : Int} (j : Nat) (no : Int) (c0 : w.cell? ⟨R, o, none⟩ = some (.slice (some ⟨K, 0, none⟩) n kc)) (d : w.cell? ⟨K, j, none⟩ = some (.int .i64 y)) (f : w.frozen? ⟨K, j, none⟩ = false) (hj : j < n) :
    Calls Try.prog 50 #[.pointer (some ⟨R, o, none⟩), .int .i64 j, .int .i64 no] w fun e w' => e = .returned (.tuple #[]) ∧ ∃ q, w' = (w.drewN q).setCell ⟨K, j, none⟩ (.int .i64 (max y no)) := by
  have z1 : (0 : Int) ≤ (j : Int) ∧ (j : Int) < n := by omega
  by_cases hlt : y < no
  · have e : max y no = no := by omega
    rw [e]
    clear e
    go_enter Try.func50, Try.ntmps50
    go_wp2_with fail
    go_region
    all_goals
      try go_wp2_with fail
      go_end0
      exact ⟨rfl, 1, rfl⟩
  · have e : max y no = y := by omega
    rw [e]
    clear e
    go_enter Try.func50, Try.ntmps50
    go_wp2_with fail
    go_region
    all_goals
      try go_wp2_with fail
      go_end0
      exact ⟨rfl, 1, rfl⟩
end Go.Proofs.Ytahjgdikjaakbaa
