/- What is proved: the search for an edge colouring finds one (König). No condition beyond those in each statement. -/
import Derived.Test.YthnhmfmlhlpggaaKa
namespace Go.Proofs.Ythnhmfmlhlpggaa.Kn

/-- The first list that goes on with a beginning so that each beginning is good. -/
def colG (bad : List Int → Bool) (many : Nat) : Nat → List Int → Option (List Int)
  | 0, l => some l
  | r + 1, l => (List.range many).findSome? fun c : Nat => if bad (l ++ [(c : Int)]) = true then none else colG bad many r (l ++ [(c : Int)])
/-- The same from some number on. -/
def colFrom (bad : List Int → Bool) (many r : Nat) (l : List Int) (c0 : Nat) : Option (List Int) :=
  (List.range' c0 (many - c0)).findSome? fun c : Nat => if bad (l ++ [(c : Int)]) = true then none else colG bad many r (l ++ [(c : Int)])
theorem colG_succ (bad : List Int → Bool) (many r : Nat) (l : List Int) : colG bad many (r + 1) l = colFrom bad many r l 0 := by
  unfold colFrom
  rw [Nat.sub_zero, ← List.range_eq_range']
  rfl
theorem colFrom_end {bad : List Int → Bool} {many r : Nat} {l : List Int} {c : Nat} (h : many ≤ c) : colFrom bad many r l c = none := by
  unfold colFrom
  rw [show many - c = 0 by omega]
  rfl
theorem colFrom_step {bad : List Int → Bool} {many r : Nat} {l : List Int} {c : Nat} (h : c < many) :
    colFrom bad many r l c = ((if bad (l ++ [(c : Int)]) = true then none else colG bad many r (l ++ [(c : Int)])).or (colFrom bad many r l (c + 1))) := by
  unfold colFrom
  rw [show many - c = (many - (c + 1)) + 1 by omega, List.range'_succ, List.findSome?_cons]
  cases (if bad (l ++ [(c : Int)]) = true then none else colG bad many r (l ++ [(c : Int)])) <;> rfl
theorem colG_some {bad : List Int → Bool} {many : Nat} : ∀ (r : Nat) (l xs : List Int), colG bad many r l = some xs → xs.length = l.length + r ∧ (∃ ys, xs = l ++ ys ∧ ∀ y ∈ ys, 0 ≤ y ∧ y < many) ∧ ∀ k, l.length < k → k ≤ xs.length → bad (xs.take k) = false := by
  intro r
  induction r with
  | zero =>
    intro l xs h
    have : l = xs := by simpa [colG] using h
    subst this
    exact ⟨rfl, ⟨[], by simp, fun y hy => by cases hy⟩, fun k h1 h2 => by omega⟩
  | succ r ih =>
    intro l xs h
    unfold colG at h
    obtain ⟨c, hc, h1⟩ := List.exists_of_findSome?_eq_some h
    have hc2 := List.mem_range.1 hc
    by_cases hb : bad (l ++ [(c : Int)]) = true
    · rw [if_pos hb] at h1; cases h1
    · rw [if_neg hb] at h1
      obtain ⟨k1, ⟨ys, k2, k4⟩, k3⟩ := ih _ _ h1
      rw [List.length_append, List.length_singleton] at k1 k3
      refine ⟨by omega, ⟨(c : Int) :: ys, by rw [k2]; simp, fun y hy => ?_⟩, fun k q1 q2 => ?_⟩
      · rcases List.mem_cons.1 hy with rfl | hy
        · omega
        · exact k4 y hy
      · by_cases e : k = l.length + 1
        · have : xs.take k = l ++ [(c : Int)] := by
            rw [k2, List.take_append_of_le_length (by simp; omega), e]
            exact List.take_of_length_le (by simp)
          rw [this]
          simpa using hb
        · exact k3 k (by omega) q2
theorem colG_found {bad : List Int → Bool} {many : Nat} : ∀ (r : Nat) (l ys : List Int), ys.length = r → (∀ y ∈ ys, 0 ≤ y ∧ y < many) → (∀ k, 1 ≤ k → k ≤ r → bad (l ++ ys.take k) = false) → ∃ xs, colG bad many r l = some xs := by
  intro r
  induction r with
  | zero => intro l ys _ _ _; exact ⟨l, rfl⟩
  | succ r ih =>
    intro l ys hl hy hk
    cases ys with
    | nil => cases hl
    | cons y ys =>
      have hy0 := hy y (by simp)
      obtain ⟨c, rfl⟩ : ∃ c : Nat, y = c := ⟨y.toNat, by omega⟩
      have h1 := hk 1 (by omega) (by omega)
      have h1' : bad (l ++ [(c : Int)]) = false := by simpa using h1
      obtain ⟨xs, hx⟩ := ih (l ++ [(c : Int)]) ys (by simpa using hl) (fun z hz => hy z (List.mem_cons_of_mem _ hz)) (fun k q1 q2 => by
        have := hk (k + 1) (by omega) (by omega)
        rw [List.take_succ_cons] at this
        rw [List.append_assoc]
        exact this)
      unfold colG
      cases hf : (List.range many).findSome? (fun c : Nat => if bad (l ++ [(c : Int)]) = true then none else colG bad many r (l ++ [(c : Int)])) with
      | some xs => exact ⟨xs, rfl⟩
      | none =>
        rw [List.findSome?_eq_none_iff] at hf
        have := hf c (List.mem_range.2 (by omega))
        rw [if_neg (by rw [h1']; simp), hx] at this
        cases this
def eA (es : List (Int × Int)) (i : Nat) : Int := (es.getD i (0, 0)).1
def eB (es : List (Int × Int)) (i : Nat) : Int := (es.getD i (0, 0)).2
/-- Has the last edge of a beginning of a colouring a vertex and its number in common with an earlier one? -/
def clashF (es : List (Int × Int)) (l : List Int) : Bool := (List.range (l.length - 1)).any fun j => l.getD j 0 == l.getD (l.length - 1) 0 && (eA es j == eA es (l.length - 1) || eB es j == eB es (l.length - 1))
/-- The greatest degree of the first edges. -/
def degS (es : List (Int × Int)) : Nat → Nat
  | 0 => 0
  | k + 1 => max (degS es k) (max (degC (eA es) (eA es k) (k + 1)) (degC (eB es) (eB es k) (k + 1)))
theorem degS_ge (es : List (Int × Int)) (v : Int) (k : Nat) : degC (eA es) v k ≤ degS es k ∧ degC (eB es) v k ≤ degS es k := by
  induction k with
  | zero => exact ⟨Nat.zero_le _, Nat.zero_le _⟩
  | succ k ih =>
    have h1 := degC_succ (eA es) v k
    have h2 := degC_succ (eB es) v k
    unfold degS
    constructor
    · by_cases e : eA es k = v
      · subst e; omega
      · rw [if_neg e] at h1; omega
    · by_cases e : eB es k = v
      · subst e; omega
      · rw [if_neg e] at h2; omega
def colF (es : List (Int × Int)) : Option (List Int) := colG (clashF es) (degS es es.length) es.length []
theorem take_len {α : Type} (l : List α) {k : Nat} (h : k ≤ l.length) : (l.take k).length = k := by rw [List.length_take]; omega
theorem getD_take' {l : List Int} {k i : Nat} (h : i < k) : (l.take k).getD i 0 = l.getD i 0 := by
  rw [List.getD_eq_getElem?_getD, List.getD_eq_getElem?_getD, List.getElem?_take_of_lt h]
theorem clash_take {es : List (Int × Int)} {xs : List Int} {k : Nat} (hk : k < xs.length) : clashF es (xs.take (k + 1)) = (List.range k).any fun j => xs.getD j 0 == xs.getD k 0 && (eA es j == eA es k || eB es j == eB es k) := by
  unfold clashF
  rw [take_len xs (by omega), Nat.add_sub_cancel, getD_take' (by omega)]
  have : ∀ L : List Nat, (∀ j, j ∈ L → j < k) → (L.any fun j => (xs.take (k + 1)).getD j 0 == xs.getD k 0 && (eA es j == eA es k || eB es j == eB es k)) = L.any fun j => xs.getD j 0 == xs.getD k 0 && (eA es j == eA es k || eB es j == eB es k) := by
    intro L
    induction L with
    | nil => intro _; rfl
    | cons j L ih =>
      intro h
      rw [List.any_cons, List.any_cons, ih (fun i hi => h i (List.mem_cons_of_mem _ hi)), getD_take' (by have := h j (by simp); omega)]
  exact this _ fun j hj => List.mem_range.1 hj
/-- The colouring is found, and it is one. -/
theorem col_found (es : List (Int × Int)) : ∃ xs, colF es = some xs ∧ xs.length = es.length ∧ (∀ y ∈ xs, 0 ≤ y ∧ y < degS es es.length) ∧ ∀ i j, i < es.length → j < i → xs.getD j 0 = xs.getD i 0 → eA es j ≠ eA es i ∧ eB es j ≠ eB es i := by
  obtain ⟨c, h1, h2⟩ := konig (eA es) (eB es) (degS es es.length) es.length (fun v => (degS_ge es v _).1) (fun v => (degS_ge es v _).2)
  obtain ⟨ys, hys⟩ : ∃ ys : List Int, ys = (List.range es.length).map fun i => (c i : Int) := ⟨_, rfl⟩
  have hyl : ys.length = es.length := by rw [hys]; simp
  have hyd : ∀ i, i < es.length → ys.getD i 0 = c i := fun i hi => by rw [hys, List.getD_eq_getElem?_getD]; simp [hi]
  obtain ⟨xs, hx⟩ := colG_found (bad := clashF es) (many := degS es es.length) es.length [] ys hyl (fun y hy => by
    rw [hys, List.mem_map] at hy
    obtain ⟨i, hi, rfl⟩ := hy
    have := h2 i (List.mem_range.1 hi)
    omega) (fun k k1 k2 => by
    obtain ⟨k, rfl⟩ : ∃ j, k = j + 1 := ⟨k - 1, by omega⟩
    rw [List.nil_append, clash_take (by omega)]
    rw [List.any_eq_false]
    intro j hj
    have hj := List.mem_range.1 hj
    rw [hyd j (by omega), hyd k (by omega)]
    intro hh
    simp at hh
    exact h1 j k (by omega) (by omega) (by omega) hh.2 (by omega))
  obtain ⟨q1, ⟨zs, q2, q4⟩, q3⟩ := colG_some _ _ _ hx
  rw [List.length_nil] at q1 q3
  rw [List.nil_append] at q2
  subst q2
  refine ⟨_, hx, by omega, q4, fun i j hi hj e => ?_⟩
  have := q3 (i + 1) (by omega) (by omega)
  rw [clash_take (by omega), List.any_eq_false] at this
  have := this j (List.mem_range.2 hj)
  rw [e] at this
  simpa using this
end Go.Proofs.Ythnhmfmlhlpggaa.Kn
