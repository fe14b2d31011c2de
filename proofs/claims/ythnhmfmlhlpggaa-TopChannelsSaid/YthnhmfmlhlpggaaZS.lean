/- What is proved: plain laws on dealing the places of a row anew. No condition beyond those in each statement. -/
import Derived.Test.YthnhmfmlhlpggaaO
namespace Go.Proofs.Ythnhmfmlhlpggaa
open Go.RowKit
set_option maxRecDepth 100000

/-- ys is xs with the places from a to b dealt anew. -/
def Rear (a b : Nat) (xs ys : List Int) : Prop :=
  xs.Perm ys ∧ (∀ i, i < a ∨ b ≤ i → ys.getD i 0 = xs.getD i 0) ∧ ∀ i, a ≤ i → i < b → ∃ j, a ≤ j ∧ j < b ∧ ys.getD i 0 = xs.getD j 0
theorem Rear.refl (a b : Nat) (xs : List Int) : Rear a b xs xs := ⟨.refl _, fun _ _ => rfl, fun i h1 h2 => ⟨i, h1, h2, rfl⟩⟩
theorem Rear.trans {a b : Nat} {xs ys zs : List Int} (h : Rear a b xs ys) (k : Rear a b ys zs) : Rear a b xs zs :=
  ⟨h.1.trans k.1, fun i hi => (k.2.1 i hi).trans (h.2.1 i hi), fun i h1 h2 => by
    obtain ⟨j, j1, j2, e⟩ := k.2.2 i h1 h2
    obtain ⟨l, l1, l2, e2⟩ := h.2.2 j j1 j2
    exact ⟨l, l1, l2, e.trans e2⟩⟩
theorem Rear.widen {a b c d : Nat} {xs ys : List Int} (h : Rear a b xs ys) (h1 : c ≤ a) (h2 : b ≤ d) : Rear c d xs ys :=
  ⟨h.1, fun i hi => h.2.1 i (by omega), fun i i1 i2 => by
    by_cases hi : a ≤ i ∧ i < b
    · obtain ⟨j, j1, j2, e⟩ := h.2.2 i hi.1 hi.2
      exact ⟨j, by omega, by omega, e⟩
    · exact ⟨i, i1, i2, h.2.1 i (by omega)⟩⟩
theorem Rear.len {a b : Nat} {xs ys : List Int} (h : Rear a b xs ys) : ys.length = xs.length := h.1.length_eq.symm
def sw (xs : List Int) (i j : Nat) : List Int := (xs.set i (xs.getD j 0)).set j (xs.getD i 0)
theorem sw_len (xs : List Int) (i j : Nat) : (sw xs i j).length = xs.length := by simp [sw]
theorem sw_at {xs : List Int} {i j : Nat} (hi : i < xs.length) (hj : j < xs.length) (p : Nat) : (sw xs i j).getD p 0 = if p = j then xs.getD i 0 else if p = i then xs.getD j 0 else xs.getD p 0 := by
  unfold sw
  rw [List.getD_eq_getElem?_getD, List.getElem?_set]
  by_cases h1 : p = j
  · subst h1; simp [hj]
  · rw [if_neg (fun e => h1 e.symm), if_neg h1, List.getElem?_set]
    by_cases h2 : p = i
    · subst h2; simp [hi]
    · rw [if_neg (fun e => h2 e.symm), if_neg h2, List.getD_eq_getElem?_getD]
theorem set_mem_perm : ∀ {xs : List Int} {i : Nat} (v : Int) (_h : i < xs.length), (xs.getD i 0 :: xs.set i v).Perm (v :: xs)
  | x :: xs, 0, v, _ => by simpa using List.Perm.swap v x xs
  | x :: xs, i + 1, v, h => by
    have ih := set_mem_perm (xs := xs) (i := i) v (by simpa using h)
    have : ((x :: xs).getD (i + 1) 0 :: (x :: xs).set (i + 1) v) = (xs.getD i 0 :: x :: xs.set i v) := by simp
    rw [this]
    exact (List.Perm.swap x _ _).trans ((List.Perm.cons x ih).trans (List.Perm.swap v x xs))
theorem sw_perm {xs : List Int} {i j : Nat} (hi : i < xs.length) (hj : j < xs.length) : xs.Perm (sw xs i j) := by
  obtain ⟨y, hy⟩ : ∃ y, y = xs.getD j 0 := ⟨_, rfl⟩
  obtain ⟨x, hx⟩ : ∃ x, x = xs.getD i 0 := ⟨_, rfl⟩
  have h1 := set_mem_perm (xs := xs) (i := i) y hi
  have h2 := set_mem_perm (xs := xs.set i y) (i := j) x (by simpa using hj)
  have e : (xs.set i y).getD j 0 = y := by
    rw [List.getD_eq_getElem?_getD, List.getElem?_set]
    by_cases hij : i = j
    · subst hij; simp [hi]
    · rw [if_neg hij, ← List.getD_eq_getElem?_getD, hy]
  rw [e] at h2
  rw [← hx] at h1
  have h3 : (x :: y :: (xs.set i y).set j x).Perm (x :: y :: xs) := (List.Perm.cons x h2).trans ((List.Perm.cons x h1).trans (List.Perm.refl _))
  unfold sw
  rw [← hy, ← hx]
  exact (List.Perm.cons_inv (List.Perm.cons_inv h3)).symm
theorem rear_sw {xs : List Int} {i j a b : Nat} (hi : i < xs.length) (hj : j < xs.length) (hia : a ≤ i) (hib : i < b) (hja : a ≤ j) (hjb : j < b) : Rear a b xs (sw xs i j) := by
  refine ⟨sw_perm hi hj, fun p hp => ?_, fun p h1 h2 => ?_⟩
  · rw [sw_at hi hj, if_neg (by omega), if_neg (by omega)]
  · rw [sw_at hi hj]
    by_cases e1 : p = j
    · exact ⟨i, hia, hib, by rw [if_pos e1]⟩
    · by_cases e2 : p = i
      · exact ⟨j, hja, hjb, by rw [if_neg e1, if_pos e2]⟩
      · exact ⟨p, h1, h2, by rw [if_neg e1, if_neg e2]⟩
/-- The places from a to b rise. -/
def Ris (f : Int → Int) (xs : List Int) (a b : Nat) : Prop := ∀ p q, a ≤ p → p < q → q < b → f (xs.getD p 0) ≤ f (xs.getD q 0)
theorem Ris.keep {f : Int → Int} {xs ys : List Int} {a b c d : Nat} (h : Ris f xs c d) (hr : Rear a b xs ys) (hs : d ≤ a ∨ b ≤ c) : Ris f ys c d := fun p q h1 h2 h3 => by
  rw [hr.2.1 p (by omega), hr.2.1 q (by omega)]; exact h p q h1 h2 h3
theorem Ris.part {f : Int → Int} {xs : List Int} {a b c d : Nat} (h : Ris f xs a b) (h1 : a ≤ c) (h2 : d ≤ b) : Ris f xs c d := fun p q p1 p2 p3 => h p q (by omega) p2 (by omega)
theorem ris_short (f : Int → Int) (xs : List Int) {a b : Nat} (h : b ≤ a + 1) : Ris f xs a b := fun p q h1 h2 h3 => by omega

/-- Insertion: all in order but for what stands at j. -/
def Ins (f : Int → Int) (xs : List Int) (a i j : Nat) : Prop := ∀ p q, a ≤ p → p < q → q ≤ i → q ≠ j → f (xs.getD p 0) ≤ f (xs.getD q 0)
theorem ins_start {f : Int → Int} {xs : List Int} {a i : Nat} (h : Ris f xs a i) : Ins f xs a i i := fun p q h1 h2 h3 h4 => h p q h1 h2 (by omega)
theorem ins_step {f : Int → Int} {xs : List Int} {a i j : Nat} (h : Ins f xs a i j) (hj : a < j) (hji : j ≤ i) (hil : i < xs.length) (hlt : f (xs.getD j 0) < f (xs.getD (j - 1) 0)) : Ins f (sw xs j (j - 1)) a i (j - 1) := by
  intro p q h1 h2 h3 h4
  rw [sw_at (by omega) (by omega), sw_at (by omega) (by omega)]
  rw [if_neg h4]
  by_cases q1 : q = j
  · rw [if_pos q1]
    by_cases p1 : p = j - 1
    · rw [if_pos p1]; omega
    · rw [if_neg p1, if_neg (by omega)]
      exact h p (j - 1) h1 (by omega) (by omega) (by omega)
  · rw [if_neg q1]
    by_cases p1 : p = j - 1
    · rw [if_pos p1]; exact h j q (by omega) (by omega) h3 q1
    · rw [if_neg p1]
      by_cases p2 : p = j
      · rw [if_pos p2]; exact h (j - 1) q (by omega) (by omega) h3 q1
      · rw [if_neg p2]; exact h p q h1 h2 h3 q1
theorem ins_end {f : Int → Int} {xs : List Int} {a i j : Nat} (h : Ins f xs a i j) (_hji : j ≤ i) (hs : j ≤ a ∨ (a < j ∧ f (xs.getD (j - 1) 0) ≤ f (xs.getD j 0))) : Ris f xs a (i + 1) := by
  intro p q h1 h2 h3
  by_cases e : q = j
  · rcases hs with hs | ⟨hs, hle⟩
    · omega
    · subst e
      by_cases e2 : p = q - 1
      · subst e2; exact hle
      · have := h p (q - 1) h1 (by omega) (by omega) (by omega)
        omega
  · exact h p q h1 h2 (by omega) e

/-- k places swapped from a and from b on. -/
def SwR (xs ys : List Int) (a b k : Nat) : Prop := ∀ p, ys.getD p 0 = if a ≤ p ∧ p < a + k then xs.getD (p - a + b) 0 else if b ≤ p ∧ p < b + k then xs.getD (p - b + a) 0 else xs.getD p 0
theorem swr_zero (xs : List Int) (a b : Nat) : SwR xs xs a b 0 := fun p => by rw [if_neg (by omega), if_neg (by omega)]
theorem swr_succ {xs ys : List Int} {a b k : Nat} (h : SwR xs ys a b k) (hab : a + k < b) (hb : b + k < ys.length) : SwR xs (sw ys (a + k) (b + k)) a b (k + 1) := by
  intro p
  rw [sw_at (by omega) (by omega)]
  by_cases e1 : p = b + k
  · subst e1
    rw [if_pos rfl, h, if_neg (by omega), if_neg (by omega), if_neg (by omega), if_pos (by omega)]
    congr 1; omega
  · rw [if_neg e1]
    by_cases e2 : p = a + k
    · subst e2
      rw [if_pos rfl, h, if_neg (by omega), if_neg (by omega), if_pos (by omega)]
      congr 1; omega
    · rw [if_neg e2, h]
      by_cases c1 : a ≤ p ∧ p < a + k
      · rw [if_pos c1, if_pos (by omega)]
      · rw [if_neg c1]
        by_cases c2 : b ≤ p ∧ p < b + k
        · rw [if_pos c2, if_neg (show ¬ (a ≤ p ∧ p < a + (k + 1)) by omega), if_pos (by omega)]
        · rw [if_neg c2, if_neg (show ¬ (a ≤ p ∧ p < a + (k + 1)) by omega), if_neg (by omega)]

/-- The rotated row. -/
def rotF (xs : List Int) (a m b p : Nat) : Int := if a ≤ p ∧ p < b then (if p < a + (b - m) then xs.getD (p - a + m) 0 else xs.getD (p - (b - m)) 0) else xs.getD p 0
def Rot (Y : Nat → Int) (ys : List Int) (m i j : Nat) : Prop :=
  (∀ p, p < m - i ∨ m + j ≤ p → ys.getD p 0 = Y p) ∧ (∀ t, t < j → Y (m - i + t) = ys.getD (m + t) 0) ∧ ∀ t, t < i → Y (m - i + j + t) = ys.getD (m - i + t) 0
theorem rot_start {xs : List Int} {a m b : Nat} (h1 : a ≤ m) (h2 : m ≤ b) : Rot (rotF xs a m b) xs m (m - a) (b - m) := by
  refine ⟨fun p hp => ?_, fun t ht => ?_, fun t ht => ?_⟩
  · unfold rotF; rw [if_neg (by omega)]
  · unfold rotF; rw [if_pos (by omega), if_pos (by omega)]; congr 1; omega
  · unfold rotF; rw [if_pos (by omega), if_neg (by omega)]; congr 1; omega
theorem rot_left {Y : Nat → Int} {ys zs : List Int} {m i j : Nat} (h : Rot Y ys m i j) (him : i ≤ m) (hij : j < i) (hs : SwR ys zs (m - i) m j) : Rot Y zs m (i - j) j := by
  obtain ⟨h1, h2, h3⟩ := h
  refine ⟨fun p hp => ?_, fun t ht => ?_, fun t ht => ?_⟩
  · rw [hs p]
    by_cases c1 : m - i ≤ p ∧ p < m - i + j
    · rw [if_pos c1]
      have := h2 (p - (m - i)) (by omega)
      rw [show m - i + (p - (m - i)) = p by omega] at this
      rw [this]; congr 1; omega
    · rw [if_neg c1, if_neg (by omega)]; exact h1 p (by omega)
  · rw [hs (m + t), if_neg (by omega), if_pos (by omega), show m - (i - j) + t = m - i + j + t by omega, h3 t (by omega)]
    congr 1; omega
  · rw [hs (m - (i - j) + t), if_neg (by omega), if_neg (by omega), show m - (i - j) + j + t = m - i + j + (j + t) by omega, h3 (j + t) (by omega)]
    congr 1; omega
theorem rot_right {Y : Nat → Int} {ys zs : List Int} {m i j : Nat} (h : Rot Y ys m i j) (him : i ≤ m) (hij : i < j) (hs : SwR ys zs (m - i) (m + j - i) i) : Rot Y zs m i (j - i) := by
  obtain ⟨h1, h2, h3⟩ := h
  refine ⟨fun p hp => ?_, fun t ht => ?_, fun t ht => ?_⟩
  · rw [hs p]
    by_cases c1 : m + j - i ≤ p ∧ p < m + j - i + i
    · rw [if_neg (by omega), if_pos c1]
      have := h3 (p - (m + j - i)) (by omega)
      rw [show m - i + j + (p - (m + j - i)) = p by omega] at this
      rw [this]; congr 1; omega
    · rw [if_neg (by omega), if_neg c1]; exact h1 p (by omega)
  · rw [hs (m + t), if_neg (by omega), if_neg (by omega)]; exact h2 t (by omega)
  · rw [hs (m - i + t), if_pos (by omega), show m - i + (j - i) + t = m - i + (j - i + t) by omega, h2 (j - i + t) (by omega)]
    congr 1; omega
theorem rot_end {Y : Nat → Int} {ys zs : List Int} {m i : Nat} (h : Rot Y ys m i i) (him : i ≤ m) (hs : SwR ys zs (m - i) m i) (p : Nat) : zs.getD p 0 = Y p := by
  obtain ⟨h1, h2, h3⟩ := h
  rw [hs p]
  by_cases c1 : m - i ≤ p ∧ p < m - i + i
  · rw [if_pos c1]
    have := h2 (p - (m - i)) (by omega)
    rw [show m - i + (p - (m - i)) = p by omega] at this
    rw [this]; congr 1; omega
  · rw [if_neg c1]
    by_cases c2 : m ≤ p ∧ p < m + i
    · rw [if_pos c2]
      have := h3 (p - m) (by omega)
      rw [show m - i + i + (p - m) = p by omega] at this
      rw [this]; congr 1; omega
    · rw [if_neg c2]; exact h1 p (by omega)

/-- One element at a, and those from m on before i are less than it: it goes up to i. -/
def Up1 (f : Int → Int) (ys : List Int) (a b i k : Nat) : Prop :=
  (∀ p q, a ≤ p → p < q → q < b → p ≠ k → q ≠ k → f (ys.getD p 0) ≤ f (ys.getD q 0)) ∧ (∀ p, a ≤ p → p < i → f (ys.getD p 0) ≤ f (ys.getD k 0)) ∧ ∀ q, i ≤ q → q < b → f (ys.getD k 0) ≤ f (ys.getD q 0)
theorem up1_start {f : Int → Int} {ys : List Int} {a b i : Nat} (hi : a < i) (hr : Ris f ys (a + 1) b) (h1 : ∀ p, a + 1 ≤ p → p < i → f (ys.getD p 0) < f (ys.getD a 0)) (h2 : ∀ q, i ≤ q → q < b → f (ys.getD a 0) ≤ f (ys.getD q 0)) : Up1 f ys a b i a :=
  ⟨fun p q p1 p2 p3 p4 p5 => hr p q (by omega) p2 p3, fun p p1 p2 => by
    by_cases e : p = a
    · subst e; exact Int.le_refl _
    · have := h1 p (by omega) p2; omega, h2⟩
theorem up1_step {f : Int → Int} {ys : List Int} {a b i k : Nat} (h : Up1 f ys a b i k) (hk : a ≤ k) (hki : k + 1 < i) (hib : i ≤ b) (hbl : b ≤ ys.length) : Up1 f (sw ys k (k + 1)) a b i (k + 1) := by
  obtain ⟨h1, h2, h3⟩ := h
  have s := fun p => sw_at (xs := ys) (i := k) (j := k + 1) (by omega) (by omega) p
  refine ⟨fun p q p1 p2 p3 p4 p5 => ?_, fun p p1 p2 => ?_, fun q q1 q2 => ?_⟩
  · rw [s, s, if_neg p4, if_neg p5]
    by_cases e1 : p = k
    · rw [if_pos e1, if_neg (by omega)]; exact h1 (k + 1) q (by omega) (by omega) p3 (by omega) (by omega)
    · rw [if_neg e1]
      by_cases e2 : q = k
      · rw [if_pos e2]; exact h1 p (k + 1) p1 (by omega) (by omega) e1 (by omega)
      · rw [if_neg e2]; exact h1 p q p1 p2 p3 e1 e2
  · rw [s, s, if_pos rfl]
    by_cases e0 : p = k + 1
    · rw [if_pos e0]; exact Int.le_refl _
    · rw [if_neg e0]
      by_cases e1 : p = k
      · rw [if_pos e1]; exact h2 (k + 1) (by omega) hki
      · rw [if_neg e1]; exact h2 p p1 p2
  · rw [s, s, if_pos rfl, if_neg (by omega), if_neg (by omega)]; exact h3 q q1 q2
theorem up1_end {f : Int → Int} {ys : List Int} {a b i k : Nat} (h : Up1 f ys a b i k) (hk : k + 1 = i) : Ris f ys a b := by
  obtain ⟨h1, h2, h3⟩ := h
  intro p q p1 p2 p3
  by_cases e1 : p = k
  · subst e1; exact h3 q (by omega) p3
  · by_cases e2 : q = k
    · subst e2; exact h2 p p1 (by omega)
    · exact h1 p q p1 p2 p3 e1 e2
/-- One element at m, and those before m from i on are more than it: it goes down to i. -/
def Dn1 (f : Int → Int) (ys : List Int) (a m i k : Nat) : Prop :=
  (∀ p q, a ≤ p → p < q → q ≤ m → p ≠ k → q ≠ k → f (ys.getD p 0) ≤ f (ys.getD q 0)) ∧ (∀ p, a ≤ p → p < i → f (ys.getD p 0) ≤ f (ys.getD k 0)) ∧ ∀ q, i ≤ q → q ≤ m → f (ys.getD k 0) ≤ f (ys.getD q 0)
theorem dn1_start {f : Int → Int} {ys : List Int} {a m i : Nat} (hr : Ris f ys a m) (h1 : ∀ p, a ≤ p → p < i → f (ys.getD p 0) ≤ f (ys.getD m 0)) (h2 : ∀ q, i ≤ q → q < m → f (ys.getD m 0) < f (ys.getD q 0)) : Dn1 f ys a m i m :=
  ⟨fun p q p1 p2 p3 p4 p5 => hr p q p1 p2 (by omega), h1, fun q q1 q2 => by
    by_cases e : q = m
    · subst e; exact Int.le_refl _
    · have := h2 q q1 (by omega); omega⟩
theorem dn1_step {f : Int → Int} {ys : List Int} {a m i k : Nat} (h : Dn1 f ys a m i k) (hi : a ≤ i) (hki : i < k) (hkm : k ≤ m) (hml : m < ys.length) : Dn1 f (sw ys k (k - 1)) a m i (k - 1) := by
  obtain ⟨h1, h2, h3⟩ := h
  have s := fun p => sw_at (xs := ys) (i := k) (j := k - 1) (by omega) (by omega) p
  refine ⟨fun p q p1 p2 p3 p4 p5 => ?_, fun p p1 p2 => ?_, fun q q1 q2 => ?_⟩
  · rw [s, s, if_neg p4, if_neg p5]
    by_cases e1 : p = k
    · rw [if_pos e1, if_neg (by omega)]; exact h1 (k - 1) q (by omega) (by omega) p3 (by omega) (by omega)
    · rw [if_neg e1]
      by_cases e2 : q = k
      · rw [if_pos e2]; exact h1 p (k - 1) p1 (by omega) (by omega) e1 (by omega)
      · rw [if_neg e2]; exact h1 p q p1 p2 p3 e1 e2
  · rw [s, s, if_pos rfl, if_neg (by omega), if_neg (by omega)]; exact h2 p p1 p2
  · rw [s, s, if_pos rfl]
    by_cases e0 : q = k - 1
    · rw [if_pos e0]; exact Int.le_refl _
    · rw [if_neg e0]
      by_cases e1 : q = k
      · rw [if_pos e1]; exact h3 (k - 1) (by omega) (by omega)
      · rw [if_neg e1]; exact h3 q q1 q2
theorem dn1_end {f : Int → Int} {ys : List Int} {a m i k : Nat} (h : Dn1 f ys a m i k) (hk : k = i) : Ris f ys a (m + 1) := by
  obtain ⟨h1, h2, h3⟩ := h
  subst hk
  intro p q p1 p2 p3
  by_cases e1 : p = k
  · subst e1; exact h3 q (by omega) (by omega)
  · by_cases e2 : q = k
    · subst e2; exact h2 p p1 p2
    · exact h1 p q p1 p2 (by omega) e1 e2
end Go.Proofs.Ythnhmfmlhlpggaa
