/- What is proved: a bipartite multigraph has an edge colouring with as many colours as its greatest degree (König). No condition beyond those in each statement. -/
import Derived.Below
namespace Go.Proofs.Ythnhmfmlhlpggaa.Kn

theorem free_color (D : Nat) : ∀ l : List Nat, l.length < D → ∃ x, x < D ∧ x ∉ l := by
  induction D with
  | zero => intro l h; omega
  | succ D ih =>
    intro l h
    by_cases hm : D ∈ l
    · have hlen : (l.filter fun y => decide (y ≠ D)).length < l.length := by
        have h1 : ∀ l : List Nat, D ∈ l → (l.filter fun y => decide (y ≠ D)).length < l.length := by
          intro l
          induction l with
          | nil => intro h; cases h
          | cons y l ih2 =>
            intro hy
            by_cases e : y = D
            · subst e
              have : ((y :: l).filter fun z => decide (z ≠ y)) = l.filter fun z => decide (z ≠ y) := List.filter_cons_of_neg (by simp)
              rw [this, List.length_cons]
              have := List.length_filter_le (fun z => decide (z ≠ y)) l
              omega
            · have : ((y :: l).filter fun z => decide (z ≠ D)) = y :: l.filter fun z => decide (z ≠ D) := List.filter_cons_of_pos (by simpa using e)
              rw [this, List.length_cons, List.length_cons]
              have := ih2 (by rcases List.mem_cons.1 hy with h | h; exact absurd h.symm e; exact h)
              omega
        exact h1 l hm
      obtain ⟨x, h1, h2⟩ := ih _ (show (l.filter fun y => decide (y ≠ D)).length < D by omega)
      exact ⟨x, by omega, fun hc => h2 (List.mem_filter.2 ⟨hc, by simp; omega⟩)⟩
    · exact ⟨D, by omega, hm⟩
/-- The edges that are reached from one by alternating between two colours. -/
inductive Chain (A B : Nat → Int) (c : Nat → Nat) (k p q f : Nat) : Nat → Prop
  | start : Chain A B c k p q f f
  | up {g h : Nat} : Chain A B c k p q f g → c g = p → h < k → c h = q → A h = A g → Chain A B c k p q f h
  | dn {g h : Nat} : Chain A B c k p q f g → c g = q → h < k → c h = p → B h = B g → Chain A B c k p q f h
section
variable {A B : Nat → Int} {c : Nat → Nat} {k p q f : Nat}
theorem Chain.two (hf : f < k) (hp : c f = p) {g : Nat} (h : Chain A B c k p q f g) : g < k ∧ (c g = p ∨ c g = q) := by
  cases h with
  | start => exact ⟨hf, .inl hp⟩
  | up _ _ h1 h2 _ => exact ⟨h1, .inr h2⟩
  | dn _ _ h1 h2 _ => exact ⟨h1, .inl h2⟩
theorem Chain.before_q (hp : c f = p) (hpq : p ≠ q) {g : Nat} (h : Chain A B c k p q f g) (hg : c g = q) (hf : f < k) : ∃ g', Chain A B c k p q f g' ∧ g' < k ∧ c g' = p ∧ A g' = A g := by
  cases h with
  | start => exact absurd (hp.symm.trans hg) hpq
  | up h1 h2 _ _ h3 => exact ⟨_, h1, (h1.two hf hp).1, h2, h3.symm⟩
  | dn _ _ _ h2 _ => exact absurd (h2.symm.trans hg) hpq
theorem Chain.before_p (hp : c f = p) (hpq : p ≠ q) {g : Nat} (h : Chain A B c k p q f g) (hg : c g = p) (hf : f < k) : g = f ∨ ∃ g', Chain A B c k p q f g' ∧ g' < k ∧ c g' = q ∧ B g' = B g := by
  cases h with
  | start => exact .inl rfl
  | up _ _ _ h2 _ => exact absurd (hg.symm.trans h2) hpq
  | dn h1 h2 _ _ h3 => exact .inr ⟨_, h1, (h1.two hf hp).1, h2, h3.symm⟩
end
/-- Edges with a common vertex have different colours. -/
def Apart (A B : Nat → Int) (c : Nat → Nat) (k : Nat) : Prop := ∀ i j, i < k → j < k → i ≠ j → (A i = A j ∨ B i = B j) → c i ≠ c j
open Classical in
theorem konig_step {A B : Nat → Int} {c : Nat → Nat} {k D p q f : Nat} (h : Apart A B c k) (hD : ∀ i, i < k → c i < D) (hp : p < D) (hq : q < D) (hpq : p ≠ q) (hf : f < k) (hfp : c f = p) (hfb : B f = B k) (ha : ∀ i, i < k → A i = A k → c i ≠ p) (hb : ∀ i, i < k → B i = B k → c i ≠ q) :
    ∃ c' : Nat → Nat, Apart A B c' (k + 1) ∧ ∀ i, i < k + 1 → c' i < D := by
  let S := Chain A B c k p q f
  let c1 : Nat → Nat := fun i => if S i then (if c i = p then q else p) else c i
  have same : ∀ i j, i < k → j < k → (A i = A j ∨ B i = B j) → c i = c j → i = j := fun i j hi hj ad e => Classical.byContradiction fun hne => h i j hi hj hne ad e
  have in1 : ∀ i j, i < k → j < k → (A i = A j ∨ B i = B j) → S i → ¬ S j → c1 i ≠ c1 j := by
    intro i j hi hj ad si sj e
    have e1 : c1 i = if c i = p then q else p := if_pos si
    have e2 : c1 j = c j := if_neg sj
    rw [e1, e2] at e
    have two := (Chain.two hf hfp si).2
    by_cases hc : c i = p
    · rw [if_pos hc] at e
      rcases ad with ad | ad
      · exact sj (Chain.up si hc hj e.symm ad.symm)
      · rcases Chain.before_p hfp hpq si hc hf with rfl | ⟨g, sg, hg, g1, g2⟩
        · exact hb j hj (ad.symm.trans hfb) e.symm
        · have : g = j := same g j hg hj (.inr (g2.trans ad)) (g1.trans e)
          subst this
          exact sj sg
    · have hcq : c i = q := by rcases two with h | h; exact absurd h hc; exact h
      rw [if_neg hc] at e
      rcases ad with ad | ad
      · obtain ⟨g, sg, hg, g1, g2⟩ := Chain.before_q hfp hpq si hcq hf
        have : g = j := same g j hg hj (.inl (g2.trans ad)) (g1.trans e)
        subst this
        exact sj sg
      · exact sj (Chain.dn si hcq hj e.symm ad.symm)
  have ap : Apart A B c1 k := by
    intro i j hi hj hne ad e
    by_cases si : S i
    · by_cases sj : S j
      · have e1 : c1 i = if c i = p then q else p := if_pos si
        have e2 : c1 j = if c j = p then q else p := if_pos sj
        rw [e1, e2] at e
        have ti := (Chain.two hf hfp si).2
        have tj := (Chain.two hf hfp sj).2
        have := h i j hi hj hne ad
        by_cases hi1 : c i = p
        · rw [if_pos hi1] at e
          by_cases hj1 : c j = p
          · exact this (hi1.trans hj1.symm)
          · rw [if_neg hj1] at e; exact hpq e.symm
        · rw [if_neg hi1] at e
          by_cases hj1 : c j = p
          · rw [if_pos hj1] at e; exact hpq e
          · rcases ti with ti | ti
            · exact hi1 ti
            · rcases tj with tj | tj
              · exact hj1 tj
              · exact this (ti.trans tj.symm)
      · exact in1 i j hi hj ad si sj e
    · by_cases sj : S j
      · exact in1 j i hj hi (ad.imp Eq.symm Eq.symm) sj si e.symm
      · have e1 : c1 i = c i := if_neg si
        have e2 : c1 j = c j := if_neg sj
        rw [e1, e2] at e
        exact h i j hi hj hne ad e
  have hD1 : ∀ i, i < k → c1 i < D := by
    intro i hi
    show (if S i then (if c i = p then q else p) else c i) < D
    split
    · split
      · exact hq
      · exact hp
    · exact hD i hi
  have free : ∀ i, i < k → (A i = A k ∨ B i = B k) → c1 i ≠ p := by
    intro i hi ad e
    by_cases si : S i
    · have e1 : c1 i = if c i = p then q else p := if_pos si
      rw [e1] at e
      by_cases hc : c i = p
      · rw [if_pos hc] at e; exact hpq e.symm
      · have hcq : c i = q := by rcases (Chain.two hf hfp si).2 with h | h; exact absurd h hc; exact h
        rcases ad with ad | ad
        · obtain ⟨g, sg, hg, g1, g2⟩ := Chain.before_q hfp hpq si hcq hf
          exact ha g hg (g2.trans ad) g1
        · exact hb i hi ad hcq
    · have e1 : c1 i = c i := if_neg si
      rw [e1] at e
      rcases ad with ad | ad
      · exact ha i hi ad e
      · have : i = f := same i f hi hf (.inr (ad.trans hfb.symm)) (e.trans hfp.symm)
        subst this
        exact si Chain.start
  refine ⟨fun i => if i = k then p else c1 i, ?_, ?_⟩
  · intro i j hi hj hne ad
    show (if i = k then p else c1 i) ≠ (if j = k then p else c1 j)
    by_cases e1 : i = k
    · have e2 : ¬ j = k := fun e => hne (e1.trans e.symm)
      rw [if_pos e1, if_neg e2]
      subst e1
      exact fun e => free j (by omega) (ad.imp Eq.symm Eq.symm) e.symm
    · by_cases e2 : j = k
      · rw [if_neg e1, if_pos e2]
        subst e2
        exact free i (by omega) ad
      · rw [if_neg e1, if_neg e2]
        exact ap i j (by omega) (by omega) hne ad
  · intro i hi
    show (if i = k then p else c1 i) < D
    split
    · exact hp
    · exact hD1 i (by omega)
/-- How many of the first edges are at a vertex. -/
def degC (A : Nat → Int) (v : Int) (k : Nat) : Nat := ((List.range k).filter fun i => decide (A i = v)).length
theorem degC_succ (A : Nat → Int) (v : Int) (k : Nat) : degC A v (k + 1) = degC A v k + if A k = v then 1 else 0 := by
  unfold degC
  rw [List.range_succ, List.filter_append, List.length_append]
  by_cases h : A k = v
  · rw [if_pos h, List.filter_cons_of_pos (by simpa using h)]; simp
  · rw [if_neg h, List.filter_cons_of_neg (by simpa using h)]; simp
theorem degC_mono (A : Nat → Int) (v : Int) {k m : Nat} (h : k ≤ m) : degC A v k ≤ degC A v m := by
  induction m with
  | zero => have : k = 0 := by omega
            subst this; exact Nat.le_refl _
  | succ m ih =>
    by_cases e : k = m + 1
    · subst e; exact Nat.le_refl _
    · have := ih (by omega)
      rw [degC_succ]
      omega
theorem free_at {A : Nat → Int} {c : Nat → Nat} {k D : Nat} (h : degC A (A k) (k + 1) ≤ D) : ∃ x, x < D ∧ ∀ i, i < k → A i = A k → c i ≠ x := by
  rw [degC_succ, if_pos rfl] at h
  obtain ⟨x, h1, h2⟩ := free_color D (((List.range k).filter fun i => decide (A i = A k)).map c) (by rw [List.length_map]; unfold degC at h; omega)
  refine ⟨x, h1, fun i hi e hc => h2 ?_⟩
  rw [List.mem_map]
  exact ⟨i, List.mem_filter.2 ⟨List.mem_range.2 hi, by simpa using e⟩, hc⟩
/-- König's theorem. -/
theorem konig (A B : Nat → Int) (D m : Nat) (hA : ∀ v, degC A v m ≤ D) (hB : ∀ v, degC B v m ≤ D) : ∃ c : Nat → Nat, Apart A B c m ∧ ∀ i, i < m → c i < D := by
  have key : ∀ k, k ≤ m → ∃ c : Nat → Nat, Apart A B c k ∧ ∀ i, i < k → c i < D := by
    intro k
    induction k with
    | zero => exact fun _ => ⟨fun _ => 0, fun i j hi => by omega, fun i hi => by omega⟩
    | succ k ih =>
      intro hk
      obtain ⟨c, h1, h2⟩ := ih (by omega)
      obtain ⟨p, hp, ha⟩ := free_at (A := A) (c := c) (k := k) (D := D) (Nat.le_trans (degC_mono A _ hk) (hA _))
      obtain ⟨q, hq, hb⟩ := free_at (A := B) (c := c) (k := k) (D := D) (Nat.le_trans (degC_mono B _ hk) (hB _))
      by_cases hex : ∃ f, f < k ∧ B f = B k ∧ c f = p
      · obtain ⟨f, hf, hfb, hfp⟩ := hex
        have hpq : p ≠ q := fun e => hb f hf hfb (hfp.trans e)
        exact konig_step h1 h2 hp hq hpq hf hfp hfb ha hb
      · have free : ∀ i, i < k → (A i = A k ∨ B i = B k) → c i ≠ p := by
          rintro i hi (ad | ad) e
          · exact ha i hi ad e
          · exact hex ⟨i, hi, ad, e⟩
        refine ⟨fun i => if i = k then p else c i, ?_, ?_⟩
        · intro i j hi hj hne ad
          show (if i = k then p else c i) ≠ (if j = k then p else c j)
          by_cases e1 : i = k
          · have e2 : ¬ j = k := fun e => hne (e1.trans e.symm)
            rw [if_pos e1, if_neg e2]
            subst e1
            exact fun e => free j (by omega) (ad.imp Eq.symm Eq.symm) e.symm
          · by_cases e2 : j = k
            · rw [if_neg e1, if_pos e2]
              subst e2
              exact free i (by omega) ad
            · rw [if_neg e1, if_neg e2]
              exact h1 i j (by omega) (by omega) hne ad
        · intro i hi
          show (if i = k then p else c i) < D
          split
          · exact hp
          · exact h2 i (by omega)
  exact key m (Nat.le_refl _)
end Go.Proofs.Ythnhmfmlhlpggaa.Kn
