/- What is proved: plain laws on cliques in colorings of pairs. No condition beyond those in each statement. -/
import Derived.Test.YtplafgmceggcnaaM
namespace Go.Proofs.Ytplafgmceggcnaa
open Go.RowKit

/-- The color of a pair. -/
def colN (n : Nat) (cs : List Int) (u v : Nat) : Int := cs.getD (placeZ n u v).toNat 0
def HasClq (n : Nat) (cs : List Int) (c : Int) (s : Nat) : Prop :=
  ∃ vs : List Nat, vs.length = s ∧ vs.Pairwise (· < ·) ∧ (∀ v ∈ vs, v < n) ∧ vs.Pairwise fun u v => colN n cs u v = c

theorem anyFrom_iff {g : Nat → Bool} : ∀ {m v : Nat}, anyFrom g m v = true ↔ ∃ x, v ≤ x ∧ x < v + m ∧ g x = true
  | 0, v => by
    constructor
    · intro h; cases h
    · rintro ⟨x, h1, h2, _⟩; omega
  | m + 1, v => by
    show (g v || anyFrom g m (v + 1)) = true ↔ _
    rw [Bool.or_eq_true, anyFrom_iff]
    constructor
    · rintro (h | ⟨x, h1, h2, h3⟩)
      · exact ⟨v, Nat.le_refl _, by omega, h⟩
      · exact ⟨x, by omega, by omega, h3⟩
    · rintro ⟨x, h1, h2, h3⟩
      by_cases e : x = v
      · subst e; exact .inl h3
      · exact .inr ⟨x, by omega, by omega, h3⟩

def FitsAll (fit : List Int → Nat → Bool) : List Int → List Nat → Prop
  | _, [] => True
  | cl, v :: vs => fit cl v = true ∧ FitsAll fit (cl ++ [(v : Int)]) vs

theorem joinedF_iff {n : Nat} {fit : List Int → Nat → Bool} : ∀ {m : Nat} {cl : List Int} {fr : Nat},
    joinedF n fit m cl fr = true ↔ ∃ vs : List Nat, vs.length = m ∧ vs.Pairwise (· < ·) ∧ (∀ v ∈ vs, fr ≤ v ∧ v < n) ∧ FitsAll fit cl vs
  | 0, cl, fr => by
    constructor
    · intro _; exact ⟨[], rfl, .nil, by simp, trivial⟩
    · intro _; rfl
  | m + 1, cl, fr => by
    show anyFrom _ _ _ = true ↔ _
    rw [anyFrom_iff]
    constructor
    · rintro ⟨x, h1, h2, h3⟩
      rw [Bool.and_eq_true, joinedF_iff] at h3
      obtain ⟨h3, vs, g1, g2, g3, g4⟩ := h3
      refine ⟨x :: vs, by simp [g1], List.pairwise_cons.2 ⟨fun v hv => by have := g3 v hv; omega, g2⟩, ?_, h3, g4⟩
      intro v hv
      rcases List.mem_cons.1 hv with rfl | hv
      · omega
      · have := g3 v hv; omega
    · rintro ⟨vs, g1, g2, g3, g4⟩
      cases vs with
      | nil => simp at g1
      | cons x vs =>
        rw [List.pairwise_cons] at g2
        have hx := g3 x (by simp)
        refine ⟨x, hx.1, by omega, ?_⟩
        rw [Bool.and_eq_true, joinedF_iff]
        exact ⟨g4.1, vs, by simpa using g1, g2.2, fun v hv => ⟨g2.1 v hv, (g3 v (by simp [hv])).2⟩, g4.2⟩

theorem fitB_iff {n : Nat} {cs : List Int} {c : Int} {cl : List Int} {v : Nat} :
    fitB n cs c cl v = true ↔ ∀ u ∈ cl, u ≠ (v : Int) ∧ atZ n u v < cs.length ∧ cs.getD (atZ n u v).toNat 0 = c := by
  unfold fitB
  simp only [Bool.and_eq_true, Bool.not_eq_true', List.any_eq_false, List.all_eq_true, decide_eq_true_eq, beq_iff_eq]
  constructor
  · rintro ⟨h1, h2⟩ u hu
    exact ⟨fun e => h1 u hu e.symm, h2 u hu⟩
  · intro h
    exact ⟨fun u hu e => (h u hu).1 e.symm, fun u hu => (h u hu).2⟩

/-- Of two different vertices: their pair is colored, with a color. -/
def Jn (n : Nat) (cs : List Int) (c : Int) (u v : Int) : Prop := u ≠ v ∧ atZ n u v < cs.length ∧ cs.getD (atZ n u v).toNat 0 = c
theorem atZ_comm0 (n u v : Int) : atZ n u v = atZ n v u := by unfold atZ; rw [Int.min_comm, Int.max_comm]
theorem Jn.symm {n : Nat} {cs : List Int} {c u v : Int} (h : Jn n cs c u v) : Jn n cs c v u := ⟨fun e => h.1 e.symm, by rw [atZ_comm0]; exact h.2.1, by rw [atZ_comm0]; exact h.2.2⟩
theorem fitsAll_iff {n : Nat} {cs : List Int} {c : Int} : ∀ {vs : List Nat} {cl : List Int},
    FitsAll (fitB n cs c) cl vs ↔ (∀ u ∈ cl, ∀ v ∈ vs, Jn n cs c u (v : Int)) ∧ vs.Pairwise fun u v : Nat => Jn n cs c u v
  | [], cl => by simp [FitsAll]
  | x :: vs, cl => by
    show (fitB n cs c cl x = true ∧ FitsAll (fitB n cs c) (cl ++ [(x : Int)]) vs) ↔ _
    rw [fitB_iff, fitsAll_iff, List.pairwise_cons]
    constructor
    · rintro ⟨h1, h2, h3⟩
      refine ⟨fun u hu v hv => ?_, fun v hv => h2 x (by simp) v hv, h3⟩
      rcases List.mem_cons.1 hv with rfl | hv
      · exact h1 u hu
      · exact h2 u (by simp [hu]) v hv
    · rintro ⟨h1, h2, h3⟩
      refine ⟨fun u hu => h1 u hu x (by simp), fun u hu v hv => ?_, h3⟩
      rcases List.mem_append.1 hu with hu | hu
      · exact h1 u hu v (by simp [hv])
      · rw [List.mem_singleton] at hu; subst hu; exact h2 v hv

/-! The places of pairs. -/
theorem ends_place : ∀ n : Nat, n ≤ 8 → ∀ b : Nat, b < n → ∀ a : Nat, a < b → 0 ≤ placeZ n a b ∧ (placeZ n a b).toNat < npairs n ∧ (endsOf n).getD (placeZ n a b).toNat (0, 0) = (a, b) := by decide +kernel
theorem place_ends : ∀ n : Nat, n ≤ 8 → ∀ j : Nat, j < npairs n → ((endsOf n).getD j (0, 0)).1 < ((endsOf n).getD j (0, 0)).2 ∧ ((endsOf n).getD j (0, 0)).2 < n ∧ placeZ n ((endsOf n).getD j (0, 0)).1 ((endsOf n).getD j (0, 0)).2 = (j : Int) := by decide +kernel
theorem place_row : ∀ n : Nat, n ≤ 8 → ∀ a : Nat, a < n → ∀ u : Nat, u < a → placeZ n u n ≤ placeZ n a (a + 1 : Nat) := by decide +kernel
theorem place_mono {n : Nat} (hn : n ≤ 8) {u v a b : Nat} (_huv : u < v) (hab : a < b) (hb : b < n) (hua : u ≤ a) (hvb : v ≤ b) : placeZ n u v ≤ placeZ n a b := by
  by_cases e : u = a
  · subst e; unfold placeZ; omega
  · have h1 := place_row n hn a (by omega) u (by omega)
    have h2 : placeZ n u v ≤ placeZ n u n := by unfold placeZ; omega
    have h3 : placeZ n a (a + 1 : Nat) ≤ placeZ n a b := by unfold placeZ; omega
    omega
theorem atZ_lt {n : Nat} {u v : Nat} (h : u < v) : atZ n u v = placeZ n u v := by
  unfold atZ
  rw [show min (u : Int) v = u by omega, show max (u : Int) v = v by omega]

theorem two_last {α : Type} (vs : List α) (h : 2 ≤ vs.length) : ∃ init a b, vs = init ++ [a, b] := by
  have h1 : vs ≠ [] := by intro e; subst e; simp at h
  have h2 : vs.dropLast ≠ [] := by
    intro e
    have := congrArg List.length e
    rw [List.length_dropLast] at this; simp at this; omega
  refine ⟨vs.dropLast.dropLast, vs.dropLast.getLast h2, vs.getLast h1, ?_⟩
  rw [show vs.dropLast.dropLast ++ [vs.dropLast.getLast h2, vs.getLast h1] = (vs.dropLast.dropLast ++ [vs.dropLast.getLast h2]) ++ [vs.getLast h1] by simp, List.dropLast_concat_getLast, List.dropLast_concat_getLast]
theorem getD_take {cs : List Int} {i j : Nat} (h : i < j) : (cs.take j).getD i 0 = cs.getD i 0 := by
  rw [List.getD_eq_getElem?_getD, List.getD_eq_getElem?_getD, List.getElem?_take_of_lt h]

theorem bad_of_clq {n : Nat} (hn : n ≤ 8) {cs : List Int} (hlen : cs.length = npairs n) {k l c : Int} {s : Nat} (hs : 2 ≤ s) (hc : sizeOfColor k l c = s) (h : HasClq n cs c s) :
    ∃ j, 1 ≤ j ∧ j ≤ npairs n ∧ goodW n k l (cs.take j) = false := by
  obtain ⟨vs, h1, h2, h3, h4⟩ := h
  obtain ⟨init, a, b, rfl⟩ := two_last vs (by omega)
  rw [List.pairwise_append] at h2 h4
  obtain ⟨h2a, h2b, h2c⟩ := h2
  obtain ⟨h4a, h4b, h4c⟩ := h4
  have hab : a < b := by simpa using h2b
  have hb : b < n := h3 b (by simp)
  have hcab : colN n cs a b = c := by simpa using h4b
  obtain ⟨e1, e2, e3⟩ := ends_place n hn b hb a hab
  obtain ⟨p, hp⟩ : ∃ p, p = (placeZ n a b).toNat := ⟨_, rfl⟩
  rw [← hp] at e2 e3
  refine ⟨p + 1, by omega, by omega, ?_⟩
  have hl : (cs.take (p + 1)).length = p + 1 := by rw [List.length_take]; omega
  have hg : (cs.take (p + 1)).getD p 0 = c := by
    rw [getD_take (by omega), hp]; exact hcab
  unfold goodW
  rw [hl, Nat.add_sub_cancel, hg, e3, hc, Bool.not_eq_false', joinedF_iff]
  have hjn : ∀ u v : Nat, u < v → u ≤ a → v ≤ b → colN n cs u v = c → Jn n (cs.take (p + 1)) c u v := by
    intro u v huv hua hvb hcol
    have hm := place_mono hn huv hab hb hua hvb
    have hat := atZ_lt (n := n) huv
    obtain ⟨f1, f2, _⟩ := ends_place n hn v (by omega) u huv
    refine ⟨by omega, by rw [hat, hl]; omega, ?_⟩
    rw [hat, getD_take (by omega)]; exact hcol
  refine ⟨init, by simp at h1; omega, h2a, fun v hv => ⟨Nat.zero_le _, h3 v (by simp [hv])⟩, fitsAll_iff.2 ⟨?_, ?_⟩⟩
  · intro u hu v hv
    have q1 := h2c v hv a (by simp)
    have q2 := h2c v hv b (by simp)
    have q3 := h4c v hv a (by simp)
    have q4 := h4c v hv b (by simp)
    simp only [List.mem_cons, List.not_mem_nil, or_false] at hu
    rcases hu with rfl | rfl
    · exact (hjn v a q1 (by omega) (by omega) q3).symm
    · exact (hjn v b q2 (by omega) (by omega) q4).symm
  · have := h2a.and h4a
    refine List.Pairwise.imp_of_mem (fun {u v} hu hv huv => ?_) this
    have q1 := h2c u hu a (by simp)
    have q2 := h2c v hv b (by simp)
    exact hjn u v huv.1 (by omega) (by omega) huv.2

theorem clq_of_set {n : Nat} {cs : List Int} {c : Int} (L : List Nat) (h1 : L.Pairwise fun u v : Nat => Jn n cs c u v) (h2 : ∀ v ∈ L, v < n) : HasClq n cs c L.length := by
  have hp := List.mergeSort_perm L (fun a b => decide (a ≤ b))
  have hs := List.pairwise_mergeSort (le := fun a b : Nat => decide (a ≤ b)) (fun a b c h1 h2 => by simp at *; omega) (fun a b => by simp; omega) L
  have hj := (List.Perm.pairwise_iff (fun {x y} h => Jn.symm h) hp).2 h1
  have hboth := hs.and hj
  refine ⟨L.mergeSort (fun a b => decide (a ≤ b)), hp.length_eq, hboth.imp (fun {u v} h => ?_), fun v hv => h2 v (hp.mem_iff.1 hv), hboth.imp (fun {u v} h => ?_)⟩
  · have h1 := h.1
    have h2 := h.2.1
    simp at h1; omega
  · have h1 := h.1
    have h2 := h.2.1
    simp at h1
    have h3 := h.2.2.2
    rw [atZ_lt (by omega)] at h3; exact h3

theorem clq_of_bad {n : Nat} (hn : n ≤ 8) {cs : List Int} (hlen : cs.length = npairs n) {k l : Int} (hk : 2 ≤ k) (hl : 2 ≤ l) {j : Nat} (hj1 : 1 ≤ j) (hj2 : j ≤ npairs n) (h : goodW n k l (cs.take j) = false) :
    HasClq n cs (cs.getD (j - 1) 0) (sizeOfColor k l (cs.getD (j - 1) 0)).toNat := by
  have hll : (cs.take j).length = j := by rw [List.length_take]; omega
  unfold goodW at h
  obtain ⟨e1, e2, e3⟩ := place_ends n hn (j - 1) (by omega)
  rw [hll, getD_take (by omega), Bool.not_eq_false', joinedF_iff] at h
  obtain ⟨p, hp⟩ : ∃ p, p = (endsOf n).getD (j - 1) (0, 0) := ⟨_, rfl⟩
  obtain ⟨c, hc⟩ : ∃ p, p = cs.getD (j - 1) 0 := ⟨_, rfl⟩
  rw [← hp] at e1 e2 e3 h
  rw [← hc] at h ⊢
  obtain ⟨a, b⟩ := p
  simp only at e1 e2 e3 h
  obtain ⟨vs, g1, g2, g3, g4⟩ := h
  rw [fitsAll_iff] at g4
  have hsz : 2 ≤ sizeOfColor k l c := by unfold sizeOfColor; split <;> assumption
  have hup : ∀ u v : Int, Jn n (cs.take j) c u v → Jn n cs c u v := by
    rintro u v ⟨q1, q2, q3⟩
    rw [hll] at q2
    refine ⟨q1, by omega, ?_⟩
    by_cases h0 : 0 ≤ atZ n u v
    · rw [getD_take (by omega)] at q3; exact q3
    · rw [show (atZ n u v).toNat = 0 by omega] at q3 ⊢
      rw [getD_take (by omega)] at q3; exact q3
  have hab : Jn n cs c a b := by
    refine ⟨by omega, by rw [atZ_lt e1]; omega, ?_⟩
    rw [atZ_lt e1, e3, hc]; rfl
  have := clq_of_set (n := n) (cs := cs) (c := c) (a :: b :: vs) (by
    rw [List.pairwise_cons, List.pairwise_cons]
    refine ⟨fun v hv => ?_, fun v hv => hup _ _ (g4.1 b (by simp) v hv), g4.2.imp (fun h => hup _ _ h)⟩
    rcases List.mem_cons.1 hv with rfl | hv
    · exact hab
    · exact hup _ _ (g4.1 a (by simp) v hv)) (fun v hv => by
    rcases List.mem_cons.1 hv with rfl | hv
    · omega
    · rcases List.mem_cons.1 hv with rfl | hv
      · exact e2
      · exact (g3 v hv).2)
  rw [show (a :: b :: vs).length = (sizeOfColor k l c).toNat by simp [g1]; omega] at this
  exact this

theorem mem_leaves {below : Nat} {good : List Int → Bool} : ∀ {f : Nat} {l xs : List Int},
    xs ∈ leaves below good f l ↔ ∃ ys, xs = l ++ ys ∧ ys.length = f ∧ (∀ y ∈ ys, ∃ c : Nat, c < below ∧ y = c) ∧ ∀ j, 1 ≤ j → j ≤ f → good (l ++ ys.take j) = true
  | 0, l, xs => by
    constructor
    · intro h
      have : xs = l := by simpa [leaves] using h
      exact ⟨[], by simp [this], rfl, by simp, fun j h1 h2 => by omega⟩
    · rintro ⟨ys, rfl, h, _, _⟩
      have : ys = [] := List.eq_nil_of_length_eq_zero h
      simp [leaves, this]
  | f + 1, l, xs => by
    unfold leaves
    rw [List.mem_flatMap]
    constructor
    · rintro ⟨c, hc, hx⟩
      rw [List.mem_range] at hc
      split at hx
      · rename_i hg
        obtain ⟨ys, rfl, h1, h2, h3⟩ := mem_leaves.1 hx
        refine ⟨(c : Int) :: ys, by simp, by simp [h1], fun y hy => ?_, fun j hj1 hj2 => ?_⟩
        · rcases List.mem_cons.1 hy with rfl | hy
          · exact ⟨c, hc, rfl⟩
          · exact h2 y hy
        · obtain ⟨i, rfl⟩ : ∃ i, j = i + 1 := ⟨j - 1, by omega⟩
          rw [List.take_succ_cons]
          by_cases hi : i = 0
          · subst hi; simpa using hg
          · have := h3 i (by omega) (by omega)
            simpa using this
      · simp at hx
    · rintro ⟨ys, rfl, h1, h2, h3⟩
      cases ys with
      | nil => simp at h1
      | cons y ys =>
        obtain ⟨c, hc, rfl⟩ := h2 y (by simp)
        refine ⟨c, List.mem_range.2 hc, ?_⟩
        have hg := h3 1 (by omega) (by omega)
        rw [if_pos (by simpa using hg)]
        refine mem_leaves.2 ⟨ys, by simp, by simpa using h1, fun y hy => h2 y (by simp [hy]), fun j hj1 hj2 => ?_⟩
        have := h3 (j + 1) (by omega) (by omega)
        simpa using this

/-- A coloring of the pairs of n vertices with 0 and 1 and no clique. -/
def Free (n : Nat) (k l : Int) (xs : List Int) : Prop := xs.length = npairs n ∧ (∀ y ∈ xs, y = 0 ∨ y = 1) ∧ ¬ HasClq n xs 0 k.toNat ∧ ¬ HasClq n xs 1 l.toNat
theorem mem_avoidL {n : Nat} (hn : n ≤ 8) {k l : Int} (hk : 2 ≤ k) (hl : 2 ≤ l) {xs : List Int} : xs ∈ avoidL n k l ↔ Free n k l xs := by
  unfold avoidL
  rw [mem_leaves]
  constructor
  · rintro ⟨ys, rfl, h1, h2, h3⟩
    refine ⟨by simpa using h1, fun y hy => ?_, fun hq => ?_, fun hq => ?_⟩
    · obtain ⟨c, hc, rfl⟩ := h2 y (by simpa using hy)
      omega
    · obtain ⟨j, g1, g2, g3⟩ := bad_of_clq hn (k := k) (l := l) (by simpa using h1) (by omega) (by simp [sizeOfColor]; omega) hq
      have := h3 j g1 g2
      simp at this g3; rw [this] at g3; cases g3
    · obtain ⟨j, g1, g2, g3⟩ := bad_of_clq hn (k := k) (l := l) (by simpa using h1) (by omega) (by simp [sizeOfColor]; omega) hq
      have := h3 j g1 g2
      simp at this g3; rw [this] at g3; cases g3
  · rintro ⟨h1, h2, h3, h4⟩
    refine ⟨xs, by simp, h1, fun y hy => ?_, fun j hj1 hj2 => ?_⟩
    · rcases h2 y hy with rfl | rfl
      · exact ⟨0, by omega, rfl⟩
      · exact ⟨1, by omega, rfl⟩
    · rw [List.nil_append]
      cases hg : goodW n k l (xs.take j) with
      | true => rfl
      | false =>
        exfalso
        have := clq_of_bad hn h1 hk hl hj1 hj2 hg
        have hm : xs.getD (j - 1) 0 ∈ xs := by
          rw [List.getD_eq_getElem?_getD, List.getElem?_eq_getElem (by omega)]
          exact List.getElem_mem _
        rcases h2 _ hm with e | e <;> rw [e] at this
        · exact h3 (by simpa [sizeOfColor] using this)
        · exact h4 (by simpa [sizeOfColor] using this)

theorem firstFrom_none_iff {β : Type} {g : Nat → Option β} : ∀ {m v : Nat}, firstFrom g m v = none ↔ ∀ x, v ≤ x → x < v + m → g x = none
  | 0, v => by
    constructor
    · intro _ x h1 h2; omega
    · intro _; rfl
  | m + 1, v => by
    unfold firstFrom
    constructor
    · intro h x h1 h2
      cases hg : g v with
      | some r => rw [hg] at h; cases h
      | none =>
        rw [hg] at h
        by_cases e : x = v
        · subst e; exact hg
        · exact firstFrom_none_iff.1 h x (by omega) (by omega)
    · intro h
      rw [h v (Nat.le_refl _) (by omega)]
      exact firstFrom_none_iff.2 fun x h1 h2 => h x (by omega) (by omega)
theorem firstFrom_some_at {β : Type} {g : Nat → Option β} {r : β} : ∀ {m v : Nat}, firstFrom g m v = some r → ∃ x, v ≤ x ∧ x < v + m ∧ g x = some r
  | 0, v, h => by cases h
  | m + 1, v, h => by
    unfold firstFrom at h
    cases hg : g v with
    | some q =>
      rw [hg] at h
      exact ⟨v, Nat.le_refl _, by omega, hg.trans h⟩
    | none =>
      rw [hg] at h
      obtain ⟨x, h1, h2, h3⟩ := firstFrom_some_at h
      exact ⟨x, by omega, by omega, h3⟩
theorem fromOf_last (l : List Int) (x : Nat) : fromOf (l ++ [(x : Int)]) = x + 1 := by
  unfold fromOf
  rw [List.getLast?_concat]; simp

theorem cliqueF_none_iff {ok : List Int → Nat → Bool} {n : Nat} : ∀ {f : Nat} {l : List Int},
    cliqueF ok n f l = none ↔ ¬ ∃ vs : List Nat, vs.length = f ∧ vs.Pairwise (· < ·) ∧ (∀ v ∈ vs, fromOf l ≤ v ∧ v < n) ∧ FitsAll ok l vs
  | 0, l => by
    constructor
    · intro h; cases h
    · intro h; exact absurd ⟨[], rfl, .nil, by simp, trivial⟩ h
  | f + 1, l => by
    unfold cliqueF
    rw [firstFrom_none_iff]
    constructor
    · rintro h ⟨vs, g1, g2, g3, g4⟩
      cases vs with
      | nil => simp at g1
      | cons x vs =>
        have hx := g3 x (by simp)
        have := h x hx.1 (by omega)
        rw [if_pos g4.1, cliqueF_none_iff, fromOf_last] at this
        rw [List.pairwise_cons] at g2
        exact this ⟨vs, by simpa using g1, g2.2, fun v hv => ⟨g2.1 v hv, (g3 v (by simp [hv])).2⟩, g4.2⟩
    · intro h x h1 h2
      split
      · rename_i hok
        rw [cliqueF_none_iff, fromOf_last]
        rintro ⟨vs, g1, g2, g3, g4⟩
        refine h ⟨x :: vs, by simp [g1], List.pairwise_cons.2 ⟨fun v hv => (g3 v hv).1, g2⟩, fun v hv => ?_, hok, g4⟩
        rcases List.mem_cons.1 hv with rfl | hv
        · omega
        · have := g3 v hv; omega
      · rfl
theorem cliqueF_some_at {ok : List Int → Nat → Bool} {n : Nat} : ∀ {f : Nat} {l r : List Int}, cliqueF ok n f l = some r →
    ∃ vs : List Nat, r = l ++ vs.map (fun v : Nat => (v : Int)) ∧ vs.length = f ∧ vs.Pairwise (· < ·) ∧ (∀ v ∈ vs, fromOf l ≤ v ∧ v < n) ∧ FitsAll ok l vs
  | 0, l, r, h => by
    have : l = r := by simpa [cliqueF] using h
    exact ⟨[], by simp [this], rfl, .nil, by simp, trivial⟩
  | f + 1, l, r, h => by
    unfold cliqueF at h
    obtain ⟨x, h1, h2, h3⟩ := firstFrom_some_at h
    split at h3
    · rename_i hok
      obtain ⟨vs, rfl, g1, g2, g3, g4⟩ := cliqueF_some_at h3
      rw [fromOf_last] at g3
      refine ⟨x :: vs, by simp, by simp [g1], List.pairwise_cons.2 ⟨fun v hv => (g3 v hv).1, g2⟩, fun v hv => ?_, hok, g4⟩
      rcases List.mem_cons.1 hv with rfl | hv
      · omega
      · have := g3 v hv; omega
    · cases h3
theorem okP_iff {cs : List Int} {n : Nat} {c : Int} {l : List Int} {v : Nat} : okP cs n c l v = true ↔ ∀ u ∈ l, cs.getD (placeZ n u v).toNat 0 = c := by
  unfold okP
  simp only [Bool.not_eq_true', List.any_eq_false, bne_iff_ne, ne_eq, Decidable.not_not]
theorem fitsOk_iff {cs : List Int} {n : Nat} {c : Int} : ∀ {vs : List Nat} {cl : List Int},
    FitsAll (okP cs n c) cl vs ↔ (∀ u ∈ cl, ∀ v ∈ vs, cs.getD (placeZ n u (v : Nat)).toNat 0 = c) ∧ vs.Pairwise fun u v : Nat => colN n cs u v = c
  | [], cl => by simp [FitsAll]
  | x :: vs, cl => by
    show (okP cs n c cl x = true ∧ FitsAll (okP cs n c) (cl ++ [(x : Int)]) vs) ↔ _
    rw [okP_iff, fitsOk_iff, List.pairwise_cons]
    constructor
    · rintro ⟨h1, h2, h3⟩
      refine ⟨fun u hu v hv => ?_, fun v hv => h2 x (by simp) v hv, h3⟩
      rcases List.mem_cons.1 hv with rfl | hv
      · exact h1 u hu
      · exact h2 u (by simp [hu]) v hv
    · rintro ⟨h1, h2, h3⟩
      refine ⟨fun u hu => h1 u hu x (by simp), fun u hu v hv => ?_, h3⟩
      rcases List.mem_append.1 hu with hu | hu
      · exact h1 u hu v (by simp [hv])
      · rw [List.mem_singleton] at hu; subst hu; exact h2 v hv
theorem cliqueF_free {n : Nat} {cs : List Int} {c : Int} {k : Nat} : cliqueF (okP cs n c) n k [] = none ↔ ¬ HasClq n cs c k := by
  rw [cliqueF_none_iff]
  constructor
  · rintro h ⟨vs, g1, g2, g3, g4⟩
    exact h ⟨vs, g1, g2, fun v hv => ⟨Nat.zero_le _, g3 v hv⟩, fitsOk_iff.2 ⟨by simp, g4⟩⟩
  · rintro h ⟨vs, g1, g2, g3, g4⟩
    exact h ⟨vs, g1, g2, fun v hv => (g3 v hv).2, (fitsOk_iff.1 g4).2⟩

/-- The coloring, restricted to one vertex less. -/
def lessOf (n : Nat) (xs : List Int) : List Int := (endsOf (n - 1)).map fun e => colN n xs e.1 e.2
theorem ends_len0 : ∀ n : Nat, n ≤ 8 → (endsOf n).length = npairs n := by decide
theorem colN_less {n : Nat} (hn : n ≤ 8) {xs : List Int} {u v : Nat} (huv : u < v) (hv : v < n - 1) : colN (n - 1) (lessOf n xs) u v = colN n xs u v := by
  obtain ⟨h1, h2, h3⟩ := ends_place (n - 1) (by omega) v hv u huv
  have hl := ends_len0 (n - 1) (by omega)
  have h4 : (endsOf (n - 1))[(placeZ (n - 1 : Nat) u v).toNat]? = some (u, v) := by
    rw [List.getD_eq_getElem?_getD, List.getElem?_eq_getElem (by omega)] at h3
    rw [List.getElem?_eq_getElem (by omega)]
    exact congrArg some h3
  unfold colN lessOf
  rw [List.getD_eq_getElem?_getD, List.getElem?_map, h4]; rfl
theorem lessOf_clq {n : Nat} (hn : n ≤ 8) {xs : List Int} {c : Int} {s : Nat} (h : HasClq (n - 1) (lessOf n xs) c s) : HasClq n xs c s := by
  obtain ⟨vs, g1, g2, g3, g4⟩ := h
  refine ⟨vs, g1, g2, fun v hv => by have := g3 v hv; omega, ?_⟩
  refine List.Pairwise.imp_of_mem (fun {u v} hu hv huv => ?_) (g2.and g4)
  rw [← colN_less hn huv.1 (g3 v hv)]; exact huv.2
theorem lessOf_free {n : Nat} (hn : n ≤ 8) {k l : Int} {xs : List Int} (h : Free n k l xs) : Free (n - 1) k l (lessOf n xs) := by
  obtain ⟨h1, h2, h3, h4⟩ := h
  refine ⟨by unfold lessOf; rw [List.length_map]; exact ends_len0 _ (by omega), fun y hy => ?_, fun h => h3 (lessOf_clq hn h), fun h => h4 (lessOf_clq hn h)⟩
  unfold lessOf at hy
  obtain ⟨e, he, rfl⟩ := List.mem_map.1 hy
  unfold colN
  rw [List.getD_eq_getElem?_getD]
  cases hq : xs[(placeZ n e.1 e.2).toNat]? with
  | none => exact .inl rfl
  | some q => exact h2 _ (List.mem_of_getElem? hq)

theorem avoid_fewer {n : Nat} (hn : n ≤ 8) {k l : Int} (hk : 2 ≤ k) (hl : 2 ≤ l) (h : avoidL n k l ≠ []) : avoidL (n - 1) k l ≠ [] := by
  obtain ⟨xs, hx⟩ := List.exists_mem_of_ne_nil _ h
  have := (mem_avoidL (by omega) hk hl).2 (lessOf_free hn ((mem_avoidL hn hk hl).1 hx))
  exact List.ne_nil_of_mem this
theorem avoid_down {k l : Int} (hk : 2 ≤ k) (hl : 2 ≤ l) {n m : Nat} (hn : n ≤ 8) (hm : m ≤ n) (h : avoidL n k l ≠ []) : avoidL m k l ≠ [] := by
  have : ∀ d, m + d = n → avoidL m k l ≠ [] := by
    intro d
    induction d generalizing m with
    | zero => intro e; rw [show m = n by omega]; exact h
    | succ d ih =>
      intro e
      have := avoid_fewer (n := m + 1) (by omega) hk hl (ih (m := m + 1) (by omega) (by omega))
      simpa using this
  exact this (n - m) (by omega)

theorem ne_of_head {α : Type} {l : List α} (h : l.head?.isSome = true) : l ≠ [] := by intro e; subst e; cases h
theorem eq_of_head {α : Type} {l : List α} (h : l.head?.isSome = false) : l = [] := by cases l with | nil => rfl | cons => cases h

/-! Exchanging the colors. -/
def flipL (xs : List Int) : List Int := xs.map fun x => 1 - x
theorem flip_len (xs : List Int) : (flipL xs).length = xs.length := by simp [flipL]
theorem flip_getD {xs : List Int} {i : Nat} (h : i < xs.length) : (flipL xs).getD i 0 = 1 - xs.getD i 0 := by
  simp [flipL, List.getD_eq_getElem?_getD, h]
theorem fit_flip {n : Nat} {cs : List Int} (hpos : 1 ≤ cs.length) (c : Int) : fitB n (flipL cs) (1 - c) = fitB n cs c := by
  funext cl v
  unfold fitB
  congr 2
  funext u
  rw [flip_len]
  cases hd : decide (atZ n u v < cs.length)
  · rfl
  · rw [decide_eq_true_eq] at hd
    rw [flip_getD (by omega), Bool.true_and, Bool.true_and]
    rw [Bool.eq_iff_iff, beq_iff_eq, beq_iff_eq]
    omega
theorem goodW_flip {n : Nat} {k l : Int} {cs : List Int} (hpos : 1 ≤ cs.length) (h01 : ∀ y ∈ cs, y = 0 ∨ y = 1) : goodW n l k (flipL cs) = goodW n k l cs := by
  unfold goodW
  rw [flip_len, flip_getD (by omega)]
  have hm : cs.getD (cs.length - 1) 0 ∈ cs := by
    rw [List.getD_eq_getElem?_getD, List.getElem?_eq_getElem (by omega)]
    exact List.getElem_mem _
  rw [fit_flip hpos]
  rcases h01 _ hm with e | e <;> rw [e] <;> rfl
theorem leaves_two (good : List Int → Bool) (f : Nat) (l : List Int) : leaves 2 good (f + 1) l = (if good (l ++ [0]) = true then leaves 2 good f (l ++ [0]) else []) ++ (if good (l ++ [1]) = true then leaves 2 good f (l ++ [1]) else []) := by
  show ((List.range 2).flatMap _) = _
  rw [show List.range 2 = [0, 1] from rfl, List.flatMap_cons, List.flatMap_cons, List.flatMap_nil, List.append_nil]; rfl
theorem leaves_flip {n : Nat} {k l : Int} : ∀ (f : Nat) (xs : List Int), (∀ y ∈ xs, y = 0 ∨ y = 1) → (leaves 2 (goodW n l k) f (flipL xs)).length = (leaves 2 (goodW n k l) f xs).length := by
  intro f
  induction f with
  | zero => intro xs _; rfl
  | succ f ih =>
    intro xs hx
    have h0 : ∀ y ∈ xs ++ [0], y = 0 ∨ y = 1 := fun y hy => by
      rcases List.mem_append.1 hy with h | h
      · exact hx y h
      · exact .inl (by simpa using h)
    have h1 : ∀ y ∈ xs ++ [1], y = 0 ∨ y = 1 := fun y hy => by
      rcases List.mem_append.1 hy with h | h
      · exact hx y h
      · exact .inr (by simpa using h)
    have e0 : flipL xs ++ [1] = flipL (xs ++ [0]) := by simp [flipL]
    have e1 : flipL xs ++ [0] = flipL (xs ++ [1]) := by simp [flipL]
    rw [leaves_two, leaves_two, e0, e1, goodW_flip (by simp) h0, goodW_flip (by simp) h1, List.length_append, List.length_append, Nat.add_comm]
    congr 1
    · split
      · exact ih _ h0
      · rfl
    · split
      · exact ih _ h1
      · rfl
theorem avoid_flip (n : Nat) (k l : Int) : (avoidL n k l).length = (avoidL n l k).length := (leaves_flip (n := n) (k := k) (l := l) (npairs n) [] (by simp)).symm

/-! Fewer numbers. -/
theorem leaves_fewer {below : Nat} {good : List Int → Bool} {f : Nat} (h : leaves below good (f + 1) [] ≠ []) : leaves below good f [] ≠ [] := by
  obtain ⟨xs, hx⟩ := List.exists_mem_of_ne_nil _ h
  obtain ⟨ys, rfl, h1, h2, h3⟩ := mem_leaves.1 hx
  refine List.ne_nil_of_mem (a := [] ++ xs.take f) (mem_leaves.2 ⟨xs.take f, rfl, by rw [List.length_take]; omega, fun y hy => h2 y (List.mem_of_mem_take hy), fun j hj1 hj2 => ?_⟩)
  have := h3 j hj1 (by omega)
  rwa [List.take_take, Nat.min_eq_left hj2]
theorem leaves_down {below : Nat} {good : List Int → Bool} {n m : Nat} (hm : m ≤ n) (h : leaves below good n [] ≠ []) : leaves below good m [] ≠ [] := by
  have : ∀ d, m + d = n → leaves below good m [] ≠ [] := by
    intro d
    induction d generalizing m with
    | zero => intro e; rw [show m = n by omega]; exact h
    | succ d ih => intro e; exact leaves_fewer (ih (m := m + 1) (by omega) (by omega))
  exact this (n - m) (by omega)
theorem leaves_bar {below : Nat} {good : List Int → Bool} {t : Nat} (h1 : (leaves below good t []).head?.isSome = false) (h2 : (leaves below good (t - 1) []).head?.isSome = true) (n : Nat) : (leaves below good n []).head?.isSome = decide (n < t) := by
  by_cases h : n < t
  · rw [decide_eq_true h]
    have := leaves_down (by omega : n ≤ t - 1) (ne_of_head h2)
    cases he : leaves below good n [] with
    | nil => exact absurd he this
    | cons => rfl
  · rw [decide_eq_false h]
    cases he : leaves below good n [] with
    | nil => rfl
    | cons a s =>
      have := leaves_down (by omega : t ≤ n) (by rw [he]; simp)
      exact absurd (eq_of_head h1) this
/-! What is found. -/
theorem sumF_some_at {cs s : List Int} (h : sumF cs = some s) : ∃ x y : Nat, s = [(x : Int), (y : Int)] ∧ 1 ≤ x ∧ x ≤ y ∧ x + y ≤ cs.length ∧ cs.getD (x - 1) 0 = cs.getD (y - 1) 0 ∧ cs.getD (x - 1) 0 = cs.getD (x + y - 1) 0 := by
  unfold sumF at h
  obtain ⟨x, h1, h2, h⟩ := firstFrom_some_at h
  obtain ⟨y, h3, h4, h⟩ := firstFrom_some_at h
  unfold sumAt at h
  split at h
  · rename_i hq
    rw [Bool.and_eq_true, beq_iff_eq, beq_iff_eq] at hq
    exact ⟨x, y, by simpa using h.symm, h1, h3, by omega, hq.1, hq.2⟩
  · cases h
theorem sumF_none_iff {cs : List Int} : sumF cs = none ↔ ∀ x y : Nat, 1 ≤ x → x ≤ y → x + y ≤ cs.length → ¬ (cs.getD (x - 1) 0 = cs.getD (y - 1) 0 ∧ cs.getD (x - 1) 0 = cs.getD (x + y - 1) 0) := by
  unfold sumF
  rw [firstFrom_none_iff]
  constructor
  · intro h x y h1 h2 h3 hq
    have := firstFrom_none_iff.1 (h x h1 (by omega)) y h2 (by omega)
    unfold sumAt at this
    rw [if_pos (by rw [Bool.and_eq_true, beq_iff_eq, beq_iff_eq]; exact hq)] at this
    cases this
  · intro h x h1 h2
    rw [firstFrom_none_iff]
    intro y h3 h4
    unfold sumAt
    rw [if_neg]
    rw [Bool.and_eq_true, beq_iff_eq, beq_iff_eq]
    exact h x y h1 h3 (by omega)
theorem progF_some_at {cs p : List Int} {k : Nat} (hk : 2 ≤ k) (h : progF cs k = some p) : ∃ a d : Nat, p = [(a : Int), (d : Int)] ∧ 1 ≤ a ∧ 1 ≤ d ∧ a + (k - 1) * d ≤ cs.length ∧ ∀ i, i < k → cs.getD (a + i * d - 1) 0 = cs.getD (a - 1) 0 := by
  unfold progF at h
  obtain ⟨a, h1, h2, h⟩ := firstFrom_some_at h
  obtain ⟨d, h3, h4, h⟩ := firstFrom_some_at h
  unfold progAt at h
  split at h
  · rename_i hq
    refine ⟨a, d, by simpa using h.symm, h1, h3, ?_, fun i hi => ?_⟩
    · have : d ≤ (cs.length - a) / (k - 1) := by omega
      rw [Nat.le_div_iff_mul_le (by omega), Nat.mul_comm] at this
      omega
    · unfold progOk at hq
      rw [List.all_eq_true] at hq
      simpa using hq i (List.mem_range.2 hi)
  · cases h

/-! Differences. -/
def diffL (n : Nat) (cs : List Int) : List Int := (endsOf n).map fun e => cs.getD (e.2 - e.1 - 1) 0
theorem colN_diff {n : Nat} (hn : n ≤ 8) {cs : List Int} {u v : Nat} (huv : u < v) (hv : v < n) : colN n (diffL n cs) u v = cs.getD (v - u - 1) 0 := by
  obtain ⟨h1, h2, h3⟩ := ends_place n hn v hv u huv
  have hl := ends_len0 n hn
  have h4 : (endsOf n)[(placeZ n u v).toNat]? = some (u, v) := by
    rw [List.getD_eq_getElem?_getD, List.getElem?_eq_getElem (by omega)] at h3
    rw [List.getElem?_eq_getElem (by omega)]
    exact congrArg some h3
  unfold colN diffL
  rw [List.getD_eq_getElem?_getD, List.getElem?_map, h4]; rfl
theorem diff_sum {n : Nat} (hn : n ≤ 8) {cs : List Int} (hl : cs.length + 1 = n) (h01 : ∀ y ∈ cs, y = 0 ∨ y = 1) : sumF cs = none ↔ ¬ HasClq n (diffL n cs) 0 3 ∧ ¬ HasClq n (diffL n cs) 1 3 := by
  rw [sumF_none_iff]
  constructor
  · intro h
    have key : ∀ c, ¬ HasClq n (diffL n cs) c 3 := by
      rintro c ⟨vs, g1, g2, g3, g4⟩
      obtain ⟨u, v, w, rfl⟩ : ∃ u v w, vs = [u, v, w] := by
        match vs, g1 with
        | [u, v, w], _ => exact ⟨u, v, w, rfl⟩
      simp only [List.pairwise_cons, List.mem_cons, List.not_mem_nil, or_false, forall_eq_or_imp, forall_eq, false_implies, implies_true, List.Pairwise.nil, and_true] at g2 g4 g3
      obtain ⟨⟨p1, p2⟩, p3⟩ := g2
      obtain ⟨⟨q1, q2⟩, q3⟩ := g4
      rw [colN_diff hn (by omega) (by omega)] at q1 q2 q3
      by_cases hxy : v - u ≤ w - v
      · refine h (v - u) (w - v) (by omega) hxy (by omega) ⟨by rw [q1, q3], ?_⟩
        rw [q1, show v - u + (w - v) - 1 = w - u - 1 by omega, q2]
      · refine h (w - v) (v - u) (by omega) (by omega) (by omega) ⟨by rw [q1, q3], ?_⟩
        rw [q3, show w - v + (v - u) - 1 = w - u - 1 by omega, q2]
    exact ⟨key 0, key 1⟩
  · rintro ⟨h0, h1⟩ x y hx hxy hl2 ⟨e1, e2⟩
    have hcl : ∀ c, cs.getD (x - 1) 0 = c → HasClq n (diffL n cs) c 3 := by
      intro c hc
      refine ⟨[0, x, x + y], rfl, ?_, ?_, ?_⟩
      · simp; omega
      · intro v hv; simp at hv; omega
      · simp only [List.pairwise_cons, List.mem_cons, List.not_mem_nil, or_false, forall_eq_or_imp, forall_eq, false_implies, implies_true, List.Pairwise.nil, and_true]
        rw [colN_diff hn (by omega) (by omega), colN_diff hn (by omega) (by omega), colN_diff hn (by omega) (by omega)]
        refine ⟨⟨by simpa using hc, by rw [Nat.sub_zero, ← e2]; exact hc⟩, ?_⟩
        rw [show x + y - x - 1 = y - 1 by omega, ← e1]; exact hc
    have hm : cs.getD (x - 1) 0 ∈ cs := by
      rw [List.getD_eq_getElem?_getD, List.getElem?_eq_getElem (by omega)]
      exact List.getElem_mem _
    rcases h01 _ hm with e | e
    · exact h0 (hcl 0 e)
    · exact h1 (hcl 1 e)
end Go.Proofs.Ytplafgmceggcnaa
