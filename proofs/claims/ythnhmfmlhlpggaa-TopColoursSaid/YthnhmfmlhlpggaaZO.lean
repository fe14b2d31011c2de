/- What is proved: what a search for a clique finds (ported from the paint seat of this hand). No condition beyond those in each statement. -/
import Derived.Test.YthnhmfmlhlpggaaPtL
namespace Go.Proofs.Ythnhmfmlhlpggaa.Pt
set_option maxRecDepth 100000

def FitsAll (fit : List Int → Nat → Bool) : List Int → List Nat → Prop
  | _, [] => True
  | cl, v :: vs => fit cl v = true ∧ FitsAll fit (cl ++ [(v : Int)]) vs

/-- The color of a pair. -/
def colN (n : Nat) (cs : List Int) (u v : Nat) : Int := cs.getD (placeZ n u v).toNat 0

def HasClq (n : Nat) (cs : List Int) (c : Int) (s : Nat) : Prop :=
  ∃ vs : List Nat, vs.length = s ∧ vs.Pairwise (· < ·) ∧ (∀ v ∈ vs, v < n) ∧ vs.Pairwise fun u v => colN n cs u v = c

theorem firstFrom_none_iff {β : Type} {g : Nat → Option β} : ∀ {m v : Nat}, firstFrom g m v = none ↔ ∀ x, v ≤ x → x < v + m → g x = none
  | 0, v => by
    constructor
    · intro _ x h1 h2; omega
    · intro _; rfl
  | m + 1, v => by
    unfold firstFrom
    constructor
    · intro h x h1 h2
      cases hg : g v with
      | some r => rw [hg] at h; cases h
      | none =>
        rw [hg] at h
        by_cases e : x = v
        · subst e; exact hg
        · exact firstFrom_none_iff.1 h x (by omega) (by omega)
    · intro h
      rw [h v (Nat.le_refl _) (by omega)]
      exact firstFrom_none_iff.2 fun x h1 h2 => h x (by omega) (by omega)

theorem firstFrom_some_at {β : Type} {g : Nat → Option β} {r : β} : ∀ {m v : Nat}, firstFrom g m v = some r → ∃ x, v ≤ x ∧ x < v + m ∧ g x = some r
  | 0, v, h => by cases h
  | m + 1, v, h => by
    unfold firstFrom at h
    cases hg : g v with
    | some q =>
      rw [hg] at h
      exact ⟨v, Nat.le_refl _, by omega, hg.trans h⟩
    | none =>
      rw [hg] at h
      obtain ⟨x, h1, h2, h3⟩ := firstFrom_some_at h
      exact ⟨x, by omega, by omega, h3⟩

theorem fromOf_last (l : List Int) (x : Nat) : fromOf (l ++ [(x : Int)]) = x + 1 := by
  unfold fromOf
  rw [List.getLast?_concat]; simp

theorem cliqueF_none_iff {ok : List Int → Nat → Bool} {n : Nat} : ∀ {f : Nat} {l : List Int},
    cliqueF ok n f l = none ↔ ¬ ∃ vs : List Nat, vs.length = f ∧ vs.Pairwise (· < ·) ∧ (∀ v ∈ vs, fromOf l ≤ v ∧ v < n) ∧ FitsAll ok l vs
  | 0, l => by
    constructor
    · intro h; cases h
    · intro h; exact absurd ⟨[], rfl, .nil, by simp, trivial⟩ h
  | f + 1, l => by
    unfold cliqueF
    rw [firstFrom_none_iff]
    constructor
    · rintro h ⟨vs, g1, g2, g3, g4⟩
      cases vs with
      | nil => simp at g1
      | cons x vs =>
        have hx := g3 x (by simp)
        have := h x hx.1 (by omega)
        rw [if_pos g4.1, cliqueF_none_iff, fromOf_last] at this
        rw [List.pairwise_cons] at g2
        exact this ⟨vs, by simpa using g1, g2.2, fun v hv => ⟨g2.1 v hv, (g3 v (by simp [hv])).2⟩, g4.2⟩
    · intro h x h1 h2
      split
      · rename_i hok
        rw [cliqueF_none_iff, fromOf_last]
        rintro ⟨vs, g1, g2, g3, g4⟩
        refine h ⟨x :: vs, by simp [g1], List.pairwise_cons.2 ⟨fun v hv => (g3 v hv).1, g2⟩, fun v hv => ?_, hok, g4⟩
        rcases List.mem_cons.1 hv with rfl | hv
        · omega
        · have := g3 v hv; omega
      · rfl

theorem cliqueF_some_at {ok : List Int → Nat → Bool} {n : Nat} : ∀ {f : Nat} {l r : List Int}, cliqueF ok n f l = some r →
    ∃ vs : List Nat, r = l ++ vs.map (fun v : Nat => (v : Int)) ∧ vs.length = f ∧ vs.Pairwise (· < ·) ∧ (∀ v ∈ vs, fromOf l ≤ v ∧ v < n) ∧ FitsAll ok l vs
  | 0, l, r, h => by
    have : l = r := by simpa [cliqueF] using h
    exact ⟨[], by simp [this], rfl, .nil, by simp, trivial⟩
  | f + 1, l, r, h => by
    unfold cliqueF at h
    obtain ⟨x, h1, h2, h3⟩ := firstFrom_some_at h
    split at h3
    · rename_i hok
      obtain ⟨vs, rfl, g1, g2, g3, g4⟩ := cliqueF_some_at h3
      rw [fromOf_last] at g3
      refine ⟨x :: vs, by simp, by simp [g1], List.pairwise_cons.2 ⟨fun v hv => (g3 v hv).1, g2⟩, fun v hv => ?_, hok, g4⟩
      rcases List.mem_cons.1 hv with rfl | hv
      · omega
      · have := g3 v hv; omega
    · cases h3

theorem okP_iff {cs : List Int} {n : Nat} {c : Int} {l : List Int} {v : Nat} : okP cs n c l v = true ↔ ∀ u ∈ l, cs.getD (placeZ n u v).toNat 0 = c := by
  unfold okP
  simp only [Bool.not_eq_true', List.any_eq_false, bne_iff_ne, ne_eq, Decidable.not_not]

theorem fitsOk_iff {cs : List Int} {n : Nat} {c : Int} : ∀ {vs : List Nat} {cl : List Int},
    FitsAll (okP cs n c) cl vs ↔ (∀ u ∈ cl, ∀ v ∈ vs, cs.getD (placeZ n u (v : Nat)).toNat 0 = c) ∧ vs.Pairwise fun u v : Nat => colN n cs u v = c
  | [], cl => by simp [FitsAll]
  | x :: vs, cl => by
    show (okP cs n c cl x = true ∧ FitsAll (okP cs n c) (cl ++ [(x : Int)]) vs) ↔ _
    rw [okP_iff, fitsOk_iff, List.pairwise_cons]
    constructor
    · rintro ⟨h1, h2, h3⟩
      refine ⟨fun u hu v hv => ?_, fun v hv => h2 x (by simp) v hv, h3⟩
      rcases List.mem_cons.1 hv with rfl | hv
      · exact h1 u hu
      · exact h2 u (by simp [hu]) v hv
    · rintro ⟨h1, h2, h3⟩
      refine ⟨fun u hu => h1 u hu x (by simp), fun u hu v hv => ?_, h3⟩
      rcases List.mem_append.1 hu with hu | hu
      · exact h1 u hu v (by simp [hv])
      · rw [List.mem_singleton] at hu; subst hu; exact h2 v hv

theorem cliqueF_free {n : Nat} {cs : List Int} {c : Int} {k : Nat} : cliqueF (okP cs n c) n k [] = none ↔ ¬ HasClq n cs c k := by
  rw [cliqueF_none_iff]
  constructor
  · rintro h ⟨vs, g1, g2, g3, g4⟩
    exact h ⟨vs, g1, g2, fun v hv => ⟨Nat.zero_le _, g3 v hv⟩, fitsOk_iff.2 ⟨by simp, g4⟩⟩
  · rintro h ⟨vs, g1, g2, g3, g4⟩
    exact h ⟨vs, g1, g2, fun v hv => (g3 v hv).2, (fitsOk_iff.1 g4).2⟩

end Go.Proofs.Ythnhmfmlhlpggaa.Pt
