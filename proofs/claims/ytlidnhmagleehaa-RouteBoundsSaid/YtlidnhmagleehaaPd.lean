/- What is proved: plain facts on neighbours, balls and Bound. No condition beyond those in each statement. -/
import Derived.Test.YtlidnhmagleehaaPc
namespace Go.Proofs.Ytlidnhmagleehaa

def adjB (es : List (Int × Int)) (a b : Nat) : Bool := es.any fun e => (e.1 == (a : Int) && e.2 == (b : Int)) || (e.1 == (b : Int) && e.2 == (a : Int))
def degN (n : Nat) (es : List (Int × Int)) (v : Nat) : Nat := ((List.range n).filter (adjB es v)).length
def ballF (n : Nat) (es : List (Int × Int)) (v : Nat) : Nat → List Bool
  | 0 => (List.range n).map fun u => u == v
  | t + 1 => (List.range n).map fun b => (ballF n es v t).getD b false || (List.range n).any fun a => (ballF n es v t).getD a false && adjB es a b
def fullB (l : List Bool) : Bool := !(l.any fun u => false == u)
/-- How far the farthest vertex is. -/
def eccF (n : Nat) (es : List (Int × Int)) (v : Nat) : Option Nat := (List.range n).find? fun t => fullB (ballF n es v t)
def bndGo (n : Nat) (es : List (Int × Int)) : List Nat → Nat → Nat → Option (Nat × Nat)
  | [], D, d => some (D, d)
  | v :: l, D, d => match eccF n es v with
    | none => none
    | some t => bndGo n es l (max D t) (max d (degN n es v))
theorem ball_len (n : Nat) (es : List (Int × Int)) (v t : Nat) : (ballF n es v t).length = n := by cases t <;> simp [ballF]
theorem ball_zero {n v : Nat} (h2 : 2 ≤ n) (es : List (Int × Int)) : fullB (ballF n es v 0) = false := by
  unfold fullB ballF
  rw [Bool.not_eq_false', List.any_eq_true]
  refine ⟨false, List.mem_map.2 ⟨if v = 0 then 1 else 0, List.mem_range.2 (by split <;> omega), ?_⟩, rfl⟩
  split <;> simp <;> omega
theorem ecc_pos {n v t : Nat} (h2 : 2 ≤ n) {es : List (Int × Int)} (h : eccF n es v = some t) : 1 ≤ t ∧ t < n ∧ fullB (ballF n es v t) = true := by
  unfold eccF at h
  have h1 := List.find?_some h
  have h3 := List.mem_of_find?_eq_some h
  refine ⟨?_, List.mem_range.1 h3, h1⟩
  rcases Nat.eq_zero_or_pos t with h0 | h0
  · subst h0; rw [ball_zero h2] at h1; cases h1
  · exact h0
theorem bnd_spec {n : Nat} {es : List (Int × Int)} : ∀ {l : List Nat} {D d D' d' : Nat}, bndGo n es l D d = some (D', d') → D ≤ D' ∧ d ≤ d' ∧ (∀ v ∈ l, ∃ t, eccF n es v = some t ∧ t ≤ D') ∧ (∀ v ∈ l, degN n es v ≤ d') ∧ (D' = D ∨ ∃ v ∈ l, eccF n es v = some D') ∧ (d' = d ∨ ∃ v ∈ l, degN n es v = d')
  | [], D, d, D', d', h => by
    cases h
    exact ⟨Nat.le_refl _, Nat.le_refl _, by simp, by simp, .inl rfl, .inl rfl⟩
  | v :: l, D, d, D', d', h => by
    unfold bndGo at h
    cases he : eccF n es v with
    | none => rw [he] at h; cases h
    | some t =>
      rw [he] at h
      obtain ⟨h1, h2, h3, h4, h5, h6⟩ := bnd_spec h
      refine ⟨by omega, by omega, fun u hu => ?_, fun u hu => ?_, ?_, ?_⟩
      · rcases List.mem_cons.1 hu with rfl | hu
        · exact ⟨t, he, by omega⟩
        · exact h3 u hu
      · rcases List.mem_cons.1 hu with rfl | hu
        · omega
        · exact h4 u hu
      · clear h6
        rcases h5 with h5 | ⟨u, hu, h5⟩
        · by_cases c : D ≤ t
          · exact .inr ⟨v, by simp, by rw [he, h5]; congr 1; omega⟩
          · exact .inl (by omega)
        · exact .inr ⟨u, List.mem_cons_of_mem _ hu, h5⟩
      · clear h5
        rcases h6 with h6 | ⟨u, hu, h6⟩
        · by_cases c : d ≤ degN n es v
          · exact .inr ⟨v, by simp, by omega⟩
          · exact .inl (by omega)
        · exact .inr ⟨u, List.mem_cons_of_mem _ hu, h6⟩
/-- The bound of a graph. -/
def bndF (n : Nat) (es : List (Int × Int)) : Option Int := match bndGo n es (List.range n) 0 0 with
  | none => none
  | some (D, d) => some (max (((n : Int) - 1 + D - 1) / D) (((d : Int) + 1) / 2))

/-! G3 (Chvatal). -/
theorem adj_far {n : Nat} {o : List Int} (_ho : IsOrd n o) {es : List (Int × Int)} (hg : IsG n es) {a b : Nat} (h : adjB es a b = true) :
    (a < n ∧ b < n ∧ a ≠ b) ∧ max ((posF o).getD a 0 - (posF o).getD b 0) ((posF o).getD b 0 - (posF o).getD a 0) ≤ costB es o := by
  unfold adjB at h
  obtain ⟨e, he, h⟩ := List.any_eq_true.1 h
  have hb : lenF (posF o) e ≤ costB es o := foldl_max_ge.2 e he
  obtain ⟨g1, g2, g3⟩ := hg e he
  simp only [Bool.or_eq_true, Bool.and_eq_true, beq_iff_eq] at h
  unfold lenF at hb
  rcases h with ⟨h1, h2⟩ | ⟨h1, h2⟩
  · rw [h1, h2] at hb g3
    rw [h1] at g1
    rw [h2] at g2
    rw [Int.toNat_natCast, Int.toNat_natCast] at hb
    exact ⟨⟨by omega, by omega, by omega⟩, hb⟩
  · rw [h1, h2] at hb g3
    rw [h1] at g1
    rw [h2] at g2
    rw [Int.toNat_natCast, Int.toNat_natCast] at hb
    exact ⟨⟨by omega, by omega, by omega⟩, by omega⟩
theorem getD_mapR {n : Nat} (f : Nat → Bool) {u : Nat} (h : u < n) : ((List.range n).map f).getD u false = f u := by
  rw [List.getD_eq_getElem?_getD, List.getElem?_map, List.getElem?_range h]; rfl
theorem ball_far {n : Nat} {o : List Int} (ho : IsOrd n o) {es : List (Int × Int)} (hg : IsG n es) {v : Nat} : ∀ (t u : Nat), u < n → (ballF n es v t).getD u false = true →
    (posF o).getD u 0 - (posF o).getD v 0 ≤ t * costB es o ∧ (posF o).getD v 0 - (posF o).getD u 0 ≤ t * costB es o
  | 0, u, hu, h => by
    unfold ballF at h
    rw [getD_mapR _ hu] at h
    have : u = v := by simpa using h
    subst this
    simp
  | t + 1, u, hu, h => by
    unfold ballF at h
    rw [getD_mapR _ hu, Bool.or_eq_true] at h
    have hB : 0 ≤ costB es o := foldl_max_ge.1
    have e : ((t + 1 : Nat) : Int) * costB es o = t * costB es o + costB es o := by rw [Int.natCast_add, Int.add_mul]; simp
    rw [e]
    rcases h with h | h
    · have := ball_far ho hg t u hu h
      omega
    · obtain ⟨a, ha, h⟩ := List.any_eq_true.1 h
      rw [Bool.and_eq_true] at h
      have h1 := ball_far ho hg t a (List.mem_range.1 ha) h.1
      have h2 := (adj_far ho hg h.2).2
      omega
theorem len_le_of_sub : ∀ {o L : List Int}, o.Nodup → (∀ v ∈ o, v ∈ L) → o.length ≤ L.length
  | [], L, _, _ => by simp
  | v :: o, L, hn, hs => by
    obtain ⟨h1, h2⟩ := List.nodup_cons.1 hn
    have hv := hs v (by simp)
    have := len_le_of_sub (o := o) (L := L.erase v) h2 (fun u hu => (List.mem_erase_of_ne (fun e => h1 (by rw [← e]; exact hu))).2 (hs u (List.mem_cons_of_mem _ hu)))
    rw [List.length_erase_of_mem hv] at this
    have := List.length_pos_of_mem hv
    simp; omega
theorem deg_le {n : Nat} {o : List Int} (ho : IsOrd n o) {es : List (Int × Int)} (hg : IsG n es) {v : Nat} (hv : v < n) : (degN n es v : Int) ≤ 2 * costB es o := by
  have hB : 0 ≤ costB es o := foldl_max_ge.1
  obtain ⟨B, hB2⟩ : ∃ B : Nat, costB es o = B := ⟨(costB es o).toNat, by omega⟩
  unfold degN
  have key := len_le_of_sub (o := ((List.range n).filter (adjB es v)).map fun u => (posF o).getD u 0)
    (L := ((List.range B).map fun i : Nat => (posF o).getD v 0 - 1 - i) ++ ((List.range B).map fun i : Nat => (posF o).getD v 0 + 1 + i)) (by
      refine List.pairwise_map.2 (List.Pairwise.imp_of_mem (fun {a b} ha hb hab => ?_) (List.Pairwise.filter _ (List.nodup_range (n := n))))
      intro e
      have ha := List.mem_range.1 (List.mem_filter.1 ha).1
      have hb := List.mem_range.1 (List.mem_filter.1 hb).1
      have := pos_inj ho (u := (a : Int)) (v := (b : Int)) (by omega) (by omega) (by rw [Int.toNat_natCast, Int.toNat_natCast]; exact e)
      omega) (by
      intro p hp
      obtain ⟨u, hu, rfl⟩ := List.mem_map.1 hp
      obtain ⟨hu1, hu2⟩ := List.mem_filter.1 hu
      obtain ⟨⟨_, _, hne⟩, hf⟩ := adj_far ho hg hu2
      rw [hB2] at hf
      have hne2 : (posF o).getD v 0 ≠ (posF o).getD u 0 := fun e => by
        have := pos_inj ho (u := (v : Int)) (v := (u : Int)) (by omega) (by have := List.mem_range.1 hu1; omega) (by rw [Int.toNat_natCast, Int.toNat_natCast]; exact e)
        omega
      rw [List.mem_append, List.mem_map, List.mem_map]
      by_cases c : (posF o).getD u 0 < (posF o).getD v 0
      · exact .inl ⟨((posF o).getD v 0 - 1 - (posF o).getD u 0).toNat, List.mem_range.2 (by omega), by omega⟩
      · exact .inr ⟨((posF o).getD u 0 - (posF o).getD v 0 - 1).toNat, List.mem_range.2 (by omega), by omega⟩)
  simp only [List.length_map, List.length_append, List.length_range] at key
  rw [hB2]
  omega
theorem chvatal {n : Nat} (h2 : 2 ≤ n) {o : List Int} (ho : IsOrd n o) {es : List (Int × Int)} (hg : IsG n es) {b : Int} (h : bndF n es = some b) : 1 ≤ b ∧ b ≤ costB es o := by
  unfold bndF at h
  cases hb : bndGo n es (List.range n) 0 0 with
  | none => rw [hb] at h; cases h
  | some x =>
    obtain ⟨D, d⟩ := x
    rw [hb] at h
    have h : max (((n : Int) - 1 + D - 1) / D) (((d : Int) + 1) / 2) = b := by simpa using h
    obtain ⟨_, _, g3, g4, g5, g6⟩ := bnd_spec hb
    have hB : 0 ≤ costB es o := foldl_max_ge.1
    obtain ⟨t0, ht0, ht0D⟩ := g3 0 (List.mem_range.2 (by omega))
    have hD : 1 ≤ D := by have := ecc_pos h2 ht0; omega
    have hlo : (1 : Int) ≤ ((n : Int) - 1 + D - 1) / D := by
      rw [Int.le_ediv_iff_mul_le (by omega)]; omega
    have hd : ((d : Int) + 1) / 2 ≤ costB es o := by
      have : (d : Int) ≤ 2 * costB es o := by
        rcases g6 with h0 | ⟨v, hv, hv2⟩
        · omega
        · rw [← hv2]; exact deg_le ho hg (List.mem_range.1 hv)
      omega
    have hdi : ((n : Int) - 1 + D - 1) / D ≤ costB es o := by
      obtain ⟨v, hv⟩ : ∃ v : Nat, o.getD 0 0 = v := ⟨(o.getD 0 0).toNat, by have := ord_at ho (p := 0) (by omega); omega⟩
      obtain ⟨u, hu⟩ : ∃ v : Nat, o.getD (n - 1) 0 = v := ⟨(o.getD (n - 1) 0).toNat, by have := ord_at ho (p := n - 1) (by omega); omega⟩
      have hvn := ord_at ho (p := 0) (by omega)
      have hun := ord_at ho (p := n - 1) (by omega)
      have hp0 := pos_at ho (p := 0) (by omega)
      have hp1 := pos_at ho (p := n - 1) (by omega)
      rw [hv] at hp0 hvn
      rw [hu] at hp1 hun
      rw [Int.toNat_natCast] at hp0 hp1
      obtain ⟨t, ht, htD⟩ := g3 v (List.mem_range.2 (by omega))
      obtain ⟨_, _, hfull⟩ := ecc_pos h2 ht
      have hul : u < (ballF n es v t).length := by rw [ball_len]; omega
      have hmem : (ballF n es v t).getD u false = true := by
        rw [List.getD_eq_getElem?_getD, List.getElem?_eq_getElem hul]
        unfold fullB at hfull
        rw [Bool.not_eq_true', List.any_eq_false] at hfull
        have := hfull _ (List.getElem_mem hul)
        simpa using this
      have hf := (ball_far ho hg t u (by omega) hmem).1
      rw [hp0, hp1] at hf
      have hm : (t : Int) * costB es o ≤ D * costB es o := Int.mul_le_mul_of_nonneg_right (by omega) hB
      have hlt : ((n : Int) - 1 + D - 1) / D < costB es o + 1 := by
        rw [Int.ediv_lt_iff_lt_mul (by omega), Int.add_mul, Int.mul_comm]
        omega
      omega
    clear g5 g6
    omega
end Go.Proofs.Ytlidnhmagleehaa
