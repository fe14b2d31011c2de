/- What is proved: plain facts on orders, positions and measures of a layout. No condition beyond those in each statement. -/
import Derived.Test.YthnhmfmlhlpggaaPa
namespace Go.Proofs.Ythnhmfmlhlpggaa

def idn (n : Nat) : List Int := (List.range n).map fun i : Nat => (i : Int)
theorem idn_len (n : Nat) : (idn n).length = n := by simp [idn]
theorem idn_nodup (n : Nat) : (idn n).Nodup := by
  unfold idn
  refine List.pairwise_map.2 ((List.nodup_range (n := n)).imp fun {a b} h => ?_)
  exact fun e => h (by omega)
theorem idn_up (n : Nat) : Up (idn n) := by
  unfold Up idn
  refine List.pairwise_map.2 ((List.pairwise_lt_range (n := n)).imp fun {a b} h => ?_)
  omega
theorem mem_idn {n : Nat} {v : Int} : v ∈ idn n ↔ 0 ≤ v ∧ v < n := by
  unfold idn
  rw [List.mem_map]
  constructor
  · rintro ⟨i, hi, rfl⟩
    have := List.mem_range.1 hi
    omega
  · rintro ⟨h1, h2⟩
    exact ⟨v.toNat, List.mem_range.2 (by omega), by omega⟩
theorem perm_of_sub : ∀ {o L : List Int}, o.Nodup → (∀ v ∈ o, v ∈ L) → o.length = L.length → o.Perm L
  | [], L, _, _, hl => by
    have : L = [] := List.eq_nil_of_length_eq_zero hl.symm
    subst this; exact .nil
  | v :: o, L, hn, hs, hl => by
    obtain ⟨h1, h2⟩ := List.nodup_cons.1 hn
    have hv := hs v (by simp)
    have := perm_of_sub (o := o) (L := L.erase v) h2 (fun u hu => (List.mem_erase_of_ne (fun e => h1 (by rw [← e]; exact hu))).2 (hs u (List.mem_cons_of_mem _ hu))) (by rw [List.length_erase_of_mem hv]; simp at hl; omega)
    exact (List.Perm.cons v this).trans (List.perm_cons_erase hv).symm
/-- An order of n vertices. -/
def IsOrd (n : Nat) (o : List Int) : Prop := o.Perm (idn n)
theorem IsOrd.len {n : Nat} {o : List Int} (h : IsOrd n o) : o.length = n := by rw [List.Perm.length_eq h, idn_len]
theorem IsOrd.nodup {n : Nat} {o : List Int} (h : IsOrd n o) : o.Nodup := (List.Perm.nodup_iff h).2 (idn_nodup n)
theorem IsOrd.mem {n : Nat} {o : List Int} (h : IsOrd n o) {v : Int} : v ∈ o ↔ 0 ≤ v ∧ v < n := by rw [List.Perm.mem_iff h]; exact mem_idn
theorem isOrd_iff {n : Nat} {o : List Int} : IsOrd n o ↔ o.length = n ∧ o.Nodup ∧ ∀ v ∈ o, 0 ≤ v ∧ v < n :=
  ⟨fun h => ⟨h.len, h.nodup, fun _ hv => h.mem.1 hv⟩, fun h => perm_of_sub h.2.1 (fun v hv => mem_idn.2 (h.2.2 v hv)) (by rw [idn_len]; exact h.1)⟩
theorem mem_lexn {n : Nat} {o : List Int} : o ∈ lexF n (idn n) ↔ IsOrd n o := mem_lex n (idn n) o (idn_len n)

/-- The positions of the vertices. -/
def posF (o : List Int) : List Int := (List.range o.length).map fun v : Nat => ((o.idxOf (v : Int) : Nat) : Int)
theorem posF_len (o : List Int) : (posF o).length = o.length := by simp [posF]
theorem posF_at {o : List Int} {v : Nat} (h : v < o.length) : (posF o).getD v 0 = (o.idxOf (v : Int) : Nat) := by
  unfold posF
  rw [List.getD_eq_getElem?_getD, List.getElem?_map, List.getElem?_range h]; rfl
theorem pos_of {n : Nat} {o : List Int} (h : IsOrd n o) {v : Int} (hv : 0 ≤ v ∧ v < n) : ∃ p : Nat, p < n ∧ o.getD p 0 = v ∧ (posF o).getD v.toNat 0 = p := by
  have hm := h.mem.2 hv
  refine ⟨o.idxOf v, by rw [← h.len]; exact List.idxOf_lt_length_of_mem hm, ?_, ?_⟩
  · rw [List.getD_eq_getElem?_getD, List.getElem?_eq_getElem (List.idxOf_lt_length_of_mem hm)]
    simp
  · rw [posF_at (by rw [h.len]; omega), show ((v.toNat : Nat) : Int) = v by omega]
theorem idx_at {n : Nat} {o : List Int} (h : IsOrd n o) {p : Nat} (hp : p < n) : o.idxOf (o.getD p 0) = p := by
  have hp' : p < o.length := by rw [h.len]; exact hp
  rw [List.getD_eq_getElem?_getD, List.getElem?_eq_getElem hp']
  exact List.Nodup.idxOf_getElem h.nodup p hp'
theorem ord_at {n : Nat} {o : List Int} (h : IsOrd n o) {p : Nat} (hp : p < n) : 0 ≤ o.getD p 0 ∧ o.getD p 0 < n := by
  have hp' : p < o.length := by rw [h.len]; exact hp
  rw [List.getD_eq_getElem?_getD, List.getElem?_eq_getElem hp']
  exact h.mem.1 (List.getElem_mem hp')
theorem pos_at {n : Nat} {o : List Int} (h : IsOrd n o) {p : Nat} (hp : p < n) : (posF o).getD (o.getD p 0).toNat 0 = p := by
  have := ord_at h hp
  rw [posF_at (by rw [h.len]; omega), show (((o.getD p 0).toNat : Nat) : Int) = o.getD p 0 by omega, idx_at h hp]
theorem pos_inj {n : Nat} {o : List Int} (h : IsOrd n o) {u v : Int} (hu : 0 ≤ u ∧ u < n) (hv : 0 ≤ v ∧ v < n) (e : (posF o).getD u.toNat 0 = (posF o).getD v.toNat 0) : u = v := by
  obtain ⟨p, _, h1, h2⟩ := pos_of h hu
  obtain ⟨q, _, h3, h4⟩ := pos_of h hv
  rw [h2, h4] at e
  have : p = q := by omega
  rw [← h1, ← h3, this]
theorem pos_range {n : Nat} {o : List Int} (h : IsOrd n o) {v : Int} (hv : 0 ≤ v ∧ v < n) : 0 ≤ (posF o).getD v.toNat 0 ∧ (posF o).getD v.toNat 0 < n := by
  obtain ⟨p, hp, _, h2⟩ := pos_of h hv
  rw [h2]; omega
theorem posF_mem {n : Nat} {o : List Int} (h : IsOrd n o) : ∀ q ∈ posF o, 0 ≤ q ∧ q < n := by
  intro q hq
  unfold posF at hq
  obtain ⟨v, hv, rfl⟩ := List.mem_map.1 hq
  have hv := List.mem_range.1 hv
  rw [h.len] at hv
  have hm : (v : Int) ∈ o := h.mem.2 (by omega)
  have := List.idxOf_lt_length_of_mem hm
  rw [h.len] at this
  omega

/-! Reading an order as the program does. -/
def placesGo (n : Int) : List Int → Nat → List Int → Option (List Int)
  | [], _, out => some out
  | v :: l, p, out => if v < 0 ∨ n ≤ v ∨ 0 ≤ out.getD v.toNat 0 then none else placesGo n l (p + 1) (out.set v.toNat (p : Int))
def placesF (n : Int) (o : List Int) : Option (List Int) := if (o.length : Int) = n then placesGo n o 0 (List.replicate o.length (-1)) else none
def stF (n : Nat) (q : List Int) : List Int := (List.range n).map fun v : Nat => if (v : Int) ∈ q then ((q.idxOf (v : Int) : Nat) : Int) else -1
theorem stF_nil (n : Nat) : stF n [] = List.replicate n (-1) := by
  unfold stF
  rw [List.eq_replicate_iff]
  simp
theorem stF_at {n v : Nat} {q : List Int} (h : v < n) : (stF n q).getD v 0 = if (v : Int) ∈ q then ((q.idxOf (v : Int) : Nat) : Int) else -1 := by
  unfold stF
  rw [List.getD_eq_getElem?_getD, List.getElem?_map, List.getElem?_range h]; rfl
theorem stF_get {n i : Nat} {q : List Int} (_h : i < (stF n q).length) : (stF n q)[i] = if (i : Int) ∈ q then ((q.idxOf (i : Int) : Nat) : Int) else -1 := by simp [stF]
theorem stF_snoc {n v : Nat} {q : List Int} (_h : v < n) (hv : (v : Int) ∉ q) : (stF n q).set v (q.length : Int) = stF n (q ++ [(v : Int)]) := by
  apply List.ext_getElem
  · simp [stF]
  · intro i h1 h2
    have hi : i < n := by simpa [stF] using h2
    rw [List.getElem_set, stF_get, stF_get]
    by_cases e : v = i
    · subst e
      rw [if_pos rfl, if_pos (by simp), List.idxOf_append, if_neg hv]
      simp
    · rw [if_neg e]
      have e2 : (i : Int) ≠ (v : Int) := by omega
      by_cases hm : (i : Int) ∈ q
      · rw [if_pos hm, if_pos (by simp [hm]), List.idxOf_append, if_pos hm]
      · rw [if_neg hm, if_neg (by simp [hm, e2])]
theorem placesGo_iff {n : Nat} : ∀ {l q : List Int}, q.Nodup → (∀ v ∈ q, 0 ≤ v ∧ v < n) →
    ((q ++ l).Nodup ∧ (∀ v ∈ q ++ l, 0 ≤ v ∧ v < n) → placesGo n l q.length (stF n q) = some (stF n (q ++ l))) ∧
    (¬ ((q ++ l).Nodup ∧ ∀ v ∈ q ++ l, 0 ≤ v ∧ v < n) → placesGo n l q.length (stF n q) = none)
  | [], q, h1, h2 => by
    rw [List.append_nil]
    exact ⟨fun _ => rfl, fun h => absurd ⟨h1, h2⟩ h⟩
  | v :: l, q, h1, h2 => by
    by_cases hv : (0 ≤ v ∧ v < n) ∧ v ∉ q
    · obtain ⟨⟨a, b⟩, c⟩ := hv
      obtain ⟨u, rfl⟩ : ∃ u : Nat, v = u := ⟨v.toNat, by omega⟩
      have hq : (q ++ [(u : Int)]).Nodup := List.nodup_append.2 ⟨h1, by simp, fun x hx y hy => by simp at hy; subst hy; rintro rfl; exact c hx⟩
      have hr : ∀ x ∈ q ++ [(u : Int)], 0 ≤ x ∧ x < n := by
        intro x hx
        rcases List.mem_append.1 hx with hx | hx
        · exact h2 x hx
        · simp at hx; omega
      have := placesGo_iff (n := n) (l := l) hq hr
      rw [List.append_assoc, List.singleton_append] at this
      have e : placesGo n ((u : Int) :: l) q.length (stF n q) = placesGo n l (q ++ [(u : Int)]).length (stF n (q ++ [(u : Int)])) := by
        show (if _ then none else _) = _
        rw [if_neg, Int.toNat_natCast, stF_snoc (by omega) c, List.length_append]; rfl
        rw [Int.toNat_natCast, stF_at (by omega), if_neg c]; omega
      rw [e]; exact this
    · refine ⟨fun h => ?_, fun _ => ?_⟩
      · exfalso
        apply hv
        refine ⟨h.2 v (by simp), fun hq => ?_⟩
        have := (List.nodup_append.1 h.1).2.2 v hq v (by simp)
        exact this rfl
      · show (if _ then none else _) = _
        rw [if_pos]
        by_cases a : 0 ≤ v
        · by_cases b : v < n
          · right; right
            have hq : v ∈ q := by
              by_cases c : v ∈ q
              · exact c
              · exact absurd ⟨⟨a, b⟩, c⟩ hv
            rw [stF_at (by omega), show ((v.toNat : Nat) : Int) = v by omega, if_pos hq]; omega
          · right; left; omega
        · left; omega
theorem places_ok {n : Nat} {o : List Int} (h : IsOrd n o) : placesF n o = some (posF o) := by
  unfold placesF
  rw [if_pos (by rw [h.len])]
  have := (placesGo_iff (n := n) (l := o) (q := []) (by simp) (by simp)).1 ⟨h.nodup, fun v hv => h.mem.1 hv⟩
  rw [stF_nil] at this
  rw [h.len]
  refine this.trans ?_
  congr 1
  unfold stF posF
  rw [h.len]
  refine List.map_congr_left fun v hv => ?_
  have hv := List.mem_range.1 hv
  rw [List.nil_append, if_pos (h.mem.2 (by omega))]
theorem places_no {n : Nat} {o : List Int} (h : ¬ IsOrd n o) : placesF n o = none := by
  unfold placesF
  by_cases hl : (o.length : Int) = n
  · rw [if_pos hl, show o.length = n by omega]
    have := (placesGo_iff (n := n) (l := o) (q := []) (by simp) (by simp)).2 (fun g => h (isOrd_iff.2 ⟨by omega, g⟩))
    rw [stF_nil] at this
    exact this
  · rw [if_neg hl]

/-! The measures. -/
def lenF (pl : List Int) (e : Int × Int) : Int := max (pl.getD e.1.toNat 0 - pl.getD e.2.toNat 0) (pl.getD e.2.toNat 0 - pl.getD e.1.toNat 0)
def bandF (pl : List Int) (es : List (Int × Int)) : Int := es.foldl (fun m e => max m (lenF pl e)) 0
def totalF (pl : List Int) (es : List (Int × Int)) : Int := es.foldl (fun s e => s + lenF pl e) 0
def overB (pl : List Int) (p : Nat) (e : Int × Int) : Bool := decide (min (pl.getD e.1.toNat 0) (pl.getD e.2.toNat 0) ≤ p) && decide ((p : Int) < max (pl.getD e.1.toNat 0) (pl.getD e.2.toNat 0))
def cutsF (pl : List Int) (es : List (Int × Int)) : List Int := (List.range (pl.length - 1)).map fun p => ((es.filter (overB pl p)).length : Int)
def mostF (l : List Int) : Int := l.foldl max 0
def cutF (pl : List Int) (es : List (Int × Int)) : Int := mostF (cutsF pl es)

def IsG (n : Nat) (es : List (Int × Int)) : Prop := ∀ e ∈ es, (0 ≤ e.1 ∧ e.1 < n) ∧ (0 ≤ e.2 ∧ e.2 < n) ∧ e.1 ≠ e.2

theorem foldl_max_le {α : Type} {f : α → Int} {B : Int} : ∀ {l : List α} {a : Int}, (l.foldl (fun m e => max m (f e)) a ≤ B ↔ a ≤ B ∧ ∀ e ∈ l, f e ≤ B)
  | [], a => by simp
  | x :: l, a => by
    rw [List.foldl_cons, foldl_max_le]
    constructor
    · rintro ⟨h1, h2⟩
      refine ⟨by omega, fun e he => ?_⟩
      rcases List.mem_cons.1 he with rfl | he
      · omega
      · exact h2 e he
    · rintro ⟨h1, h2⟩
      have := h2 x (by simp)
      exact ⟨by omega, fun e he => h2 e (List.mem_cons_of_mem _ he)⟩
theorem foldl_max_ge {α : Type} {f : α → Int} {l : List α} {a : Int} : a ≤ l.foldl (fun m e => max m (f e)) a ∧ ∀ e ∈ l, f e ≤ l.foldl (fun m e => max m (f e)) a := foldl_max_le.1 (Int.le_refl _)
theorem foldl_max_mem {α : Type} {f : α → Int} : ∀ {l : List α} {a : Int}, l.foldl (fun m e => max m (f e)) a = a ∨ ∃ e ∈ l, l.foldl (fun m e => max m (f e)) a = f e
  | [], a => .inl rfl
  | x :: l, a => by
    rw [List.foldl_cons]
    rcases foldl_max_mem (f := f) (l := l) (a := max a (f x)) with h | ⟨e, he, h⟩
    · rw [h]
      by_cases hc : f x ≤ a
      · exact .inl (by omega)
      · exact .inr ⟨x, by simp, by omega⟩
    · exact .inr ⟨e, List.mem_cons_of_mem _ he, h⟩
theorem foldl_add {α : Type} {f : α → Int} : ∀ {l : List α} {a : Int}, l.foldl (fun s e => s + f e) a = a + (l.map f).sum
  | [], a => by simp
  | x :: l, a => by rw [List.foldl_cons, foldl_add, List.map_cons, List.sum_cons]; omega
theorem total_eq (pl : List Int) (es : List (Int × Int)) : totalF pl es = (es.map (lenF pl)).sum := by unfold totalF; rw [foldl_add]; omega
theorem mostF_eq (l : List Int) : mostF l = l.foldl (fun m e => max m e) 0 := rfl

/-! G2: the sum of the cuts is the sum of the lengths. -/
theorem sum_map_add {α : Type} {f g : α → Int} : ∀ {l : List α}, (l.map fun x => f x + g x).sum = (l.map f).sum + (l.map g).sum
  | [] => rfl
  | x :: l => by simp only [List.map_cons, List.sum_cons]; rw [sum_map_add]; omega
theorem sum_map_zero {α : Type} : ∀ {l : List α}, (l.map fun _ => (0 : Int)).sum = 0
  | [] => rfl
  | x :: l => by simp only [List.map_cons, List.sum_cons]; rw [sum_map_zero]; rfl
theorem sum_between (a b : Nat) : ∀ n : Nat, b ≤ n → a ≤ b → ((List.range n).map fun p : Nat => if a ≤ p ∧ p < b then (1 : Int) else 0).sum = b - a := by
  have key : ∀ n : Nat, ((List.range n).map fun p : Nat => if a ≤ p ∧ p < b then (1 : Int) else 0).sum = ((min b n - min a n : Nat) : Int) ∨ b < a := by
    intro n
    induction n with
    | zero => left; simp
    | succ n ih =>
      rcases ih with ih | ih
      · by_cases hab : b < a
        · exact .inr hab
        · left
          rw [List.range_succ, List.map_append, List.sum_append, ih]
          simp only [List.map_cons, List.map_nil, List.sum_cons, List.sum_nil]
          by_cases h : a ≤ n ∧ n < b
          · rw [if_pos h]; omega
          · rw [if_neg h]; omega
      · exact .inr ih
  intro n hb ha
  rcases key n with h | h
  · rw [h]; omega
  · omega
theorem filter_len_sum {α : Type} (q : α → Bool) : ∀ l : List α, ((l.filter q).length : Int) = (l.map fun x => if q x then (1 : Int) else 0).sum
  | [] => rfl
  | x :: l => by
    rw [List.map_cons, List.sum_cons, ← filter_len_sum q l, List.filter_cons]
    cases q x <;> simp <;> omega
theorem over_sum {n : Nat} {pl : List Int} {e : Int × Int} (h1 : 0 ≤ pl.getD e.1.toNat 0 ∧ pl.getD e.1.toNat 0 < n) (h2 : 0 ≤ pl.getD e.2.toNat 0 ∧ pl.getD e.2.toNat 0 < n) :
    ((List.range (n - 1)).map fun p => if overB pl p e then (1 : Int) else 0).sum = lenF pl e := by
  have := sum_between (min (pl.getD e.1.toNat 0) (pl.getD e.2.toNat 0)).toNat (max (pl.getD e.1.toNat 0) (pl.getD e.2.toNat 0)).toNat (n - 1) (by omega) (by omega)
  unfold lenF
  rw [show max (pl.getD e.1.toNat 0 - pl.getD e.2.toNat 0) (pl.getD e.2.toNat 0 - pl.getD e.1.toNat 0) = ((max (pl.getD e.1.toNat 0) (pl.getD e.2.toNat 0)).toNat : Int) - (min (pl.getD e.1.toNat 0) (pl.getD e.2.toNat 0)).toNat by omega, ← this]
  congr 1
  refine List.map_congr_left fun p _ => ?_
  by_cases h : (min (pl.getD e.1.toNat 0) (pl.getD e.2.toNat 0)).toNat ≤ p ∧ p < (max (pl.getD e.1.toNat 0) (pl.getD e.2.toNat 0)).toNat
  · rw [if_pos h, if_pos]
    unfold overB
    simp only [Bool.and_eq_true, decide_eq_true_eq]
    omega
  · rw [if_neg h, if_neg]
    unfold overB
    simp only [Bool.and_eq_true, decide_eq_true_eq]
    omega
theorem cuts_sum {n : Nat} {o : List Int} (h : IsOrd n o) : ∀ {es : List (Int × Int)}, IsG n es → (cutsF (posF o) es).sum = totalF (posF o) es
  | [], _ => by
    unfold cutsF totalF
    simp only [List.filter_nil, List.length_nil]
    exact sum_map_zero
  | e :: es, hg => by
    have hg' : IsG n es := fun x hx => hg x (List.mem_cons_of_mem _ hx)
    have ih := cuts_sum h hg'
    have he := hg e (by simp)
    rw [total_eq] at ih ⊢
    rw [List.map_cons, List.sum_cons, ← ih]
    rw [← over_sum (n := n) (pos_range h he.1) (pos_range h he.2.1)]
    unfold cutsF
    rw [posF_len, h.len, ← sum_map_add]
    congr 1
    refine List.map_congr_left fun p _ => ?_
    rw [List.filter_cons]
    cases overB (posF o) p e <;> simp <;> omega
end Go.Proofs.Ythnhmfmlhlpggaa
