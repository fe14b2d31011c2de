/- What is proved: plain laws of the least measures (G1, G2, G4 to G8). No condition beyond those in each statement. -/
import Derived.Test.YthnhmfmlhlpggaaPb
namespace Go.Proofs.Ythnhmfmlhlpggaa

def leastF (cost : List Int → Int) (n : Nat) : Option (Int × List Int) := pick cost none (lexF n (idn n))
theorem lexn_ne (n : Nat) : lexF n (idn n) ≠ [] := List.ne_nil_of_mem (mem_lexn.2 (List.Perm.refl (idn n)))
theorem least_spec (cost : List Int → Int) (n : Nat) : ∃ b p, leastF cost n = some (b, p) ∧ IsOrd n p ∧ b = cost p ∧ ∀ o, IsOrd n o → b ≤ cost o := by
  obtain ⟨b, p, h1, h2, h3, h4⟩ := pick_none (cost := cost) (lexn_ne n)
  exact ⟨b, p, h1, mem_lexn.1 h2, h3, fun o ho => h4 o (mem_lexn.2 ho)⟩
def costB (es : List (Int × Int)) (o : List Int) : Int := bandF (posF o) es
def costC (es : List (Int × Int)) (o : List Int) : Int := cutF (posF o) es
def costS (es : List (Int × Int)) (o : List Int) : Int := totalF (posF o) es

theorem len_bd {n : Nat} {o : List Int} (h : IsOrd n o) {e : Int × Int} (he : (0 ≤ e.1 ∧ e.1 < n) ∧ (0 ≤ e.2 ∧ e.2 < n) ∧ e.1 ≠ e.2) : 1 ≤ lenF (posF o) e ∧ lenF (posF o) e ≤ n - 1 := by
  have h1 := pos_range h he.1
  have h2 := pos_range h he.2.1
  have h3 : (posF o).getD e.1.toNat 0 ≠ (posF o).getD e.2.toNat 0 := fun e' => he.2.2 (pos_inj h he.1 he.2.1 e')
  unfold lenF
  omega
theorem band_bd {n : Nat} (hn : 1 ≤ n) {o : List Int} (h : IsOrd n o) {es : List (Int × Int)} (hg : IsG n es) : 0 ≤ costB es o ∧ costB es o ≤ n - 1 := by
  unfold costB bandF
  exact ⟨foldl_max_ge.1, foldl_max_le.2 ⟨by omega, fun e he => (len_bd h (hg e he)).2⟩⟩
theorem mostF_le {l : List Int} {B : Int} : mostF l ≤ B ↔ 0 ≤ B ∧ ∀ x ∈ l, x ≤ B := foldl_max_le (f := fun x : Int => x)
theorem mostF_ge {l : List Int} : 0 ≤ mostF l ∧ ∀ x ∈ l, x ≤ mostF l := mostF_le.1 (Int.le_refl _)
theorem cut_bd {o : List Int} {es : List (Int × Int)} : 0 ≤ costC es o ∧ costC es o ≤ es.length := by
  unfold costC cutF
  refine ⟨mostF_ge.1, mostF_le.2 ⟨by omega, fun x hx => ?_⟩⟩
  unfold cutsF at hx
  obtain ⟨p, _, rfl⟩ := List.mem_map.1 hx
  have := List.length_filter_le (overB (posF o) p) es
  omega
theorem sum_le {B : Int} : ∀ {l : List Int}, (∀ x ∈ l, x ≤ B) → l.sum ≤ l.length * B
  | [], _ => by simp
  | x :: l, h => by
    have h1 := h x (by simp)
    have h2 := sum_le (l := l) (fun y hy => h y (List.mem_cons_of_mem _ hy))
    rw [List.sum_cons, List.length_cons, Int.natCast_add, Int.add_mul]
    omega
theorem sum_ge {B : Int} : ∀ {l : List Int}, (∀ x ∈ l, B ≤ x) → l.length * B ≤ l.sum
  | [], _ => by simp
  | x :: l, h => by
    have h1 := h x (by simp)
    have h2 := sum_ge (l := l) (fun y hy => h y (List.mem_cons_of_mem _ hy))
    rw [List.sum_cons, List.length_cons, Int.natCast_add, Int.add_mul]
    omega
theorem total_bd {n : Nat} (hn : 1 ≤ n) {o : List Int} (h : IsOrd n o) {es : List (Int × Int)} (hg : IsG n es) : es.length ≤ costS es o ∧ costS es o ≤ (n - 1) * costC es o := by
  constructor
  · unfold costS
    rw [total_eq]
    have := sum_ge (B := 1) (l := es.map (lenF (posF o))) (fun x hx => by
      obtain ⟨e, he, rfl⟩ := List.mem_map.1 hx
      exact (len_bd h (hg e he)).1)
    simpa using this
  · unfold costS
    rw [← cuts_sum h hg]
    have := sum_le (B := costC es o) (l := cutsF (posF o) es) (fun x hx => mostF_ge.2 x hx)
    have hl : (cutsF (posF o) es).length = n - 1 := by unfold cutsF; rw [List.length_map, List.length_range, posF_len, h.len]
    rw [hl] at this
    rw [show ((n : Int) - 1) = ((n - 1 : Nat) : Int) by omega]
    exact this

/-- G4. -/
theorem between_law {n : Nat} (hn : 1 ≤ n) {es : List (Int × Int)} (hg : IsG n es) {b1 b2 b3 : Int} {p1 p2 p3 : List Int}
    (h1 : leastF (costB es) n = some (b1, p1)) (h2 : leastF (costC es) n = some (b2, p2)) (h3 : leastF (costS es) n = some (b3, p3)) :
    (0 ≤ b1 ∧ b1 ≤ n - 1) ∧ (0 ≤ b2 ∧ b2 ≤ es.length) ∧ b3 ≤ (n - 1) * b2 ∧ es.length ≤ b3 := by
  obtain ⟨_, _, e1, o1, c1, _⟩ := least_spec (costB es) n
  obtain ⟨_, _, e2, o2, c2, _⟩ := least_spec (costC es) n
  obtain ⟨_, _, e3, o3, c3, m3⟩ := least_spec (costS es) n
  rw [h1] at e1; rw [h2] at e2; rw [h3] at e3
  cases e1; cases e2; cases e3
  subst c1 c2 c3
  refine ⟨band_bd hn o1 hg, cut_bd, ?_, (total_bd hn o3 hg).1⟩
  exact Int.le_trans (m3 p2 o2) (total_bd hn o2 hg).2
theorem least_mono {c1 c2 : List Int → Int} {n : Nat} {d : Int} (h : ∀ o, IsOrd n o → c1 o + d ≤ c2 o) {b1 b2 : Int} {p1 p2 : List Int} (h1 : leastF c1 n = some (b1, p1)) (h2 : leastF c2 n = some (b2, p2)) : b1 + d ≤ b2 := by
  obtain ⟨_, _, e1, o1, e, m1⟩ := least_spec c1 n
  obtain ⟨_, _, e2, o2, e', m2⟩ := least_spec c2 n
  rw [h1] at e1; rw [h2] at e2
  cases e1; cases e2
  have := h p2 o2
  have := m1 p2 o2
  omega
theorem band_snoc (pl : List Int) (es : List (Int × Int)) (e : Int × Int) : bandF pl (es ++ [e]) = max (bandF pl es) (lenF pl e) := by unfold bandF; rw [List.foldl_append]; rfl
theorem total_snoc (pl : List Int) (es : List (Int × Int)) (e : Int × Int) : totalF pl (es ++ [e]) = totalF pl es + lenF pl e := by unfold totalF; rw [List.foldl_append]; rfl
theorem cut_le_of {pl : List Int} {es fs : List (Int × Int)} (h : ∀ p, (es.filter (overB pl p)).length ≤ (fs.filter (overB pl p)).length) : cutF pl es ≤ cutF pl fs := by
  unfold cutF
  refine mostF_le.2 ⟨mostF_ge.1, fun x hx => ?_⟩
  obtain ⟨p, hp, rfl⟩ := List.mem_map.1 hx
  have h1 := mostF_ge (l := cutsF pl fs).2 ((fs.filter (overB pl p)).length : Int) (List.mem_map.2 ⟨p, hp, rfl⟩)
  have := h p
  omega
/-- G6. -/
theorem more_law {n : Nat} {es : List (Int × Int)} {e : Int × Int} (hg : IsG n (es ++ [e])) {b1 b2 b3 d1 d2 d3 : Int} {p1 p2 p3 q1 q2 q3 : List Int}
    (h1 : leastF (costB es) n = some (b1, p1)) (h2 : leastF (costC es) n = some (b2, p2)) (h3 : leastF (costS es) n = some (b3, p3))
    (g1 : leastF (costB (es ++ [e])) n = some (d1, q1)) (g2 : leastF (costC (es ++ [e])) n = some (d2, q2)) (g3 : leastF (costS (es ++ [e])) n = some (d3, q3)) : b1 ≤ d1 ∧ b2 ≤ d2 ∧ b3 < d3 := by
  refine ⟨?_, ?_, ?_⟩
  · have := least_mono (d := 0) (fun o _ => by unfold costB; rw [band_snoc]; omega) h1 g1
    omega
  · have := least_mono (d := 0) (fun o _ => by
      have := cut_le_of (pl := posF o) (es := es) (fs := es ++ [e]) (fun p => by rw [List.filter_append, List.length_append]; omega)
      unfold costC; omega) h2 g2
    omega
  · have := least_mono (d := 1) (fun o ho => by
      have := (len_bd ho (hg e (by simp))).1
      unfold costS; rw [total_snoc]; omega) h3 g3
    omega

/-! G7. -/
theorem rev_ord {n : Nat} {o : List Int} (h : IsOrd n o) : IsOrd n o.reverse := (List.reverse_perm o).trans h
theorem rev_at {o : List Int} {p : Nat} (h : p < o.length) : o.reverse.getD p 0 = o.getD (o.length - 1 - p) 0 := by
  rw [List.getD_eq_getElem?_getD, List.getD_eq_getElem?_getD, List.getElem?_reverse h]
theorem pos_rev {n : Nat} {o : List Int} (h : IsOrd n o) {v : Int} (hv : 0 ≤ v ∧ v < n) : (posF o.reverse).getD v.toNat 0 = n - 1 - (posF o).getD v.toNat 0 := by
  obtain ⟨p, hp, h1, h2⟩ := pos_of h hv
  rw [h2]
  have h3 : o.reverse.getD (n - 1 - p) 0 = v := by
    rw [rev_at (by rw [h.len]; omega), h.len, show n - 1 - (n - 1 - p) = p by omega, h1]
  have := pos_at (rev_ord h) (p := n - 1 - p) (by omega)
  rw [h3] at this
  rw [this]; omega
theorem len_rev {n : Nat} {o : List Int} (h : IsOrd n o) {e : Int × Int} (he : (0 ≤ e.1 ∧ e.1 < n) ∧ (0 ≤ e.2 ∧ e.2 < n) ∧ e.1 ≠ e.2) : lenF (posF o.reverse) e = lenF (posF o) e := by
  unfold lenF
  rw [pos_rev h he.1, pos_rev h he.2.1]
  omega
theorem band_congr {pl pm : List Int} {es : List (Int × Int)} (h : ∀ e ∈ es, lenF pl e = lenF pm e) : bandF pl es = bandF pm es := by
  have h1 : bandF pl es ≤ bandF pm es := foldl_max_le.2 ⟨foldl_max_ge.1, fun e he => by rw [h e he]; exact foldl_max_ge.2 e he⟩
  have h2 : bandF pm es ≤ bandF pl es := foldl_max_le.2 ⟨foldl_max_ge.1, fun e he => by rw [← h e he]; exact foldl_max_ge.2 e he⟩
  omega
theorem band_rev {n : Nat} {o : List Int} (h : IsOrd n o) {es : List (Int × Int)} (hg : IsG n es) : bandF (posF o.reverse) es = bandF (posF o) es := band_congr fun e he => len_rev h (hg e he)
theorem total_rev {n : Nat} {o : List Int} (h : IsOrd n o) {es : List (Int × Int)} (hg : IsG n es) : totalF (posF o.reverse) es = totalF (posF o) es := by
  rw [total_eq, total_eq]
  congr 1
  exact List.map_congr_left fun e he => len_rev h (hg e he)
theorem over_rev {n : Nat} {o : List Int} (h : IsOrd n o) {e : Int × Int} (he : (0 ≤ e.1 ∧ e.1 < n) ∧ (0 ≤ e.2 ∧ e.2 < n) ∧ e.1 ≠ e.2) {p : Nat} (hp : p + 1 < n) : overB (posF o.reverse) p e = overB (posF o) (n - 2 - p) e := by
  unfold overB
  rw [pos_rev h he.1, pos_rev h he.2.1]
  have h1 := pos_range h he.1
  have h2 := pos_range h he.2.1
  rw [Bool.and_comm]
  congr 1
  · exact decide_eq_decide.2 (by omega)
  · exact decide_eq_decide.2 (by omega)
theorem cuts_rev {n : Nat} {o : List Int} (h : IsOrd n o) {es : List (Int × Int)} (hg : IsG n es) : cutsF (posF o.reverse) es = (cutsF (posF o) es).reverse := by
  unfold cutsF
  rw [posF_len, posF_len, List.length_reverse, h.len, ← List.map_reverse]
  apply List.ext_getElem
  · simp
  · intro i h1 h2
    have hi : i < n - 1 := by simpa using h1
    simp only [List.getElem_map, List.getElem_range, List.getElem_reverse, List.length_range]
    rw [show n - 1 - 1 - i = n - 2 - i by omega]
    congr 2
    exact List.filter_congr fun e he => over_rev h (hg e he) (by omega)
theorem most_reverse (l : List Int) : mostF l.reverse = mostF l := by
  have h1 : mostF l.reverse ≤ mostF l := mostF_le.2 ⟨mostF_ge.1, fun x hx => mostF_ge.2 x (by simpa using hx)⟩
  have h2 : mostF l ≤ mostF l.reverse := mostF_le.2 ⟨mostF_ge.1, fun x hx => mostF_ge.2 x (by simpa using hx)⟩
  omega
theorem cut_rev {n : Nat} {o : List Int} (h : IsOrd n o) {es : List (Int × Int)} (hg : IsG n es) : cutF (posF o.reverse) es = cutF (posF o) es := by
  unfold cutF; rw [cuts_rev h hg, most_reverse]

/-! G8. -/
def ren (o q : List Int) : List Int := q.map fun v => o.getD v.toNat 0
theorem ren_ord {n : Nat} {o q : List Int} (ho : IsOrd n o) (hq : IsOrd n q) : IsOrd n (ren o q) := by
  rw [isOrd_iff]
  refine ⟨by unfold ren; rw [List.length_map, hq.len], ?_, ?_⟩
  · unfold ren
    refine List.pairwise_map.2 (List.Pairwise.imp_of_mem (fun {a b} ha hb hab => ?_) hq.nodup)
    intro e
    apply hab
    have ha := hq.mem.1 ha
    have hb := hq.mem.1 hb
    have h1 := idx_at ho (p := a.toNat) (by omega)
    have h2 := idx_at ho (p := b.toNat) (by omega)
    rw [e] at h1
    omega
  · intro v hv
    unfold ren at hv
    obtain ⟨u, hu, rfl⟩ := List.mem_map.1 hv
    have := hq.mem.1 hu
    exact ord_at ho (by omega)
theorem ren_at {n : Nat} {o q : List Int} (hq : IsOrd n q) {p : Nat} (hp : p < n) : (ren o q).getD p 0 = o.getD (q.getD p 0).toNat 0 := by
  unfold ren
  have : p < q.length := by rw [hq.len]; exact hp
  rw [List.getD_eq_getElem?_getD, List.getElem?_map, List.getElem?_eq_getElem this, List.getD_eq_getElem?_getD (l := q), List.getElem?_eq_getElem this]; rfl
theorem pos_ren {n : Nat} {o q : List Int} (ho : IsOrd n o) (hq : IsOrd n q) {v : Int} (hv : 0 ≤ v ∧ v < n) : (posF (ren o q)).getD (o.getD v.toNat 0).toNat 0 = (posF q).getD v.toNat 0 := by
  obtain ⟨p, hp, h1, h2⟩ := pos_of hq hv
  rw [h2]
  have := pos_at (ren_ord ho hq) hp
  rw [ren_at hq hp, h1] at this
  exact this
def renE (o : List Int) (es : List (Int × Int)) : List (Int × Int) := es.reverse.map fun e => (o.getD e.2.toNat 0, o.getD e.1.toNat 0)
theorem len_ren {n : Nat} {o q : List Int} (ho : IsOrd n o) (hq : IsOrd n q) {e : Int × Int} (he : (0 ≤ e.1 ∧ e.1 < n) ∧ (0 ≤ e.2 ∧ e.2 < n) ∧ e.1 ≠ e.2) : lenF (posF (ren o q)) (o.getD e.2.toNat 0, o.getD e.1.toNat 0) = lenF (posF q) e := by
  unfold lenF
  rw [pos_ren ho hq he.1, pos_ren ho hq he.2.1]
  omega
theorem over_ren {n : Nat} {o q : List Int} (ho : IsOrd n o) (hq : IsOrd n q) {e : Int × Int} (he : (0 ≤ e.1 ∧ e.1 < n) ∧ (0 ≤ e.2 ∧ e.2 < n) ∧ e.1 ≠ e.2) (p : Nat) : overB (posF (ren o q)) p (o.getD e.2.toNat 0, o.getD e.1.toNat 0) = overB (posF q) p e := by
  unfold overB
  simp only
  rw [pos_ren ho hq he.1, pos_ren ho hq he.2.1, Int.min_comm, Int.max_comm]
theorem renE_ok {n : Nat} {o : List Int} (ho : IsOrd n o) {es : List (Int × Int)} (hg : IsG n es) : IsG n (renE o es) := by
  intro e he
  unfold renE at he
  obtain ⟨d, hd, rfl⟩ := List.mem_map.1 he
  obtain ⟨h1, h2, h3⟩ := hg d (by simpa using hd)
  refine ⟨ord_at ho (by omega), ord_at ho (by omega), fun e' => h3 ?_⟩
  have a := idx_at ho (p := d.1.toNat) (by omega)
  have b := idx_at ho (p := d.2.toNat) (by omega)
  simp only at e'
  rw [e'] at b
  omega
theorem band_ren {n : Nat} {o q : List Int} (ho : IsOrd n o) (hq : IsOrd n q) {es : List (Int × Int)} (hg : IsG n es) : costB (renE o es) (ren o q) = costB es q := by
  have h1 : costB (renE o es) (ren o q) ≤ costB es q := foldl_max_le.2 ⟨foldl_max_ge.1, fun e he => by
    obtain ⟨d, hd, rfl⟩ := List.mem_map.1 he
    have hd : d ∈ es := by simpa using hd
    rw [len_ren ho hq (hg d hd)]; exact foldl_max_ge.2 d hd⟩
  have h2 : costB es q ≤ costB (renE o es) (ren o q) := foldl_max_le.2 ⟨foldl_max_ge.1, fun d hd => by
    rw [← len_ren ho hq (hg d hd)]
    exact foldl_max_ge.2 _ (List.mem_map.2 ⟨d, by simpa using hd, rfl⟩)⟩
  omega
theorem perm_sum {l m : List Int} (h : l.Perm m) : l.sum = m.sum := by
  induction h with
  | nil => rfl
  | cons x h ih => rw [List.sum_cons, List.sum_cons, ih]
  | swap x y l => simp only [List.sum_cons]; omega
  | trans _ _ i1 i2 => rw [i1, i2]
theorem sum_reverse (l : List Int) : l.reverse.sum = l.sum := perm_sum (List.reverse_perm l)
theorem total_ren {n : Nat} {o q : List Int} (ho : IsOrd n o) (hq : IsOrd n q) {es : List (Int × Int)} (hg : IsG n es) : costS (renE o es) (ren o q) = costS es q := by
  unfold costS
  rw [total_eq, total_eq]
  unfold renE
  rw [List.map_map, ← sum_reverse, ← List.map_reverse, List.reverse_reverse]
  congr 1
  exact List.map_congr_left fun e he => len_ren ho hq (hg e he)
theorem cut_ren {n : Nat} {o q : List Int} (ho : IsOrd n o) (hq : IsOrd n q) {es : List (Int × Int)} (hg : IsG n es) : costC (renE o es) (ren o q) = costC es q := by
  unfold costC cutF
  congr 1
  unfold cutsF
  rw [posF_len, posF_len, (ren_ord ho hq).len, hq.len]
  refine List.map_congr_left fun p _ => ?_
  unfold renE
  rw [List.filter_map, List.length_map, ← List.length_reverse, ← List.filter_reverse, List.reverse_reverse]
  congr 2
  exact List.filter_congr fun e he => over_ren ho hq (hg e he) p
theorem posF_ord {n : Nat} {o : List Int} (h : IsOrd n o) : IsOrd n (posF o) := by
  rw [isOrd_iff]
  refine ⟨by rw [posF_len, h.len], ?_, posF_mem h⟩
  unfold posF
  rw [h.len]
  refine List.pairwise_map.2 (List.Pairwise.imp_of_mem (fun {a b} ha hb hab => ?_) (List.nodup_range (n := n)))
  intro e
  apply hab
  have ha := List.mem_range.1 ha
  have hb := List.mem_range.1 hb
  have := pos_inj h (u := (a : Int)) (v := (b : Int)) (by omega) (by omega) (by
    rw [Int.toNat_natCast, Int.toNat_natCast, posF_at (by rw [h.len]; omega), posF_at (by rw [h.len]; omega)]; exact e)
  omega
theorem ren_back {n : Nat} {o q : List Int} (ho : IsOrd n o) (hq : IsOrd n q) : ren o (ren (posF o) q) = q := by
  unfold ren
  rw [List.map_map]
  have : ∀ v ∈ q, ((fun v => o.getD v.toNat 0) ∘ fun v => (posF o).getD v.toNat 0) v = v := by
    intro v hv
    obtain ⟨p, hp, h1, h2⟩ := pos_of ho (hq.mem.1 hv)
    show o.getD ((posF o).getD v.toNat 0).toNat 0 = v
    rw [h2, Int.toNat_natCast, h1]
  rw [List.map_congr_left this]; simp
theorem least_ren {c1 c2 : List Int → Int} {n : Nat} {o : List Int} (ho : IsOrd n o) (h : ∀ q, IsOrd n q → c2 (ren o q) = c1 q) {b1 b2 : Int} {p1 p2 : List Int} (h1 : leastF c1 n = some (b1, p1)) (h2 : leastF c2 n = some (b2, p2)) : b1 = b2 := by
  obtain ⟨_, _, e1, o1, e, m1⟩ := least_spec c1 n
  obtain ⟨_, _, e2, o2, e', m2⟩ := least_spec c2 n
  rw [h1] at e1; rw [h2] at e2
  cases e1; cases e2
  have a := m2 _ (ren_ord ho o1)
  rw [h p1 o1] at a
  have hq := ren_ord (posF_ord ho) o2
  have b := m1 _ hq
  have := h _ hq
  rw [ren_back ho o2] at this
  omega

/-! G5. -/
def pairSum (g : Int → Int → Int) : List Int → Int
  | [] => 0
  | x :: xs => (xs.map (g x)).sum + pairSum g xs
theorem pairSum_perm {g : Int → Int → Int} (hg : ∀ x y, g x y = g y x) {l m : List Int} (h : l.Perm m) : pairSum g l = pairSum g m := by
  induction h with
  | nil => rfl
  | cons x h ih => unfold pairSum; rw [ih, perm_sum (h.map _)]
  | swap x y l =>
    simp only [pairSum, List.map_cons, List.sum_cons]
    rw [hg x y]; omega
  | trans _ _ i1 i2 => rw [i1, i2]
theorem pairSum_snoc {g : Int → Int → Int} (hg : ∀ x y, g x y = g y x) : ∀ {l : List Int} {x : Int}, pairSum g (l ++ [x]) = pairSum g l + (l.map (g x)).sum := by
  intro l x
  rw [pairSum_perm hg (List.perm_append_comm (l₁ := l) (l₂ := [x]))]
  show (l.map (g x)).sum + pairSum g l = _
  omega
theorem pairSum_map {g : Int → Int → Int} {f : Int → Int} : ∀ {l : List Int}, pairSum (fun x y => g (f x) (f y)) l = pairSum g (l.map f)
  | [] => rfl
  | x :: l => by
    simp only [pairSum, List.map_cons]
    rw [pairSum_map, List.map_map]; rfl
def compE (o : List Int) (k : Nat) : List (Int × Int) := (List.range k).flatMap fun i => (List.range i).map fun j => (o.getD i 0, o.getD j 0)
theorem compE_succ (o : List Int) (k : Nat) : compE o (k + 1) = compE o k ++ (List.range k).map fun j => (o.getD k 0, o.getD j 0) := by simp [compE, List.range_succ]
theorem take_map (o : List Int) {k : Nat} (h : k ≤ o.length) : (List.range k).map (fun j => o.getD j 0) = o.take k := by
  apply List.ext_getElem
  · simp; omega
  · intro i h1 h2
    have hi : i < k := by simpa using h1
    simp only [List.getElem_map, List.getElem_range, List.getElem_take]
    rw [List.getD_eq_getElem?_getD, List.getElem?_eq_getElem (by omega)]; rfl
theorem comp_sum {g : Int → Int → Int} (hg : ∀ x y, g x y = g y x) (o : List Int) : ∀ k, k ≤ o.length → ((compE o k).map fun e => g e.1 e.2).sum = pairSum g (o.take k)
  | 0, _ => by simp [compE, pairSum]
  | k + 1, h => by
    rw [compE_succ, List.map_append, List.sum_append, comp_sum hg o k (by omega), List.take_succ_eq_append_getElem (by omega), pairSum_snoc hg, List.map_map, ← take_map o (by omega), List.map_map]
    congr 3
    funext j
    simp only [Function.comp]
    rw [List.getD_eq_getElem?_getD (l := o) (i := k), List.getElem?_eq_getElem (by omega)]; rfl
theorem comp_ok {n : Nat} {o : List Int} (ho : IsOrd n o) : IsG n (compE o n) := by
  intro e he
  unfold compE at he
  obtain ⟨i, hi, he⟩ := List.mem_flatMap.1 he
  obtain ⟨j, hj, rfl⟩ := List.mem_map.1 he
  have hi := List.mem_range.1 hi
  have hj := List.mem_range.1 hj
  refine ⟨ord_at ho hi, ord_at ho (by omega), fun e' => ?_⟩
  simp only at e'
  have a := idx_at ho hi
  have b := idx_at ho (p := j) (by omega)
  rw [e'] at a
  omega
def far (a b : Int) : Int := max (a - b) (b - a)
theorem far_comm (a b : Int) : far a b = far b a := by unfold far; omega
def ind (p : Nat) (a b : Int) : Int := if min a b ≤ p ∧ (p : Int) < max a b then 1 else 0
theorem ind_comm (p : Nat) (a b : Int) : ind p a b = ind p b a := by unfold ind; rw [Int.min_comm, Int.max_comm]
theorem map_pos_ord {n : Nat} {o q : List Int} (ho : IsOrd n o) (hq : IsOrd n q) : IsOrd n (o.map fun v => (posF q).getD v.toNat 0) := ren_ord (posF_ord hq) ho
theorem comp_total {n : Nat} {o q : List Int} (ho : IsOrd n o) (hq : IsOrd n q) : costS (compE o n) q = pairSum far (idn n) := by
  unfold costS
  rw [total_eq]
  have h1 : (compE o n).map (lenF (posF q)) = (compE o n).map fun e => (fun x y => far ((posF q).getD x.toNat 0) ((posF q).getD y.toNat 0)) e.1 e.2 := rfl
  rw [h1, comp_sum (g := fun x y => far ((posF q).getD x.toNat 0) ((posF q).getD y.toNat 0)) (fun x y => far_comm _ _) o n (by rw [ho.len]; omega), List.take_of_length_le (by rw [ho.len]; omega), pairSum_map (g := far) (f := fun v : Int => (posF q).getD v.toNat 0)]
  exact pairSum_perm far_comm (map_pos_ord ho hq)
theorem comp_cuts {n : Nat} {o q : List Int} (ho : IsOrd n o) (hq : IsOrd n q) : cutsF (posF q) (compE o n) = (List.range (n - 1)).map fun p => pairSum (ind p) (idn n) := by
  unfold cutsF
  rw [posF_len, hq.len]
  refine List.map_congr_left fun p _ => ?_
  rw [filter_len_sum]
  have h1 : ((compE o n).map fun x => if overB (posF q) p x then (1 : Int) else 0) = (compE o n).map fun e => (fun x y => ind p ((posF q).getD x.toNat 0) ((posF q).getD y.toNat 0)) e.1 e.2 := by
    refine List.map_congr_left fun e _ => ?_
    unfold overB ind
    simp only [Bool.and_eq_true, decide_eq_true_eq]
  rw [h1, comp_sum (g := fun x y => ind p ((posF q).getD x.toNat 0) ((posF q).getD y.toNat 0)) (fun x y => ind_comm p _ _) o n (by rw [ho.len]; omega), List.take_of_length_le (by rw [ho.len]; omega), pairSum_map (g := ind p) (f := fun v : Int => (posF q).getD v.toNat 0)]
  exact pairSum_perm (ind_comm p) (map_pos_ord ho hq)
theorem total_value : ∀ n : Nat, n ≤ 8 → pairSum far (idn n) = ((n : Int) + 1) * n * (n - 1) / 6 := by decide +kernel
theorem cut_value : ∀ n : Nat, n ≤ 8 → mostF ((List.range (n - 1)).map fun p => pairSum (ind p) (idn n)) = (n : Int) * n / 4 := by decide +kernel
theorem comp_mem {n : Nat} {o : List Int} {i j : Nat} (hi : i < n) (hj : j < i) : (o.getD i 0, o.getD j 0) ∈ compE o n :=
  List.mem_flatMap.2 ⟨i, List.mem_range.2 hi, List.mem_map.2 ⟨j, List.mem_range.2 hj, rfl⟩⟩
theorem comp_band {n : Nat} (hn : 1 ≤ n) {o q : List Int} (ho : IsOrd n o) (hq : IsOrd n q) : costB (compE o n) q = n - 1 := by
  have h1 := band_bd hn hq (comp_ok ho)
  by_cases h : n = 1
  · subst h; omega
  · obtain ⟨i, hi, a1, _⟩ := pos_of ho (ord_at hq (p := 0) (by omega))
    obtain ⟨j, hj, b1, _⟩ := pos_of ho (ord_at hq (p := n - 1) (by omega))
    have hp := pos_at hq (p := 0) (by omega)
    have hp' := pos_at hq (p := n - 1) (by omega)
    rw [← a1] at hp
    rw [← b1] at hp'
    have key : ∀ e ∈ compE o n, lenF (posF q) e ≤ costB (compE o n) q := fun e he => foldl_max_ge.2 e he
    rcases Nat.lt_trichotomy i j with hij | hij | hij
    · have := key _ (comp_mem hj hij)
      unfold lenF at this
      simp only at this
      rw [hp, hp'] at this
      omega
    · exfalso
      subst hij
      rw [hp] at hp'
      omega
    · have := key _ (comp_mem hi hij)
      unfold lenF at this
      simp only at this
      rw [hp, hp'] at this
      omega
/-- G5. -/
theorem complete_law {n : Nat} (hn : 1 ≤ n ∧ n ≤ 8) {o : List Int} (ho : IsOrd n o) {b1 b2 b3 : Int} {p1 p2 p3 : List Int}
    (h1 : leastF (costB (compE o n)) n = some (b1, p1)) (h2 : leastF (costC (compE o n)) n = some (b2, p2)) (h3 : leastF (costS (compE o n)) n = some (b3, p3)) :
    b1 = n - 1 ∧ b2 = (n : Int) * n / 4 ∧ b3 = ((n : Int) + 1) * n * (n - 1) / 6 := by
  obtain ⟨_, _, e1, o1, c1, _⟩ := least_spec (costB (compE o n)) n
  obtain ⟨_, _, e2, o2, c2, _⟩ := least_spec (costC (compE o n)) n
  obtain ⟨_, _, e3, o3, c3, _⟩ := least_spec (costS (compE o n)) n
  rw [h1] at e1; rw [h2] at e2; rw [h3] at e3
  cases e1; cases e2; cases e3
  refine ⟨by rw [c1, comp_band hn.1 ho o1], ?_, by rw [c3, comp_total ho o3, total_value n hn.2]⟩
  rw [c2]
  unfold costC cutF
  rw [comp_cuts ho o2, cut_value n hn.2]
end Go.Proofs.Ythnhmfmlhlpggaa
