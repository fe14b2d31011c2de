/- What is proved: plain facts on balls as numbers of bits, and on the reference's bound. No condition beyond those in each statement. -/
import Derived.Test.YtlidnhmagleehaaPd
namespace Go.Proofs.Ytlidnhmagleehaa

/-- A number whose bits are a list. -/
def MaskOk (n r : Nat) (l : List Bool) : Prop := r < 2 ^ n ∧ ∀ u, u < n → r.testBit u = l.getD u false
theorem getD_ext {n : Nat} {l m : List Bool} (h1 : l.length = n) (h2 : m.length = n) (h : ∀ u, u < n → l.getD u false = m.getD u false) : l = m := by
  apply List.ext_getElem (by omega)
  intro u hu hu'
  have := h u (by omega)
  simpa [List.getD_eq_getElem?_getD, hu, hu'] using this
theorem mask_inj {n r r' : Nat} {l l' : List Bool} (h : MaskOk n r l) (h' : MaskOk n r' l') (e1 : l.length = n) (e2 : l'.length = n) : r = r' ↔ l = l' := by
  constructor
  · rintro rfl
    exact getD_ext e1 e2 fun u hu => by rw [← h.2 u hu, ← h'.2 u hu]
  · rintro rfl
    apply Nat.eq_of_testBit_eq
    intro u
    by_cases hu : u < n
    · rw [h.2 u hu, h'.2 u hu]
    · have h2 : 2 ^ n ≤ 2 ^ u := Nat.pow_le_pow_right (by omega) (by omega)
      rw [Nat.testBit_lt_two_pow (by have := h.1; omega : r < 2 ^ u), Nat.testBit_lt_two_pow (by have := h'.1; omega : r' < 2 ^ u)]
theorem full_iff {n : Nat} {l : List Bool} (h : l.length = n) : fullB l = true ↔ ∀ u, u < n → l.getD u false = true := by
  unfold fullB
  rw [Bool.not_eq_true', List.any_eq_false]
  constructor
  · intro h1 u hu
    have hu' : u < l.length := by omega
    have h2 := h1 l[u] (List.getElem_mem hu')
    rw [show l.getD u false = l[u] by simp [List.getD_eq_getElem?_getD, hu']]
    cases hb : l[u]
    · rw [hb] at h2; simp at h2
    · rfl
  · intro h1 b hb
    obtain ⟨u, hu, rfl⟩ := List.getElem_of_mem hb
    have h2 := h1 u (by omega)
    rw [show l.getD u false = l[u] by simp [List.getD_eq_getElem?_getD, hu]] at h2
    rw [h2]; simp
theorem mask_full {n r : Nat} {l : List Bool} (h : MaskOk n r l) (e : l.length = n) : r = 2 ^ n - 1 ↔ fullB l = true := by
  rw [full_iff e]
  constructor
  · rintro rfl u hu
    rw [← h.2 u hu, Nat.testBit_two_pow_sub_one]
    simpa using hu
  · intro h1
    apply Nat.eq_of_testBit_eq
    intro u
    rw [Nat.testBit_two_pow_sub_one]
    by_cases hu : u < n
    · rw [h.2 u hu, h1 u hu]; simpa using hu
    · have h2 : 2 ^ n ≤ 2 ^ u := Nat.pow_le_pow_right (by omega) (by omega)
      rw [Nat.testBit_lt_two_pow (by have := h.1; omega : r < 2 ^ u)]
      simpa using hu
theorem mask_start {n v : Nat} (hv : v < n) (es : List (Int × Int)) : MaskOk n (2 ^ v) (ballF n es v 0) := by
  refine ⟨Nat.pow_lt_pow_right (by omega) hv, fun u hu => ?_⟩
  rw [Nat.testBit_two_pow]
  unfold ballF
  rw [getD_mapR _ hu]
  by_cases e : v = u
  · subst e; simp
  · rw [decide_eq_false e]
    symm
    rw [beq_eq_false_iff_ne]
    omega
/-- The bits in the middle of a round. -/
def midB (es : List (Int × Int)) (r i u : Nat) : Bool := r.testBit u || (es.take i).any fun e => (r.testBit e.1.toNat || r.testBit e.2.toNat) && (e.1 == (u : Int) || e.2 == (u : Int))
def MidOk (n : Nat) (es : List (Int × Int)) (r i x : Nat) : Prop := x < 2 ^ n ∧ ∀ u, u < n → x.testBit u = midB es r i u
theorem mid_zero {n : Nat} {es : List (Int × Int)} {r : Nat} (h : r < 2 ^ n) : MidOk n es r 0 r := ⟨h, fun u _ => by simp [midB]⟩
theorem mid_step {n : Nat} {es : List (Int × Int)} {r i x a c : Nat} (h : MidOk n es r i x) (hi : i < es.length) (e : es[i] = ((a : Int), (c : Int))) (ha : a < n) (hc : c < n) :
    (r.testBit a || r.testBit c) = true → MidOk n es r (i + 1) (x ||| (2 ^ a ||| 2 ^ c)) := by
  intro hb
  have p1 : (2 : Nat) ^ a < 2 ^ n := Nat.pow_lt_pow_right (by omega) ha
  have p2 : (2 : Nat) ^ c < 2 ^ n := Nat.pow_lt_pow_right (by omega) hc
  refine ⟨Nat.or_lt_two_pow h.1 (Nat.or_lt_two_pow p1 p2), fun u hu => ?_⟩
  rw [Nat.testBit_or, Nat.testBit_or, Nat.testBit_two_pow, Nat.testBit_two_pow, h.2 u hu]
  unfold midB
  rw [List.take_succ_eq_append_getElem hi, List.any_append, e]
  simp only [List.any_cons, List.any_nil, Bool.or_false, Int.toNat_natCast, hb, Bool.true_and, Bool.or_assoc]
  congr 2
  rw [Bool.eq_iff_iff]
  simp
  omega
theorem mid_skip {n : Nat} {es : List (Int × Int)} {r i x a c : Nat} (h : MidOk n es r i x) (hi : i < es.length) (e : es[i] = ((a : Int), (c : Int))) :
    (r.testBit a || r.testBit c) = false → MidOk n es r (i + 1) x := by
  intro hb
  refine ⟨h.1, fun u hu => ?_⟩
  rw [h.2 u hu]
  unfold midB
  rw [List.take_succ_eq_append_getElem hi, List.any_append, e]
  simp only [List.any_cons, List.any_nil, Bool.or_false, Int.toNat_natCast, hb, Bool.false_and]
theorem mid_end {n v t : Nat} {es : List (Int × Int)} {r x : Nat} (hr : MaskOk n r (ballF n es v t)) (hg : IsG n es) (h : MidOk n es r es.length x) : MaskOk n x (ballF n es v (t + 1)) := by
  refine ⟨h.1, fun u hu => ?_⟩
  rw [h.2 u hu]
  unfold midB
  rw [List.take_length]
  show _ = ((List.range n).map fun b => (ballF n es v t).getD b false || (List.range n).any fun a => (ballF n es v t).getD a false && adjB es a b).getD u false
  rw [getD_mapR _ hu, hr.2 u hu]
  cases hb : (ballF n es v t).getD u false
  · rw [Bool.false_or, Bool.false_or, Bool.eq_iff_iff, List.any_eq_true, List.any_eq_true]
    constructor
    · rintro ⟨e, he, h1⟩
      obtain ⟨⟨g1, g2⟩, ⟨g3, g4⟩, _⟩ := hg e he
      obtain ⟨a, ha⟩ : ∃ a : Nat, e.1 = a := ⟨e.1.toNat, by omega⟩
      obtain ⟨c, hc⟩ : ∃ a : Nat, e.2 = a := ⟨e.2.toNat, by omega⟩
      rw [ha] at g1 g2 h1
      rw [hc] at g3 g4 h1
      simp only [Int.toNat_natCast] at h1
      rw [hr.2 a (by omega), hr.2 c (by omega)] at h1
      simp only [Bool.and_eq_true, Bool.or_eq_true, beq_iff_eq] at h1
      have key : ∀ p q : Nat, p < n → (ballF n es v t).getD p false = true → ((e.1 = p ∧ e.2 = q) ∨ (e.1 = q ∧ e.2 = p)) → q = u → ∃ x ∈ List.range n, ((ballF n es v t).getD x false && adjB es x u) = true := by
        intro p q hp hpt hpq hqu
        subst hqu
        refine ⟨p, List.mem_range.2 hp, ?_⟩
        rw [hpt, Bool.true_and]
        unfold adjB
        rw [List.any_eq_true]
        exact ⟨e, he, by simpa using hpq⟩
      obtain ⟨h2, h3⟩ := h1
      rcases h3 with h3 | h3
      · have hau : a = u := by omega
        rcases h2 with h2 | h2
        · rw [hau, hb] at h2; cases h2
        · exact key c a (by omega) h2 (.inr ⟨ha, hc⟩) hau
      · have hcu : c = u := by omega
        rcases h2 with h2 | h2
        · exact key a c (by omega) h2 (.inl ⟨ha, hc⟩) hcu
        · rw [hcu, hb] at h2; cases h2
    · rintro ⟨a, ha, h1⟩
      rw [Bool.and_eq_true] at h1
      obtain ⟨h2, h3⟩ := h1
      rw [List.mem_range] at ha
      unfold adjB at h3
      rw [List.any_eq_true] at h3
      obtain ⟨e, he, h4⟩ := h3
      refine ⟨e, he, ?_⟩
      simp only [Bool.and_eq_true, Bool.or_eq_true, beq_iff_eq] at h4 ⊢
      have h5 := (hr.2 a ha).trans h2
      rcases h4 with ⟨q1, q2⟩ | ⟨q1, q2⟩
      · exact ⟨.inl (by rw [q1]; exact h5), .inr q2⟩
      · exact ⟨.inr (by rw [q2]; exact h5), .inl q1⟩
  · simp
/-- How many of a list are true. -/
def cntB (l : List Bool) : Nat := l.count true
theorem ball_mono {n v t : Nat} {es : List (Int × Int)} {u : Nat} (hu : u < n) (h : (ballF n es v t).getD u false = true) : (ballF n es v (t + 1)).getD u false = true := by
  show ((List.range n).map fun b => (ballF n es v t).getD b false || (List.range n).any fun a => (ballF n es v t).getD a false && adjB es a b).getD u false = true
  rw [getD_mapR _ hu, h]; rfl
theorem ball_next {n v s t : Nat} {es : List (Int × Int)} (h : ballF n es v s = ballF n es v t) : ballF n es v (s + 1) = ballF n es v (t + 1) := by
  show ((List.range n).map _) = ((List.range n).map _)
  rw [h]
theorem ball_stuck {n v t : Nat} {es : List (Int × Int)} (h : ballF n es v (t + 1) = ballF n es v t) : ∀ k, ballF n es v (t + k) = ballF n es v t
  | 0 => rfl
  | k + 1 => by
    have ih := ball_stuck h k
    rw [← Nat.add_assoc, ball_next ih, h]
theorem full_stays {n v t : Nat} {es : List (Int × Int)} (h : fullB (ballF n es v t) = true) : ballF n es v (t + 1) = ballF n es v t := by
  rw [full_iff (ball_len n es v t)] at h
  exact getD_ext (ball_len _ _ _ _) (ball_len _ _ _ _) fun u hu => by rw [h u hu, ball_mono hu (h u hu)]
theorem full_stays' {n v t : Nat} {es : List (Int × Int)} (h : fullB (ballF n es v t) = true) (k : Nat) : ballF n es v (t + k) = ballF n es v t := ball_stuck (full_stays h) k
theorem count_lt : ∀ {l m : List Bool}, l.length = m.length → (∀ i, l.getD i false = true → m.getD i false = true) → l ≠ m → cntB l < cntB m
  | [], [], _, _, h => absurd rfl h
  | a :: l, b :: m, hl, h, hne => by
    have hl' : l.length = m.length := by simpa using hl
    have h0 : a = true → b = true := h 0
    have ht : ∀ i, l.getD i false = true → m.getD i false = true := fun i hi => h (i + 1) hi
    have hle : cntB l ≤ cntB m := by
      by_cases e : l = m
      · rw [e]; exact Nat.le_refl _
      · exact Nat.le_of_lt (count_lt hl' ht e)
    unfold cntB at *
    cases a <;> cases b
    · have e : l ≠ m := fun e => hne (by rw [e])
      have := count_lt hl' ht e
      unfold cntB at this
      simpa using this
    · simp; omega
    · exact absurd (h0 rfl) (by simp)
    · have e : l ≠ m := fun e => hne (by rw [e])
      have := count_lt hl' ht e
      unfold cntB at this
      simpa using this
theorem cnt_len (l : List Bool) : cntB l ≤ l.length := List.count_le_length
theorem getD_oob {l : List Bool} {i : Nat} (h : l.length ≤ i) : l.getD i false = false := by simp [List.getD_eq_getElem?_getD, h]
theorem ball_grow {n v t : Nat} {es : List (Int × Int)} (h : ballF n es v (t + 1) ≠ ballF n es v t) : cntB (ballF n es v t) < cntB (ballF n es v (t + 1)) := by
  refine count_lt (by rw [ball_len, ball_len]) (fun i hi => ?_) (Ne.symm h)
  by_cases hn : i < n
  · exact ball_mono hn hi
  · rw [getD_oob (by rw [ball_len]; omega)] at hi; cases hi
theorem ball_many {n v : Nat} (hv : v < n) {es : List (Int × Int)} : ∀ t : Nat, (∀ s, s < t → ballF n es v (s + 1) ≠ ballF n es v s) → t + 1 ≤ cntB (ballF n es v t)
  | 0, _ => by
    have h1 : (ballF n es v 0).getD v false = true := by unfold ballF; rw [getD_mapR _ hv]; simp
    unfold cntB
    have hlt : v < (ballF n es v 0).length := by rw [ball_len]; exact hv
    have h2 : true ∈ ballF n es v 0 := by
      rw [show (ballF n es v 0).getD v false = (ballF n es v 0)[v] by simp [List.getD_eq_getElem?_getD, hlt]] at h1
      rw [← h1]; exact List.getElem_mem hlt
    exact List.count_pos_iff.2 h2
  | t + 1, h => by
    have ih := ball_many hv t fun s hs => h s (by omega)
    have := ball_grow (h t (by omega))
    omega
/-- A full ball is full in time, if at all. -/
theorem ecc_full {n v : Nat} (hv : v < n) {es : List (Int × Int)} (h : fullB (ballF n es v n) = true) : ∃ t, eccF n es v = some t ∧ t < n ∧ (∀ s, s < t → ballF n es v (s + 1) ≠ ballF n es v s) ∧ (∀ s, t ≤ s → ballF n es v (s + 1) = ballF n es v s) := by
  have hex : ∃ t, t < n ∧ fullB (ballF n es v t) = true := by
    refine Classical.byContradiction fun hno => ?_
    have hch : ∀ s, s < n → ballF n es v (s + 1) ≠ ballF n es v s := by
      intro s hs e
      refine hno ⟨s, hs, ?_⟩
      have h2 := ball_stuck e (n - s)
      rw [show s + (n - s) = n by omega] at h2
      rw [← h2]; exact h
    have h1 := ball_many hv n hch
    have h2 := cnt_len (ballF n es v n)
    rw [ball_len] at h2
    omega
  cases he : eccF n es v with
  | none =>
    obtain ⟨t, ht, hf⟩ := hex
    unfold eccF at he
    rw [List.find?_eq_none] at he
    exact absurd hf (he t (List.mem_range.2 ht))
  | some t =>
    unfold eccF at he
    have hft := List.find?_some he
    have htn := List.mem_range.1 (List.mem_of_find?_eq_some he)
    refine ⟨t, rfl, htn, ?_, ?_⟩
    · intro s hs e
      have h2 := ball_stuck e (t - s)
      rw [show s + (t - s) = t by omega] at h2
      rw [h2] at hft
      rw [List.find?_range_eq_some] at he
      have := he.2.2 s hs
      rw [hft] at this
      cases this
    · intro s hs
      have h1 := full_stays' hft (s - t)
      have h2 := full_stays' hft (s - t + 1)
      rw [← Nat.add_assoc, show t + (s - t) = s by omega] at h2
      rw [show t + (s - t) = s by omega] at h1
      rw [h1, h2]
theorem ecc_no {n v : Nat} {es : List (Int × Int)} (h : fullB (ballF n es v n) = false) : eccF n es v = none := by
  unfold eccF
  rw [List.find?_eq_none]
  intro t ht hf
  have h1 := full_stays' hf (n - t)
  rw [show t + (n - t) = n by have := List.mem_range.1 ht; omega] at h1
  rw [h1, hf] at h
  cases h
/-- The last round that reached anything new. -/
def lastF (n : Nat) (es : List (Int × Int)) (v : Nat) : Nat → Nat
  | 0 => 0
  | t + 1 => if ballF n es v (t + 1) = ballF n es v t then lastF n es v t else t + 1
theorem last_le (n : Nat) (es : List (Int × Int)) (v : Nat) : ∀ t, lastF n es v t ≤ t
  | 0 => Nat.le_refl _
  | t + 1 => by
    have := last_le n es v t
    unfold lastF
    split <;> omega
theorem last_before {n v : Nat} {es : List (Int × Int)} {t : Nat} : ∀ s, s ≤ t → (∀ s, s < t → ballF n es v (s + 1) ≠ ballF n es v s) → lastF n es v s = s
  | 0, _, _ => rfl
  | s + 1, hs, h => by unfold lastF; rw [if_neg (h s (by omega))]
theorem last_after {n v : Nat} {es : List (Int × Int)} {t : Nat} (h1 : ∀ s, s < t → ballF n es v (s + 1) ≠ ballF n es v s) (h2 : ∀ s, t ≤ s → ballF n es v (s + 1) = ballF n es v s) : ∀ k, lastF n es v (t + k) = t
  | 0 => last_before t (Nat.le_refl _) h1
  | k + 1 => by
    rw [← Nat.add_assoc]
    unfold lastF
    rw [if_pos (h2 _ (by omega)), last_after h1 h2 k]
theorem ecc_last {n v : Nat} (hv : v < n) {es : List (Int × Int)} (h : fullB (ballF n es v n) = true) : eccF n es v = some (lastF n es v n) := by
  obtain ⟨t, he, ht, h1, h2⟩ := ecc_full hv h
  rw [he, ← last_after h1 h2 (n - t), show t + (n - t) = n by omega]
def refB (n : Nat) (es : List (Int × Int)) : Int := if n < 2 then -1 else match bndF n es with
  | none => -1
  | some b => b
end Go.Proofs.Ytlidnhmagleehaa
