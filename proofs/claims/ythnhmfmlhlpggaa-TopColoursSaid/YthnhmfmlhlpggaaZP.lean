/- What is proved: the cliques of a bipartite graph. No condition beyond those in each statement. -/
import Derived.Test.YthnhmfmlhlpggaaZO
import Derived.Test.YthnhmfmlhlpggaaKb
namespace Go.Proofs.Ythnhmfmlhlpggaa
open Pt Kn
set_option maxRecDepth 100000

/-- The pairs' colours: 0 for a pair that has an edge. -/
def bipC (n p : Nat) (es : List (Int × Int)) : List Int := es.foldl (fun cs e => cs.set (placeZ n e.1 (p + e.2)).toNat 0) (List.replicate (npairs n) 1)
theorem bipC_snoc (n p : Nat) (es : List (Int × Int)) (e : Int × Int) : bipC n p (es ++ [e]) = (bipC n p es).set (placeZ n e.1 (p + e.2)).toNat 0 := by
  unfold bipC; rw [List.foldl_append]; rfl
theorem bip_len (n p : Nat) (es : List (Int × Int)) : (bipC n p es).length = npairs n := by
  unfold bipC
  suffices h : ∀ (es : List (Int × Int)) (cs : List Int), (es.foldl (fun cs e => cs.set (placeZ n e.1 (p + e.2)).toNat 0) cs).length = cs.length by rw [h]; simp
  intro es
  induction es with
  | nil => intro cs; rfl
  | cons e es ih => intro cs; rw [List.foldl_cons, ih, List.length_set]
theorem bip_at (n p : Nat) (t : Nat) (ht : t < npairs n) : ∀ es : List (Int × Int), (bipC n p es).getD t 0 = if es.any (fun e => (placeZ n e.1 (p + e.2)).toNat == t) = true then 0 else 1 := by
  suffices h : ∀ (es : List (Int × Int)) (cs : List Int), t < cs.length → (es.foldl (fun cs e => cs.set (placeZ n e.1 (p + e.2)).toNat 0) cs).getD t 0 = if es.any (fun e => (placeZ n e.1 (p + e.2)).toNat == t) = true then 0 else cs.getD t 0 by
    intro es
    unfold bipC
    rw [h es _ (by simpa using ht)]
    have : (List.replicate (npairs n) (1 : Int)).getD t 0 = 1 := by rw [List.getD_eq_getElem?_getD, List.getElem?_replicate, if_pos ht]; rfl
    rw [this]
  intro es
  induction es with
  | nil => intro cs _; rfl
  | cons e es ih =>
    intro cs hl
    rw [List.foldl_cons, ih _ (by rw [List.length_set]; exact hl), List.any_cons]
    by_cases h1 : es.any (fun e => (placeZ n e.1 (p + e.2)).toNat == t) = true
    · rw [if_pos h1, if_pos (by rw [h1, Bool.or_true])]
    · rw [if_neg h1]
      have h2 : es.any (fun e => (placeZ n e.1 (p + e.2)).toNat == t) = false := by simpa using h1
      rw [h2, Bool.or_false]
      by_cases h3 : (placeZ n e.1 (p + e.2)).toNat = t
      · rw [if_pos (by simpa using h3), List.getD_eq_getElem?_getD, h3, List.getElem?_set_self hl]; rfl
      · rw [if_neg (by simpa using h3), List.getD_eq_getElem?_getD, List.getElem?_set_ne h3, ← List.getD_eq_getElem?_getD]

theorem place_inj8 : ((List.range 9).all fun n => (List.range n).all fun b => (List.range b).all fun a => (List.range n).all fun d => (List.range d).all fun c => !((placeZ (n : Nat) (a : Nat) (b : Nat)).toNat == (placeZ (n : Nat) (c : Nat) (d : Nat)).toNat) || (a == c && b == d)) = true := by decide +kernel
theorem place_inj (n : Nat) (hn : n ≤ 8) (a b c d : Nat) (hab : a < b) (hb : b < n) (hcd : c < d) (hd : d < n) (h : (placeZ (n : Nat) (a : Nat) (b : Nat)).toNat = (placeZ (n : Nat) (c : Nat) (d : Nat)).toNat) : a = c ∧ b = d := by
  have h1 := List.all_eq_true.1 place_inj8 n (List.mem_range.2 (by omega))
  have h2 := List.all_eq_true.1 h1 b (List.mem_range.2 hb)
  have h3 := List.all_eq_true.1 h2 a (List.mem_range.2 hab)
  have h4 := List.all_eq_true.1 h3 d (List.mem_range.2 hd)
  have h5 := List.all_eq_true.1 h4 c (List.mem_range.2 hcd)
  rw [h, beq_self_eq_true, Bool.not_true, Bool.false_or, Bool.and_eq_true, beq_iff_eq, beq_iff_eq] at h5
  exact h5
theorem place_lt : ∀ n, n ≤ 8 → ∀ a, a < 8 → ∀ b, b < 8 → a < b → b < n → (placeZ (n : Nat) (a : Nat) (b : Nat)).toNat < npairs n := by decide +kernel
/-- Edges between p and q vertices. -/
def EsIn (p q : Nat) (es : List (Int × Int)) : Prop := ∀ e ∈ es, (0 ≤ e.1 ∧ e.1 < p) ∧ (0 ≤ e.2 ∧ e.2 < q)
theorem bip_zero {n p q : Nat} {es : List (Int × Int)} (hn : n = p + q) (hn8 : n ≤ 8) (he : EsIn p q es) {u v : Nat} (huv : u < v) (hv : v < n) (h : colN n (bipC n p es) u v = 0) : u < p ∧ p ≤ v := by
  unfold colN at h
  rw [bip_at n p _ (place_lt n hn8 u (by omega) v (by omega) huv hv)] at h
  split at h
  · rename_i h1
    obtain ⟨e, hm, h2⟩ := List.any_eq_true.1 h1
    obtain ⟨⟨a0, a1⟩, b0, b1⟩ := he e hm
    obtain ⟨a, ha⟩ := Int.eq_ofNat_of_zero_le a0
    obtain ⟨b, hb⟩ := Int.eq_ofNat_of_zero_le b0
    rw [beq_iff_eq, ha, hb, show ((p : Int) + (b : Int)) = ((p + b : Nat) : Int) by omega] at h2
    obtain ⟨rfl, rfl⟩ := place_inj n hn8 a (p + b) u v (by omega) (by omega) huv hv h2
    omega
  · omega
theorem bip_one {n p q : Nat} {es : List (Int × Int)} (hn : n = p + q) (hn8 : n ≤ 8) (he : EsIn p q es) {u v : Nat} (huv : u < v) (hv : v < n) (hs : v < p ∨ p ≤ u) : colN n (bipC n p es) u v = 1 := by
  have h0 : colN n (bipC n p es) u v = 0 ∨ colN n (bipC n p es) u v = 1 := by
    unfold colN
    rw [bip_at n p _ (place_lt n hn8 u (by omega) v (by omega) huv hv)]
    split
    · exact .inl rfl
    · exact .inr rfl
  rcases h0 with h | h
  · have := bip_zero hn hn8 he huv hv h
    omega
  · exact h
theorem bip_no3 {n p q : Nat} {es : List (Int × Int)} (hn : n = p + q) (hn8 : n ≤ 8) (he : EsIn p q es) : ¬ HasClq n (bipC n p es) 0 3 := by
  rintro ⟨vs, h1, h2, h3, h4⟩
  match vs, h1 with
  | [u, v, x], _ =>
    simp at h2 h3 h4
    have g1 := bip_zero hn hn8 he h2.1.1 h3.2.1 h4.1.1
    have g2 := bip_zero hn hn8 he h2.2 h3.2.2 h4.2
    omega
theorem range_clq {n p q : Nat} {es : List (Int × Int)} (hn : n = p + q) (hn8 : n ≤ 8) (he : EsIn p q es) (s k : Nat) (hs : s + k ≤ n) (h : s + k ≤ p ∨ p ≤ s) : HasClq n (bipC n p es) 1 k := by
  refine ⟨List.range' s k, by simp, List.pairwise_lt_range', fun v hv => by rw [List.mem_range'_1] at hv; omega, ?_⟩
  refine List.Pairwise.imp_of_mem (fun {u v} hu hv huv => ?_) (List.pairwise_lt_range' (s := s) (n := k) (step := 1))
  rw [List.mem_range'_1] at hu hv
  exact bip_one hn hn8 he huv (by omega) (by omega)
theorem bip_half {n p q : Nat} {es : List (Int × Int)} (hn : n = p + q) (hn8 : n ≤ 8) (he : EsIn p q es) : HasClq n (bipC n p es) 1 ((n + 1) / 2) := by
  by_cases h : q ≤ p
  · exact range_clq hn hn8 he 0 _ (by omega) (.inl (by omega))
  · exact range_clq hn hn8 he p _ (by omega) (.inr (Nat.le_refl _))
theorem inRange_iff {r : Int} {cs : List Int} : inRange r cs = true ↔ ∀ x ∈ cs, 0 ≤ x ∧ x < r := by
  unfold inRange
  rw [Bool.not_eq_true', List.any_eq_false]
  constructor
  · intro h x hx
    have := h x hx
    simp at this
    omega
  · intro h x hx
    have := h x hx
    simp
    omega
theorem bip_range (n p : Nat) (es : List (Int × Int)) : inRange 2 (bipC n p es) = true := by
  unfold bipC
  suffices h : ∀ (es : List (Int × Int)) (cs : List Int), inRange 2 cs = true → inRange 2 (es.foldl (fun cs e => cs.set (placeZ n e.1 (p + e.2)).toNat 0) cs) = true by
    refine h es _ ?_
    rw [inRange_iff]
    intro x hx
    rw [List.eq_of_mem_replicate hx]; decide
  intro es
  induction es with
  | nil => intro cs h; exact h
  | cons e es ih =>
    intro cs h
    rw [List.foldl_cons]
    refine ih _ ?_
    rw [inRange_iff] at h ⊢
    intro x hx
    rcases List.mem_or_eq_of_mem_set hx with hx | rfl
    · exact h x hx
    · decide
theorem clique_no3 {n p q : Nat} {es : List (Int × Int)} (hn : n = p + q) (hn1 : 1 ≤ n) (hn8 : n ≤ 8) (he : EsIn p q es) : CliqueR n (bipC n p es) 0 3 = (none, 5) := by
  have h : cliqueF (okP (bipC n p es) n 0) n 3 [] = none := cliqueF_free.2 (bip_no3 hn hn8 he)
  unfold CliqueR
  rw [if_neg (by simp; omega), if_neg (by simp [bip_len, bip_range])]
  simp only [Int.toNat_natCast]
  rw [show (3 : Int).toNat = 3 from rfl, h]; rfl
theorem clique_half {n p q : Nat} {es : List (Int × Int)} (hn : n = p + q) (hn1 : 1 ≤ n) (hn8 : n ≤ 8) (he : EsIn p q es) : ∃ h, CliqueR n (bipC n p es) 1 (((n + 1) / 2 : Nat) : Int) = (some h, 0) ∧ h.length = (n + 1) / 2 := by
  cases hq : cliqueF (okP (bipC n p es) n 1) n ((n + 1) / 2) [] with
  | none => exact absurd (bip_half hn hn8 he) (cliqueF_free.1 hq)
  | some h =>
    refine ⟨h, ?_, ?_⟩
    · unfold CliqueR
      rw [if_neg (by simp; omega), if_neg (by simp [bip_len, bip_range])]
      simp only [Int.toNat_natCast]
      rw [hq]; rfl
    · obtain ⟨vs, h1, h2, _⟩ := cliqueF_some_at hq
      rw [h1]; simpa using h2
end Go.Proofs.Ythnhmfmlhlpggaa
