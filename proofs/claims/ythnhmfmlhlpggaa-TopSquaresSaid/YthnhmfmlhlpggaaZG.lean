/- What is proved: the plain law of TopSquares: what fits is a total of the weights; a subset with a total has it. No condition beyond those in each statement. -/
import Derived.Test.YthnhmfmlhlpggaaZF
namespace Go.Proofs.Ythnhmfmlhlpggaa
set_option maxRecDepth 100000

def ws12 : List Int := [1, 4, 9, 16, 25, 36, 49, 64, 81, 100, 121, 144]
theorem ws12_up : ∀ i : Fin 11, ws12.getD i.1 0 < ws12.getD (i.1 + 1) 0 := by decide
theorem ws12_ok : WsOk ws12 := ⟨by decide, by decide, by decide, fun i h => by
  have := ws12_up ⟨i, by have : i + 1 < 12 := h; omega⟩
  rw [getD_lt 0 () h, getD_lt 0 () (show i < ws12.length by omega)] at this
  exact this⟩

/-- Whether parts are different ones, each at most 12. -/
def fitB (ps : List Int) : Nat → Bool
  | 0 => decide (0 < ps.length)
  | i + 1 => fitB ps i && decide (ps.getD i 0 ≤ 12) && (i == 0 || decide (ps.getD i 0 < ps.getD (i - 1) 0) || ps.getD i 0 == 0)

/-- The sums of the subsets alone. -/
def sbS (ws : List Int) : Nat → Int → List Int
  | 0, _ => []
  | f + 1, s => ((s + ws.getD (ws.length - (f + 1)) 0) :: sbS ws f (s + ws.getD (ws.length - (f + 1)) 0)) ++ sbS ws f s
theorem sbS_of (ws : List Int) : ∀ (f : Nat) (l : List Int) (s : Int), (sbR ws f l s).map (·.2) = sbS ws f s
  | 0, _, _ => rfl
  | f + 1, l, s => by
    unfold sbR sbS
    rw [List.map_append, List.map_cons, sbS_of ws f, sbS_of ws f]
theorem subF_some {ws : List Int} {t : Int} (h : (sbS ws ws.length 0).any (· == t) = true) : (subF ws t).isSome = true := by
  unfold subF
  rw [List.find?_isSome]
  rw [List.any_eq_true] at h
  obtain ⟨x, hx, ht⟩ := h
  rw [← sbS_of ws ws.length [] 0] at hx
  obtain ⟨p, hp, rfl⟩ := List.mem_map.1 hx
  exact ⟨p, by unfold subsL; exact List.mem_cons_of_mem _ hp, ht⟩

def sumI (ws : List Int) (xs : List Int) : Int := (xs.map fun x => ws.getD x.toNat 0).sum
/-- A list of indices with their sum. -/
def GoodSub (ws : List Int) (p : Sub) : Prop := (∀ x ∈ p.1, 0 ≤ x ∧ x < ws.length) ∧ p.2 = sumI ws p.1
theorem good_sbR (ws : List Int) : ∀ (f : Nat) (l : List Int) (s : Int), f ≤ ws.length → GoodSub ws (l, s) → ∀ p ∈ sbR ws f l s, GoodSub ws p
  | 0, _, _, _, _, _, hp => absurd hp (by simp [sbR])
  | f + 1, l, s, hf, hg, p, hp => by
    have hnew : GoodSub ws (l ++ [((ws.length - (f + 1) : Nat) : Int)], s + ws.getD (ws.length - (f + 1)) 0) := by
      refine ⟨fun x hx => ?_, ?_⟩
      · rcases List.mem_append.1 hx with hx | hx
        · exact hg.1 x hx
        · rw [List.mem_singleton] at hx; subst hx; omega
      · have := hg.2
        simp only at this ⊢
        rw [this]
        simp [sumI]
    unfold sbR at hp
    rcases List.mem_append.1 hp with hp | hp
    · rcases List.mem_cons.1 hp with rfl | hp
      · exact hnew
      · exact good_sbR ws f _ _ (by omega) hnew p hp
    · exact good_sbR ws f l s (by omega) hg p hp
theorem subF_good {ws : List Int} {t : Int} {xs : List Int} {s : Int} (h : subF ws t = some (xs, s)) : s = t ∧ GoodSub ws (xs, s) := by
  unfold subF at h
  have h1 := List.find?_some h
  have h2 := List.mem_of_find?_eq_some h
  refine ⟨by simpa using h1, ?_⟩
  have h0 : GoodSub ws ([], 0) := ⟨fun _ h => absurd h (by simp), rfl⟩
  unfold subsL at h2
  rcases List.mem_cons.1 h2 with e | h2
  · rw [e]; exact h0
  · exact good_sbR ws _ _ _ (Nat.le_refl _) h0 _ h2

def rt (n : Nat) : Nat := ((List.range 26).filter fun r => r * r ≤ n).length - 1
def sq4 (n : Nat) : List Int → Bool
  | [p, q, r, t] => (decide (0 ≤ p) && decide (p ≤ 24) && decide (0 ≤ q) && decide (q ≤ 24) && decide (0 ≤ r) && decide (r ≤ 24) && decide (0 ≤ t) && decide (t ≤ 24)) && (p * p + q * q + r * r + t * t == n)
  | _ => false
def okN (n : Nat) : Bool :=
  (decide (rt n * rt n ≤ n) && decide (n < (rt n + 1) * (rt n + 1))) &&
  (match sqF 4 n (rt n) with
  | none => false
  | some l => sq4 n l && (!fitB l l.length || (sbS ws12 12 0).any (· == (n : Int)))) &&
  (match sqF 3 n (rt n) with
  | none => true
  | some l => (decide (l.length = 3)) && (!fitB l l.length || (sbS ws12 12 0).any (· == (n : Int))))
theorem okN_all : ((List.range 578).all fun n => n == 0 || okN n) = true := by decide +kernel

theorem okN_of {n : Nat} (h1 : 1 ≤ n) (h2 : n ≤ 577) : okN n = true := by
  have := List.all_eq_true.1 okN_all n (List.mem_range.2 (by omega))
  rw [Bool.or_eq_true, beq_iff_eq] at this
  rcases this with h | h
  · omega
  · exact h
theorem okN_root {n r : Nat} (h1 : 1 ≤ n) (h2 : n ≤ 577) (hr : r * r ≤ n ∧ n < (r + 1) * (r + 1)) : r = rt n := by
  have h := okN_of h1 h2
  unfold okN at h
  simp only [Bool.and_eq_true, decide_eq_true_eq] at h
  exact root_one hr h.1.1
theorem four_facts {n r : Nat} (h1 : 1 ≤ n) (h2 : n ≤ 577) (hr : r * r ≤ n ∧ n < (r + 1) * (r + 1)) :
    ∃ a b c d : Nat, sqF 4 n r = some [(a : Int), (b : Int), (c : Int), (d : Int)] ∧ a * a + b * b + c * c + d * d = n ∧ a ≤ 24 ∧ b ≤ 24 ∧ c ≤ 24 ∧ d ≤ 24 ∧ (fitB [(a : Int), (b : Int), (c : Int), (d : Int)] 4 = true → (subF ws12 n).isSome = true) := by
  have h := okN_of h1 h2
  rw [okN_root h1 h2 hr]
  unfold okN at h
  simp only [Bool.and_eq_true] at h
  have h4 := h.1.2
  clear h
  cases hs : sqF 4 n (rt n) with
  | none => rw [hs] at h4; exact absurd h4 (by simp)
  | some l =>
    rw [hs] at h4
    have hlen := sqF_len _ _ _ _ hs
    match l, hlen with
    | [p, q, s, t], _ =>
      simp only [sq4, Bool.and_eq_true, decide_eq_true_eq, beq_iff_eq] at h4
      obtain ⟨⟨⟨⟨⟨⟨⟨⟨⟨p0, p1⟩, q0⟩, q1⟩, s0⟩, s1⟩, t0⟩, t1⟩, hsum⟩, hfit⟩ := h4
      obtain ⟨a, rfl⟩ := Int.eq_ofNat_of_zero_le p0
      obtain ⟨b, rfl⟩ := Int.eq_ofNat_of_zero_le q0
      obtain ⟨c, rfl⟩ := Int.eq_ofNat_of_zero_le s0
      obtain ⟨d, rfl⟩ := Int.eq_ofNat_of_zero_le t0
      refine ⟨a, b, c, d, rfl, by exact_mod_cast hsum, by omega, by omega, by omega, by omega, fun hf => ?_⟩
      rw [show [(a : Int), (b : Int), (c : Int), (d : Int)].length = 4 from rfl, hf] at hfit
      rw [Bool.not_true, Bool.false_or] at hfit
      exact subF_some hfit
theorem three_facts {n r : Nat} (h1 : 1 ≤ n) (h2 : n ≤ 577) (hr : r * r ≤ n ∧ n < (r + 1) * (r + 1)) (l : List Int) (hs : sqF 3 n r = some l) :
    l.length = 3 ∧ (fitB l 3 = true → (subF ws12 n).isSome = true) := by
  have h := okN_of h1 h2
  rw [okN_root h1 h2 hr] at hs
  unfold okN at h
  simp only [Bool.and_eq_true] at h
  have h4 := h.2
  clear h
  rw [hs] at h4
  simp only [Bool.and_eq_true, decide_eq_true_eq] at h4
  obtain ⟨hlen, hfit⟩ := h4
  refine ⟨hlen, fun hf => ?_⟩
  rw [hlen, hf] at hfit
  rw [Bool.not_true, Bool.false_or] at hfit
  exact subF_some hfit
end Go.Proofs.Ythnhmfmlhlpggaa
