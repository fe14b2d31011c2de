/- What is proved: the reference's test for a completed clique is the program's. No condition beyond those in each statement. -/
import Derived.Test.YtplafgmceggcnaaW
namespace Go.Proofs.Ytplafgmceggcnaa
open Go.RowKit

def castL (l : List Nat) : List Int := l.map fun v : Nat => (v : Int)
theorem anyFrom_congr {g h : Nat → Bool} : ∀ (m v : Nat), (∀ x, v ≤ x → x < v + m → g x = h x) → anyFrom g m v = anyFrom h m v
  | 0, _, _ => rfl
  | m + 1, v, e => by
    unfold anyFrom
    rw [e v (Nat.le_refl _) (by omega), anyFrom_congr m (v + 1) fun x h1 h2 => e x (by omega) (by omega)]
theorem anyTail_range (f : Int → List Int → Bool) (c : Nat → Bool) : ∀ (d fr : Nat),
    anyTail f (castL ((List.range' fr d).filter c)) = anyFrom (fun v => c v && f v (castL ((List.range' (v + 1) (fr + d - (v + 1))).filter c))) d fr := by
  intro d
  induction d with
  | zero => intro fr; rfl
  | succ d ih =>
    intro fr
    rw [List.range'_succ]
    unfold anyFrom
    have e : fr + (d + 1) - (fr + 1) = d := by omega
    have e2 : ∀ v, fr + 1 + d - (v + 1) = fr + (d + 1) - (v + 1) := fun v => by omega
    have := ih (fr + 1)
    simp only [e2] at this
    rw [e, ← this]
    cases hc : c fr
    · rw [List.filter_cons_of_neg (by simp [hc])]; rfl
    · rw [List.filter_cons_of_pos (by simp [hc])]; rfl
theorem castL_filter (l : List Nat) (p : Int → Bool) : (castL l).filter p = castL (l.filter fun v : Nat => p (v : Int)) := by
  unfold castL
  rw [List.filter_map]; rfl
theorem atZ_comm (n u v : Int) : atZ n u v = atZ n v u := by unfold atZ; rw [Int.min_comm, Int.max_comm]
theorem fitB_snoc (n : Nat) (cs : List Int) (color : Int) (cl : List Int) (v u : Nat) (h : u ≠ v) : fitB n cs color (cl ++ [(v : Int)]) u = (fitB n cs color cl u && knB n cs color v u) := by
  have hne : ((u : Int) == (v : Int)) = false := by rw [beq_eq_false_iff_ne]; omega
  unfold fitB knB
  rw [List.any_append, List.all_append]
  simp only [List.any_cons, List.any_nil, List.all_cons, List.all_nil, hne, Bool.or_false, Bool.and_true, Bool.and_assoc]
theorem joinedF_within (n : Nat) (cs : List Int) (color : Int) : ∀ (m : Nat) (cl : List Int) (fr : Nat),
    joinedF n (fitB n cs color) m cl fr = withinF (knB n cs color) m (castL ((List.range' fr (n - fr)).filter (fitB n cs color cl))) := by
  intro m
  induction m with
  | zero => intro cl fr; rfl
  | succ m ih =>
    intro cl fr
    show anyFrom _ _ _ = anyTail _ _
    rw [anyTail_range]
    refine anyFrom_congr _ _ fun v h1 h2 => ?_
    rw [ih, castL_filter, List.filter_filter]
    congr 2
    rw [show fr + (n - fr) - (v + 1) = n - (v + 1) by omega]
    congr 1
    refine List.filter_congr fun u hu => ?_
    rw [List.mem_range'_1] at hu
    rw [fitB_snoc n cs color cl v u (by omega), Bool.and_comm]
theorem goodW_closed (n : Nat) (hn : n ≤ 8) (k l : Int) (cs : List Int) (h1 : 1 ≤ cs.length) (h2 : cs.length ≤ npairs n) : goodW n k l cs = !closedF n k l cs := by
  have hen := endsOf_len n hn
  have he := endAt_of n hn (cs.length - 1) (by omega)
  unfold goodW closedF
  rw [he, joinedF_within]
  congr 2
  unfold ints
  rw [show ((List.range n).map fun v : Nat => (v : Int)) = castL (List.range n) from rfl, castL_filter, List.range_eq_range', Nat.sub_zero]
  congr 1
  refine List.filter_congr fun u _ => ?_
  unfold fitB commonB knB
  simp only [List.any_cons, List.any_nil, List.all_cons, List.all_nil, Bool.or_false, Bool.and_true, atZ_comm (n : Int) _ (u : Int), Bool.not_or, bne, Bool.and_assoc]

theorem leaves_congr {below : Nat} {g h : List Int → Bool} (N : Nat) (e : ∀ xs : List Int, 1 ≤ xs.length → xs.length ≤ N → g xs = h xs) : ∀ (f : Nat) (l : List Int), l.length + f ≤ N → leaves below g f l = leaves below h f l := by
  intro f
  induction f with
  | zero => intro l _; rfl
  | succ f ih =>
    intro l hl
    have e1 : ∀ c : Nat, (l ++ [(c : Int)]).length = l.length + 1 := fun c => by simp
    unfold leaves
    congr 1
    funext c
    rw [e _ (by rw [e1]; omega) (by rw [e1]; omega), ih _ (by rw [e1]; omega)]
theorem ref_avoid (n : Nat) (hn : n ≤ 8) (k l : Int) : refS 2 (badA n k l) (npairs n) [] = (avoidL n k l).head? := by
  rw [refS_leaves _ _ _ _ rfl]
  unfold avoidL
  rw [leaves_congr (npairs n) (fun xs h1 h2 => ?_) _ _ (by simp)]
  rw [goodW_closed n hn k l xs h1 h2]
  cases xs with
  | nil => simp at h1
  | cons => simp [badA]

/-- The reference's count is the number of the colorings. -/
theorem refC_leaves (bad : List Int → Bool) : ∀ (f : Nat) (l : List Int), bad l = false → refC bad f l = (leaves 2 (fun l => !bad l) f l).length := by
  intro f
  induction f with
  | zero => intro l h; rw [refC_zero h]; rfl
  | succ f ih =>
    intro l h
    rw [refC_succ h, leaves_succ, leavesFrom_step (by omega), leavesFrom_step (by omega), leavesFrom_end (by omega), List.append_nil, List.length_append]
    have key : ∀ x : Int, refC bad f (l ++ [x]) = (if (!bad (l ++ [x])) = true then leaves 2 (fun l => !bad l) f (l ++ [x]) else []).length := by
      intro x
      cases hb : bad (l ++ [x])
      · rw [if_pos (by simp), ih _ hb]
      · rw [if_neg (by simp), refC_bad hb]; rfl
    rw [key, key]; rfl
theorem ref_count (n : Nat) (hn : n ≤ 8) (k l : Int) : refC (badA n k l) (npairs n) [] = (avoidL n k l).length := by
  rw [refC_leaves _ _ _ rfl]
  unfold avoidL
  rw [leaves_congr (npairs n) (fun xs h1 h2 => ?_) _ _ (by simp)]
  rw [goodW_closed n hn k l xs h1 h2]
  cases xs with
  | nil => simp at h1
  | cons => simp [badA]
theorem ref_sumless (n r : Nat) : refS r (fun l => (sumF l).isSome) n [] = (sumlessL n r).head? := by
  rw [refS_leaves]
  · unfold sumlessL; congr 2; funext l; cases sumF l <;> rfl
  · rfl
end Go.Proofs.Ytplafgmceggcnaa
