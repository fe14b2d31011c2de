/- What is proved: bounds, and how many messages were sent. No condition beyond those in each statement. -/
import Derived.Test.YtahjgdikjaakbaaPb
namespace Go.Proofs.Ytahjgdikjaakbaa

def sumN (f : Nat → Nat) : Nat → Nat
  | 0 => 0
  | k + 1 => sumN f k + f k
theorem sumN_congr {f g : Nat → Nat} {n : Nat} (h : ∀ i, i < n → f i = g i) : sumN f n = sumN g n := by
  induction n with
  | zero => rfl
  | succ n ih => unfold sumN; rw [ih (fun i hi => h i (by omega)), h n (by omega)]
theorem sumN_upd {f g : Nat → Nat} {n i : Nat} (hi : i < n) (h : ∀ j, j < n → j ≠ i → g j = f j) : sumN g n + f i = sumN f n + g i := by
  induction n with
  | zero => omega
  | succ n ih =>
    unfold sumN
    by_cases e : i = n
    · subst e
      have := sumN_congr (f := g) (g := f) (n := i) (fun j hj => h j (by omega) (by omega))
      omega
    · have := ih (by omega) (fun j hj hne => h j (by omega) hne)
      have := h n (by omega) (by omega)
      omega
theorem sumN_le {f : Nat → Nat} {n i : Nat} (hi : i < n) : f i ≤ sumN f n := by
  induction n with
  | zero => omega
  | succ n ih =>
    unfold sumN
    by_cases e : i = n
    · subst e; omega
    · have := ih (by omega); omega
theorem sumN_but (n i : Nat) (hi : i < n) (f : Nat → Nat) : sumN (fun b => if b ≠ i then f b + 1 else f b) n = sumN f n + (n - 1) := by
  induction n with
  | zero => omega
  | succ n ih =>
    unfold sumN
    by_cases e : i = n
    · subst e
      have : ∀ k, k ≤ i → sumN (fun b => if b ≠ i then f b + 1 else f b) k = sumN f k + k := by
        intro k hk
        induction k with
        | zero => rfl
        | succ k ih2 =>
          unfold sumN
          rw [ih2 (by omega), if_pos (by omega)]
          omega
      rw [this i (Nat.le_refl _), if_neg (by omega)]
      omega
    · rw [ih (by omega), if_pos (by omega)]
      omega
def TS.tot (t : TS) : Nat := sumN (fun a => sumN (fun b => (t.fl a b).length) t.n) t.n
theorem TS.len_le {t : TS} {i j : Nat} (hi : i < t.n) (hj : j < t.n) : (t.fl i j).length ≤ t.tot :=
  Nat.le_trans (sumN_le (f := fun b => (t.fl i b).length) hj) (sumN_le (f := fun a => sumN (fun b => (t.fl a b).length) t.n) hi)
theorem tot_upd {t t' : TS} {i j : Nat} {v : List Msg} (hn : t'.n = t.n) (hf : t'.fl = updF t.fl i j v) (hi : i < t.n) (hj : j < t.n) : t'.tot + (t.fl i j).length = t.tot + v.length := by
  unfold TS.tot
  rw [hn, hf]
  have h1 := sumN_upd (f := fun b => (t.fl i b).length) (g := fun b => (updF t.fl i j v i b).length) (n := t.n) (i := j) hj (fun b _ hne => by show (updF t.fl i j v i b).length = _; rw [updF_other (by omega)])
  have h2 := sumN_upd (f := fun a => sumN (fun b => (t.fl a b).length) t.n) (g := fun a => sumN (fun b => (updF t.fl i j v a b).length) t.n) (n := t.n) (i := i) hi (fun a _ hne => sumN_congr fun b _ => by show (updF t.fl i j v a b).length = _; rw [updF_other (by omega)])
  rw [updF_same] at h1

  omega
theorem tot_ask {t : TS} {i : Nat} (hi : i < t.n) : (t.ask i).tot = t.tot + (t.n - 1) := by
  unfold TS.tot
  have en : (t.ask i).n = t.n := rfl
  have ef : ∀ a b, (t.ask i).fl a b = if a = i ∧ b < t.n ∧ b ≠ i then t.fl a b ++ [.req (t.k i i + 1)] else t.fl a b := fun _ _ => rfl
  rw [en]
  have h2 := sumN_upd (f := fun a => sumN (fun b => (t.fl a b).length) t.n) (g := fun a => sumN (fun b => ((t.ask i).fl a b).length) t.n) (n := t.n) (i := i) hi (fun a _ hne => sumN_congr fun b _ => by show ((t.ask i).fl a b).length = _; rw [ef, if_neg (fun h => hne h.1)])
  have h1 : sumN (fun b => ((t.ask i).fl i b).length) t.n = sumN (fun b => (t.fl i b).length) t.n + (t.n - 1) := by
    rw [← sumN_but t.n i hi]
    refine sumN_congr fun b hb => ?_
    show ((t.ask i).fl i b).length = _
    rw [ef]
    by_cases e : b ≠ i
    · rw [if_pos ⟨rfl, hb, e⟩, if_pos e]; simp
    · rw [if_neg (fun h => e h.2.2), if_neg e]

  omega
/-- How great the numbers are after k acts. -/
structure Bnd (t : TS) (k : Nat) : Prop where
  s0 : 0 ≤ t.sent ∧ t.sent ≤ 6 * k
  kk : ∀ j, j < t.n → t.k j j ≤ k
  tt : (t.tot : Int) ≤ t.sent
theorem Bnd.mono {t : TS} {k k' : Nat} (h : Bnd t k) (hk : k ≤ k') : Bnd t k' := ⟨by have := h.s0; omega, fun j hj => by have := h.kk j hj; omega, h.tt⟩
theorem Bnd.made {n h : Nat} : Bnd (TS.made n h) 0 := by
  refine ⟨⟨Int.le_refl _, Int.le_refl _⟩, fun j hj => ?_, ?_⟩
  · unfold TS.k
    have hj : j < n := hj
    simp only [TS.made, List.getD_eq_getElem?_getD, List.getElem?_replicate, if_pos hj, Option.getD_some]
    simp
  · have : (TS.made n h).tot = 0 := by
      unfold TS.tot
      have : ∀ k, sumN (fun _ => 0) k = 0 := fun k => by
        induction k with
        | zero => rfl
        | succ k ih => unfold sumN; rw [ih]
      show sumN (fun _ => sumN (fun _ => 0) n) n = 0
      rw [this, this]
    rw [this]
    exact Int.le_refl _
theorem Bnd.hold {t : TS} {k : Nat} (h : Bnd t k) (i : Nat) : Bnd (t.hold i) k := ⟨h.s0, h.kk, h.tt⟩
theorem Bnd.ask {t : TS} {k : Nat} (I : Inv t) (h : Bnd t k) {i : Nat} (hi : i < t.n) : Bnd (t.ask i) (k + 1) := by
  have ek : ∀ a b, (t.ask i).k a b = if i = a ∧ i = b then t.k i i + 1 else t.k a b := fun a b => getD_setK2 _ _ _ I.lk I.lki hi hi
  have es : (t.ask i).sent = t.sent + (t.n - 1) := rfl
  have h1 := I.hn
  have h2 := h.s0
  have h3 := h.tt
  have h4 := tot_ask hi
  refine ⟨by rw [es]; omega, fun j hj => ?_, by rw [es]; omega⟩
  have h5 := h.kk j hj
  rw [ek]
  split
  · rename_i e; obtain ⟨rfl, _⟩ := e; omega
  · omega
theorem Bnd.give {t : TS} {k : Nat} (h : Bnd t k) {a b : Nat} (ha : a < t.n) (hb : b < t.n) : Bnd (t.give a b) (k + 1) := by
  have h4 := tot_upd (t := t) (t' := t.give a b) (v := t.fl a b ++ [.tok]) rfl rfl ha hb
  have h2 := h.s0
  have h3 := h.tt
  have es : (t.give a b).sent = t.sent + 1 := rfl
  rw [List.length_append, List.length_singleton] at h4
  exact ⟨by rw [es]; omega, fun j hj => by have := h.kk j hj; show t.k j j ≤ _; omega, by rw [es]; omega⟩
theorem Bnd.leave {t : TS} {k : Nat} (I : Inv t) (h : Bnd t k) {i : Nat} (hi : i < t.n) (hm : t.m i = 2) : Bnd (t.leave i) (k + 1) := by
  have h0 : Bnd (t.left i) k := ⟨h.s0, h.kk, h.tt⟩
  obtain ⟨i0, _, hh0, _⟩ := I.left hi hm
  unfold TS.leave
  split
  · exact h0.mono (by omega)
  · rename_i x r eq
    obtain ⟨b, e, hb, _⟩ := i0.qm x (by rw [eq]; exact List.mem_cons_self ..)
    subst e
    rw [Int.toNat_natCast]
    have h1 : Bnd ((t.left i).qpop r) k := ⟨h.s0, h.kk, h.tt⟩
    exact h1.give hi hb
theorem Bnd.deliver {t : TS} {k : Nat} (I : Inv t) (h : Bnd t k) {i j : Nat} (hi : i < t.n) (hj : j < t.n) : Bnd (t.deliver i j) (k + 1) := by
  have h2 := h.s0
  have h3 := h.tt
  unfold TS.deliver
  split
  · exact h.mono (by omega)
  · rename_i no xs hf
    have ek : ∀ c d, (t.learn i j no xs).k c d = if j = c ∧ i = d then max (t.k j i) no else t.k c d := fun a b => getD_setK2 _ _ _ I.lk I.lki hj hi
    have hij : i ≠ j := by rintro rfl; rw [I.fi i hi] at hf; cases hf
    have h4 := tot_upd (t := t) (t' := t.learn i j no xs) (v := xs) rfl rfl hi hj
    rw [hf, List.length_cons] at h4
    have h1 : Bnd (t.learn i j no xs) k := by
      refine ⟨h.s0, fun c hc => ?_, ?_⟩
      · rw [ek, if_neg (by rintro ⟨rfl, h2⟩; exact hij h2)]; exact h.kk c hc
      · show ((t.learn i j no xs).tot : Int) ≤ t.sent
        omega
    split
    · exact h1.give hj hi
    · exact h1.mono (by omega)
  · rename_i xs hf
    have h4 := tot_upd (t := t) (t' := t.gets i j xs) (v := xs) rfl rfl hi hj
    rw [hf, List.length_cons] at h4
    have h1 : Bnd (t.gets i j xs) k := ⟨h.s0, h.kk, by show ((t.gets i j xs).tot : Int) ≤ t.sent; omega⟩
    exact h1.mono (by omega)
/-- How many messages were sent, by how many wanted. -/
def Cnt (t : TS) (w : Nat) : Prop := t.sent + (t.mood.count 1 : Nat) = t.n * w + (if t.holder = -1 then 1 else 0)
theorem cnt_set {l : List Int} {i : Nat} (hi : i < l.length) (v : Int) : ((l.set i v).count 1 : Int) = l.count 1 - (if l.getD i 0 = 1 then 1 else 0) + (if v = 1 then 1 else 0) := by
  have h1 := List.count_set (a := v) (b := 1) (l := l) (i := i) hi
  have hg : l.getD i 0 = l[i] := by simp [List.getD_eq_getElem?_getD, hi]
  rw [hg]
  by_cases e : l[i] = 1
  · have : 0 < l.count 1 := List.count_pos_iff.2 (by rw [← e]; exact List.getElem_mem hi)
    rw [if_pos e]
    simp only [e, beq_self_eq_true, if_true] at h1
    rw [h1]
    by_cases e2 : v = 1
    · simp [e2]; omega
    · simp [e2]; omega
  · rw [if_neg e]
    simp only [beq_iff_eq, e, if_false] at h1
    rw [h1]
    by_cases e2 : v = 1
    · simp [e2]
    · simp [e2]
theorem Cnt.made {n h : Nat} : Cnt (TS.made n h) 0 := by
  unfold Cnt
  have e : ¬ ((TS.made n h).holder = -1) := by show ¬ ((h : Int) = -1); omega
  rw [if_neg e]
  show (0 : Int) + ((List.replicate n (0 : Int)).count 1 : Nat) = n * (0 : Nat) + 0
  rw [List.count_replicate]
  simp
theorem Cnt.hold {t : TS} {w : Nat} (I : Inv t) (h : Cnt t w) {i : Nat} (hi : i < t.n) (hm : t.m i = 0) : Cnt (t.hold i) w := by
  unfold Cnt at h ⊢
  have h1 := cnt_set (l := t.mood) (i := i) (by rw [I.lm]; exact hi) 2
  have hm : t.mood.getD i 0 = 0 := hm
  rw [hm] at h1
  show t.sent + ((t.mood.set i 2).count 1 : Nat) = t.n * w + if t.holder = -1 then 1 else 0
  rw [h1]
  simpa using h
theorem Cnt.ask {t : TS} {w : Nat} (I : Inv t) (h : Cnt t w) {i : Nat} (hi : i < t.n) (hm : t.m i = 0) : Cnt (t.ask i) (w + 1) := by
  unfold Cnt at h ⊢
  have h1 := cnt_set (l := t.mood) (i := i) (by rw [I.lm]; exact hi) 1
  have hm : t.mood.getD i 0 = 0 := hm
  rw [hm] at h1
  simp only [if_true, show ¬ ((0 : Int) = 1) by omega, if_false] at h1
  show t.sent + (t.n - 1) + ((t.mood.set i 1).count 1 : Nat) = t.n * (w + 1 : Nat) + if t.holder = -1 then 1 else 0
  have h2 := I.hn
  rw [h1, show ((w + 1 : Nat) : Int) = w + 1 by omega, Int.mul_add]
  omega
theorem Cnt.give {t : TS} {w : Nat} (h : Cnt t w) {a b : Nat} (hh : t.holder = a) : Cnt (t.give a b) w := by
  unfold Cnt at h ⊢
  rw [if_neg (by omega)] at h
  show t.sent + 1 + (t.mood.count 1 : Nat) = t.n * w + if (-1 : Int) = -1 then 1 else 0
  rw [if_pos rfl]
  omega
theorem Cnt.leave {t : TS} {w : Nat} (I : Inv t) (h : Cnt t w) {i : Nat} (hi : i < t.n) (hm : t.m i = 2) : Cnt (t.leave i) w := by
  have h0 : Cnt (t.left i) w := by
    unfold Cnt at h ⊢
    have h1 := cnt_set (l := t.mood) (i := i) (by rw [I.lm]; exact hi) 0
    have hm : t.mood.getD i 0 = 2 := hm
    rw [hm] at h1
    show t.sent + ((t.mood.set i 0).count 1 : Nat) = t.n * w + if t.holder = -1 then 1 else 0
    rw [h1]
    simpa using h
  obtain ⟨_, _, hh0, _⟩ := I.left hi hm
  unfold TS.leave
  split
  · exact h0
  · rename_i x r eq
    have h1 : Cnt ((t.left i).qpop r) w := h0
    exact h1.give hh0
theorem Cnt.deliver {t : TS} {w : Nat} (I : Inv t) (h : Cnt t w) {i j : Nat} (hi : i < t.n) (hj : j < t.n) : Cnt (t.deliver i j) w := by
  unfold TS.deliver
  split
  · exact h
  · rename_i no xs hf
    have h1 : Cnt (t.learn i j no xs) w := h
    split
    · rename_i hc
      exact h1.give hc.1
    · exact h1
  · rename_i xs hf
    have hho : t.holder = -1 := by
      by_cases e : t.holder = -1
      · exact e
      · exact absurd (by rw [hf]; exact List.mem_cons_self ..) (I.tk0 e i j hi hj)
    obtain ⟨a, b, ha, hb, h3, h4, h5, h6⟩ := I.tk hho
    have hab : i = a ∧ j = b := by
      by_cases e : i = a ∧ j = b
      · exact e
      · exact absurd (by rw [hf]; exact List.mem_cons_self ..) (h6 i j hi hj e)
    obtain ⟨rfl, rfl⟩ := hab
    unfold Cnt at h ⊢
    have h1 := cnt_set (l := t.mood) (i := j) (by rw [I.lm]; exact hj) 2
    have h3 : t.mood.getD j 0 = 1 := h3
    rw [h3] at h1
    rw [if_pos hho] at h
    simp only [if_true, show ¬ ((2 : Int) = 1) by omega, if_false] at h1
    show t.sent + ((t.mood.set j 2).count 1 : Nat) = t.n * w + if (j : Int) = -1 then 1 else 0
    rw [if_neg (by omega), h1]
    omega
theorem Cnt.few {t : TS} {w : Nat} (I : Inv t) (h : Cnt t w) : t.sent ≤ t.n * w := by
  unfold Cnt at h
  split at h
  · rename_i e
    obtain ⟨a, b, ha, hb, h3, _⟩ := I.tk e
    have h3 : t.mood.getD b 0 = 1 := h3
    have hl : b < t.mood.length := by rw [I.lm]; exact hb
    have : 0 < t.mood.count 1 := List.count_pos_iff.2 (by
      rw [List.getD_eq_getElem?_getD, List.getElem?_eq_getElem hl, Option.getD_some] at h3
      rw [← h3]; exact List.getElem_mem hl)
    omega
  · omega
end Go.Proofs.Ytahjgdikjaakbaa
