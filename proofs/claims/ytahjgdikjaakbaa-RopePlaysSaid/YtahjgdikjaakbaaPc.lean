/- What is proved: the token of Suzuki and Kasami, without the program: its acts and what they keep. No condition beyond those in each statement. -/
import Derived.Below
namespace Go.Proofs.Ytahjgdikjaakbaa

inductive Msg where
  | req (no : Int)
  | tok
deriving DecidableEq
/-- A tower, without its memory. -/
structure TS where
  n : Nat
  mood : List Int
  known : List (List Int)
  holder : Int
  served : List Int
  queue : List Int
  fl : Nat → Nat → List Msg
  sent : Int
def TS.m (t : TS) (i : Nat) : Int := t.mood.getD i 0
def TS.k (t : TS) (i j : Nat) : Int := (t.known.getD i []).getD j 0
def TS.s (t : TS) (i : Nat) : Int := t.served.getD i 0
def updF (f : Nat → Nat → List Msg) (i j : Nat) (v : List Msg) : Nat → Nat → List Msg := fun a b => if a = i ∧ b = j then v else f a b
theorem updF_same (f : Nat → Nat → List Msg) (i j : Nat) (v : List Msg) : updF f i j v i j = v := by simp [updF]
theorem updF_other {f : Nat → Nat → List Msg} {i j a b : Nat} {v : List Msg} (h : ¬ (a = i ∧ b = j)) : updF f i j v a b = f a b := by simp [updF, h]
def setK2 (l : List (List Int)) (i j : Nat) (v : Int) : List (List Int) := l.set i ((l.getD i []).set j v)
def queG (kn sv : List Int) (q : List Int) : Nat → List Int
  | 0 => q
  | k + 1 => if kn.getD k 0 = sv.getD k 0 + 1 ∧ (k : Int) ∉ queG kn sv q k then queG kn sv q k ++ [(k : Int)] else queG kn sv q k
/-- The token goes. -/
def TS.give (t : TS) (a b : Nat) : TS := { t with holder := -1, fl := updF t.fl a b (t.fl a b ++ [.tok]), sent := t.sent + 1 }
def TS.hold (t : TS) (i : Nat) : TS := { t with mood := t.mood.set i 2 }
def TS.ask (t : TS) (i : Nat) : TS := { t with mood := t.mood.set i 1, known := setK2 t.known i i (t.k i i + 1), fl := fun a b => if a = i ∧ b < t.n ∧ b ≠ i then t.fl a b ++ [.req (t.k i i + 1)] else t.fl a b, sent := t.sent + (t.n - 1) }
def TS.left (t : TS) (i : Nat) : TS :=
  { t with mood := t.mood.set i 0, served := t.served.set i (t.k i i), queue := queG (t.known.getD i []) (t.served.set i (t.k i i)) t.queue t.n }
def TS.qpop (t : TS) (r : List Int) : TS := { t with queue := r }
def TS.leave (t : TS) (i : Nat) : TS :=
  match (t.left i).queue with
  | [] => t.left i
  | to :: r => ((t.left i).qpop r).give i to.toNat
def TS.learn (t : TS) (i j : Nat) (no : Int) (xs : List Msg) : TS := { t with known := setK2 t.known j i (max (t.k j i) no), fl := updF t.fl i j xs }
def TS.gets (t : TS) (i j : Nat) (xs : List Msg) : TS := { t with holder := j, mood := t.mood.set j 2, fl := updF t.fl i j xs }
def TS.deliver (t : TS) (i j : Nat) : TS :=
  match t.fl i j with
  | [] => t
  | .req no :: xs => if t.holder = j ∧ t.m j = 0 ∧ max (t.k j i) no = t.s i + 1 then (t.learn i j no xs).give j i else t.learn i j no xs
  | .tok :: xs => t.gets i j xs
def TS.made (n : Nat) (h : Nat) : TS := ⟨n, List.replicate n 0, List.replicate n (List.replicate n 0), h, List.replicate n 0, [], fun _ _ => [], 0⟩

theorem getD_set {α : Type} (l : List α) (i j : Nat) (v d : α) (h : i < l.length) : (l.set i v).getD j d = if i = j then v else l.getD j d := by
  by_cases e : i = j
  · subst e
    simp [List.getD_eq_getElem?_getD, h]
  · simp [List.getD_eq_getElem?_getD, List.getElem?_set_ne e, e]
theorem getD_setK2 {l : List (List Int)} {n i j : Nat} (v : Int) (a b : Nat) (hl : l.length = n) (hr : ∀ a, a < n → (l.getD a []).length = n) (hi : i < n) (hj : j < n) :
    ((setK2 l i j v).getD a []).getD b 0 = if i = a ∧ j = b then v else (l.getD a []).getD b 0 := by
  unfold setK2
  rw [getD_set _ _ _ _ _ (by omega)]
  by_cases e : i = a
  · subst e
    rw [if_pos rfl, getD_set _ _ _ _ _ (by rw [hr i hi]; exact hj)]
    by_cases e2 : j = b
    · rw [if_pos e2, if_pos ⟨rfl, e2⟩]
    · rw [if_neg e2, if_neg (fun h => e2 h.2)]
  · rw [if_neg e, if_neg (fun h => e h.1)]
theorem len_setK2 {l : List (List Int)} {n i j : Nat} (v : Int) (hl : l.length = n) (hr : ∀ a, a < n → (l.getD a []).length = n) (hi : i < n) :
    (setK2 l i j v).length = n ∧ ∀ a, a < n → ((setK2 l i j v).getD a []).length = n := by
  unfold setK2
  refine ⟨by rw [List.length_set]; exact hl, fun a ha => ?_⟩
  rw [getD_set _ _ _ _ _ (by omega)]
  split
  · rw [List.length_set]; exact hr i hi
  · exact hr a ha

/-- What all acts keep. -/
structure Inv0 (t : TS) : Prop where
  hn : 1 ≤ t.n ∧ t.n ≤ 6
  lm : t.mood.length = t.n
  lk : t.known.length = t.n
  lki : ∀ i, i < t.n → (t.known.getD i []).length = t.n
  ls : t.served.length = t.n
  hh : t.holder = -1 ∨ ∃ h : Nat, t.holder = h ∧ h < t.n
  md : ∀ i, i < t.n → t.m i = 0 ∨ t.m i = 1 ∨ t.m i = 2
  ins : ∀ i, i < t.n → t.m i = 2 → t.holder = i
  hw : ∀ i, i < t.n → t.m i = 1 → t.holder ≠ i
  kn : ∀ i j, i < t.n → j < t.n → 0 ≤ t.k i j ∧ t.k i j ≤ t.k j j
  sv0 : ∀ j, j < t.n → 0 ≤ t.s j ∧ t.s j ≤ t.k j j ∧ t.k j j ≤ t.s j + 1
  sv1 : ∀ j, j < t.n → t.m j = 0 → t.s j = t.k j j
  sv2 : ∀ j, j < t.n → t.m j = 1 → t.k j j = t.s j + 1
  qn : t.queue.Nodup
  qm : ∀ x, x ∈ t.queue → ∃ a : Nat, x = a ∧ a < t.n ∧ t.m a = 1
  tk : t.holder = -1 → ∃ a b, a < t.n ∧ b < t.n ∧ t.m b = 1 ∧ (b : Int) ∉ t.queue ∧ (t.fl a b).count .tok = 1 ∧ ∀ i j, i < t.n → j < t.n → ¬ (i = a ∧ j = b) → .tok ∉ t.fl i j
  tk0 : t.holder ≠ -1 → ∀ i j, i < t.n → j < t.n → .tok ∉ t.fl i j
  rq : ∀ i j no, i < t.n → j < t.n → .req no ∈ t.fl i j → no ≤ t.k i i
  fi : ∀ i, i < t.n → t.fl i i = []
  lv : ∀ i j, i < t.n → j < t.n → t.m j = 1 → i ≠ j → t.k i j = t.k j j ∨ .req (t.k j j) ∈ t.fl j i
/-- And what they keep besides. -/
structure Inv (t : TS) : Prop extends Inv0 t where
  li : ∀ h, h < t.n → t.holder = h → t.m h = 0 → t.queue = [] ∧ ∀ j, j < t.n → t.k h j ≤ t.s j

theorem Inv.made {n h : Nat} (hn : 1 ≤ n ∧ n ≤ 6) (hh : h < n) : Inv (TS.made n h) := by
  have e1 : ∀ i, (TS.made n h).m i = 0 := fun i => by
    simp only [TS.m, TS.made, List.getD_eq_getElem?_getD, List.getElem?_replicate]
    split <;> rfl
  have e2 : ∀ i, (TS.made n h).s i = 0 := fun i => by
    simp only [TS.s, TS.made, List.getD_eq_getElem?_getD, List.getElem?_replicate]
    split <;> rfl
  have e0 : ∀ i, i < n → (TS.made n h).known.getD i [] = List.replicate n 0 := fun i hi => by
    simp only [TS.made, List.getD_eq_getElem?_getD, List.getElem?_replicate, if_pos hi]
    rfl
  have e3 : ∀ i j, i < n → (TS.made n h).k i j = 0 := fun i j hi => by
    unfold TS.k
    rw [e0 i hi]
    simp only [List.getD_eq_getElem?_getD, List.getElem?_replicate]
    split <;> rfl
  have en : (TS.made n h).n = n := rfl
  have eh : (TS.made n h).holder = h := rfl
  have eq : (TS.made n h).queue = [] := rfl
  have ef : ∀ i j, (TS.made n h).fl i j = [] := fun _ _ => rfl
  refine ⟨⟨hn, by simp [TS.made], by simp [TS.made], ?_, by simp [TS.made], .inr ⟨h, rfl, hh⟩, fun i _ => .inl (e1 i), ?_, ?_, ?_, ?_, ?_, ?_, by simp [eq], by simp [eq], ?_, ?_, ?_, fun i _ => ef i i, ?_⟩, ?_⟩
  · intro i hi; rw [e0 i hi]; simp [en]
  · intro i _ h2; rw [e1] at h2; cases h2
  · intro i _ h2; rw [e1] at h2; cases h2
  · intro i j hi hj; rw [e3 i j hi, e3 j j hj]; omega
  · intro j hj; rw [e3 j j hj, e2]; omega
  · intro j hj _; rw [e3 j j hj, e2]
  · intro j _ h2; rw [e1] at h2; cases h2
  · intro h2; rw [eh] at h2; omega
  · intro _ i j _ _; rw [ef]; simp
  · intro i j no _ _ h2; rw [ef] at h2; cases h2
  · intro i j _ _ h2; rw [e1] at h2; cases h2
  · intro a ha _ _; exact ⟨eq, fun j hj => by rw [e3 a j ha, e2]; omega⟩
end Go.Proofs.Ytahjgdikjaakbaa

namespace Go.Proofs.Ytahjgdikjaakbaa

theorem Inv.hold {t : TS} (h : Inv t) {i : Nat} (hi : i < t.n) (hm : t.m i = 0) (hh : t.holder = i) : Inv (t.hold i) := by
  have em : ∀ a, (t.hold i).m a = if i = a then 2 else t.m a := fun a => getD_set _ _ _ _ _ (by rw [h.lm]; exact hi)
  have ek : ∀ a b, (t.hold i).k a b = t.k a b := fun _ _ => rfl
  have es : ∀ a, (t.hold i).s a = t.s a := fun _ => rfl
  have e1 : ∀ a, (t.hold i).m a = 1 → t.m a = 1 := fun a ha => by
    rw [em] at ha
    split at ha
    · cases ha
    · exact ha
  refine ⟨⟨h.hn, by show (t.mood.set i 2).length = _; rw [List.length_set]; exact h.lm, h.lk, h.lki, h.ls, h.hh, ?_, ?_, ?_, h.kn, h.sv0, ?_, ?_, h.qn, ?_, ?_, h.tk0, h.rq, h.fi, ?_⟩, ?_⟩
  · intro a ha; rw [em]; split
    · exact .inr (.inr rfl)
    · exact h.md a ha
  · intro a ha h2; rw [em] at h2; split at h2
    · rename_i e; subst e; exact hh
    · exact h.ins a ha h2
  · intro a ha h2; exact h.hw a ha (e1 a h2)
  · intro a ha h2; rw [em] at h2; split at h2
    · cases h2
    · exact h.sv1 a ha h2
  · intro a ha h2; exact h.sv2 a ha (e1 a h2)
  · intro x hx
    obtain ⟨a, e, ha, hma⟩ := h.qm x hx
    refine ⟨a, e, ha, ?_⟩
    rw [em, if_neg]
    · exact hma
    · rintro rfl; rw [hm] at hma; cases hma
  · intro h2
    have h2 : t.holder = -1 := h2
    omega
  · intro a b ha hb h2 hab; exact h.lv a b ha hb (e1 b h2) hab
  · intro a ha h2 h3
    have h2 : t.holder = a := h2
    have : a = i := by omega
    subst this
    rw [em, if_pos rfl] at h3
    cases h3
theorem Inv.ask {t : TS} (h : Inv t) {i : Nat} (hi : i < t.n) (hm : t.m i = 0) (hh : t.holder ≠ i) : Inv (t.ask i) := by
  have em : ∀ a, (t.ask i).m a = if i = a then 1 else t.m a := fun a => getD_set _ _ _ _ _ (by rw [h.lm]; exact hi)
  have ek : ∀ a b, (t.ask i).k a b = if i = a ∧ i = b then t.k i i + 1 else t.k a b := fun a b => getD_setK2 _ _ _ h.lk h.lki hi hi
  have es : ∀ a, (t.ask i).s a = t.s a := fun _ => rfl
  have ef : ∀ a b, (t.ask i).fl a b = if a = i ∧ b < t.n ∧ b ≠ i then t.fl a b ++ [.req (t.k i i + 1)] else t.fl a b := fun _ _ => rfl
  have ell := len_setK2 (i := i) (j := i) (t.k i i + 1) h.lk h.lki hi
  have etok : ∀ a b, ((t.ask i).fl a b).count .tok = (t.fl a b).count .tok := fun a b => by
    rw [ef]; split
    · simp
    · rfl
  have etm : ∀ a b, .tok ∈ (t.ask i).fl a b ↔ .tok ∈ t.fl a b := fun a b => by
    rw [ef]; split
    · simp
    · exact Iff.rfl
  have hii := h.sv1 i hi hm
  refine ⟨⟨h.hn, by show (t.mood.set i 1).length = _; rw [List.length_set]; exact h.lm, ell.1, ell.2, h.ls, h.hh, ?_, ?_, ?_, ?_, ?_, ?_, ?_, h.qn, ?_, ?_, ?_, ?_, ?_, ?_⟩, ?_⟩
  · intro a ha; rw [em]; split
    · exact .inr (.inl rfl)
    · exact h.md a ha
  · intro a ha h2; rw [em] at h2; split at h2
    · cases h2
    · exact h.ins a ha h2
  · intro a ha h2; rw [em] at h2; split at h2
    · rename_i e; subst e; exact hh
    · exact h.hw a ha h2
  · intro a b ha hb
    have h1 := h.kn a b ha hb
    rw [ek, ek]
    by_cases e : i = b
    · subst e
      by_cases e2 : i = a
      · subst e2
        simp; omega
      · rw [if_neg (fun h => e2 h.1), if_pos ⟨rfl, rfl⟩]; omega
    · rw [if_neg (fun h => e h.2), if_neg (fun h => e h.2)]; exact h1
  · intro a ha
    have h1 := h.sv0 a ha
    rw [es, ek]
    split
    · rename_i e; obtain ⟨rfl, _⟩ := e; omega
    · exact h1
  · intro a ha h2; rw [em] at h2; split at h2
    · cases h2
    · rename_i e
      rw [es, ek, if_neg (fun h => e h.1)]
      exact h.sv1 a ha h2
  · intro a ha h2; rw [em] at h2; rw [es, ek]
    split at h2
    · rename_i e; subst e; rw [if_pos ⟨rfl, rfl⟩]; omega
    · rename_i e; rw [if_neg (fun h => e h.1)]; exact h.sv2 a ha h2
  · intro x hx
    obtain ⟨a, e, ha, hma⟩ := h.qm x hx
    refine ⟨a, e, ha, ?_⟩
    rw [em]; split
    · rfl
    · exact hma
  · intro h2
    obtain ⟨a, b, ha, hb, h3, h4, h5, h6⟩ := h.tk h2
    refine ⟨a, b, ha, hb, ?_, h4, by rw [etok]; exact h5, fun c d hc hd hcd => by rw [etm]; exact h6 c d hc hd hcd⟩
    rw [em]; split
    · rfl
    · exact h3
  · intro h2 a b ha hb; rw [etm]; exact h.tk0 h2 a b ha hb
  · intro a b no ha hb h2
    rw [ef] at h2
    rw [ek]
    split at h2
    · rename_i e
      obtain ⟨rfl, _, _⟩ := e
      rw [if_pos ⟨rfl, rfl⟩]
      rw [List.mem_append] at h2
      rcases h2 with h2 | h2
      · have := h.rq _ _ _ ha hb h2; omega
      · simp at h2; omega
    · have := h.rq _ _ _ ha hb h2
      split
      · rename_i e; obtain ⟨rfl, _⟩ := e; omega
      · exact this
  · intro a ha
    rw [ef, if_neg (fun h => h.2.2 h.1)]
    exact h.fi a ha
  · intro a b ha hb h2 hab
    rw [em] at h2
    rw [ek, ek, ef]
    by_cases e : i = b
    · subst e
      rw [if_neg (fun h => hab h.1.symm), if_pos ⟨rfl, rfl⟩, if_pos ⟨rfl, ha, hab⟩]
      right; simp
    · rw [if_neg e] at h2
      rw [if_neg (fun h => e h.2), if_neg (fun h => e h.2), if_neg (fun h => e h.1.symm)]
      exact h.lv a b ha hb h2 hab
  · intro a ha h2 h3
    rw [em] at h3
    split at h3
    · cases h3
    · rename_i e
      obtain ⟨q1, q2⟩ := h.li a ha h2 h3
      refine ⟨q1, fun j hj => ?_⟩
      rw [ek, es, if_neg (fun h => e h.1)]
      exact q2 j hj
/-- The token goes to someone who waits. -/
theorem Inv0.give {t : TS} (h : Inv0 t) {a b : Nat} (ha : a < t.n) (hb : b < t.n) (hh : t.holder = a) (hm : t.m a = 0) (hmb : t.m b = 1) (hq : (b : Int) ∉ t.queue) : Inv (t.give a b) := by
  have hne : t.holder ≠ -1 := by omega
  have h0 := h.tk0 hne
  have em : ∀ c, (t.give a b).m c = t.m c := fun _ => rfl
  have ek : ∀ c d, (t.give a b).k c d = t.k c d := fun _ _ => rfl
  have ef : ∀ c d, (t.give a b).fl c d = if c = a ∧ d = b then t.fl a b ++ [.tok] else t.fl c d := fun _ _ => rfl
  have hab : a ≠ b := by rintro rfl; rw [hm] at hmb; cases hmb
  refine ⟨⟨h.hn, h.lm, h.lk, h.lki, h.ls, .inl rfl, h.md, ?_, ?_, h.kn, h.sv0, h.sv1, h.sv2, h.qn, h.qm, ?_, ?_, ?_, ?_, ?_⟩, ?_⟩
  · intro c hc h2
    have h3 := h.ins c hc h2
    have : c = a := by omega
    subst this
    have h2 : t.m c = 2 := h2
    rw [hm] at h2; cases h2
  · intro c _ _ h2
    have h2 : (-1 : Int) = c := h2
    omega
  · intro _
    refine ⟨a, b, ha, hb, hmb, hq, ?_, ?_⟩
    · rw [ef, if_pos ⟨rfl, rfl⟩, List.count_append, List.count_eq_zero_of_not_mem (h0 a b ha hb)]
      rfl
    · intro c d hc hd hcd
      rw [ef, if_neg hcd]
      exact h0 c d hc hd
  · intro h2; exact absurd rfl h2
  · intro c d no hc hd h2
    rw [ef] at h2
    split at h2
    · rename_i e
      obtain ⟨rfl, rfl⟩ := e
      rw [List.mem_append] at h2
      rcases h2 with h2 | h2
      · exact h.rq _ _ _ hc hd h2
      · simp at h2
    · exact h.rq _ _ _ hc hd h2
  · intro c hc
    rw [ef, if_neg (by rintro ⟨rfl, h2⟩; exact hab h2)]
    exact h.fi c hc
  · intro c d hc hd h2 hcd
    rw [ek, ek, ef]
    rcases h.lv c d hc hd h2 hcd with h3 | h3
    · exact .inl h3
    · right
      split
      · rename_i e; obtain ⟨rfl, rfl⟩ := e; rw [List.mem_append]; exact .inl h3
      · exact h3
  · intro c hc h2
    have h2 : (-1 : Int) = c := h2
    omega
theorem queG_mem (kn sv q : List Int) (k : Nat) : ∀ x, x ∈ queG kn sv q k ↔ x ∈ q ∨ ∃ a : Nat, a < k ∧ x = a ∧ kn.getD a 0 = sv.getD a 0 + 1 := by
  induction k with
  | zero =>
    intro x
    exact ⟨.inl, fun h => h.elim id fun ⟨a, h, _⟩ => absurd h (Nat.not_lt_zero a)⟩
  | succ k ih =>
    intro x
    unfold queG
    split
    · rename_i e
      rw [List.mem_append, ih, List.mem_singleton]
      constructor
      · rintro ((h | ⟨a, h1, h2, h3⟩) | rfl)
        · exact .inl h
        · exact .inr ⟨a, by omega, h2, h3⟩
        · exact .inr ⟨k, by omega, rfl, e.1⟩
      · rintro (h | ⟨a, h1, h2, h3⟩)
        · exact .inl (.inl h)
        · by_cases ea : a = k
          · subst ea; exact .inr h2
          · exact .inl (.inr ⟨a, by omega, h2, h3⟩)
    · rename_i e
      rw [ih]
      constructor
      · rintro (h | ⟨a, h1, h2, h3⟩)
        · exact .inl h
        · exact .inr ⟨a, by omega, h2, h3⟩
      · rintro (h | ⟨a, h1, h2, h3⟩)
        · exact .inl h
        · by_cases ea : a = k
          · subst ea
            have : (a : Int) ∈ queG kn sv q a := by
              by_cases h4 : (a : Int) ∈ queG kn sv q a
              · exact h4
              · exact absurd ⟨h3, h4⟩ e
            rw [h2]
            exact (ih _).1 this
          · exact .inr ⟨a, by omega, h2, h3⟩
theorem queG_nodup (kn sv q : List Int) (k : Nat) (h : q.Nodup) : (queG kn sv q k).Nodup := by
  induction k with
  | zero => exact h
  | succ k ih =>
    unfold queG
    split
    · rename_i e
      rw [List.nodup_append]
      refine ⟨ih, by simp, ?_⟩
      intro a ha b hb
      rw [List.mem_singleton] at hb
      subst hb
      rintro rfl
      exact e.2 ha
    · exact ih
/-- Someone has left; the token is still here. -/
theorem Inv.left {t : TS} (h : Inv t) {i : Nat} (hi : i < t.n) (hm : t.m i = 2) : Inv0 (t.left i) ∧ (t.left i).m i = 0 ∧ (t.left i).holder = i ∧ ∀ j, j < t.n → (t.left i).k i j = (t.left i).s j + 1 → (j : Int) ∈ (t.left i).queue := by
  have hh := h.ins i hi hm
  have em : ∀ a, (t.left i).m a = if i = a then 0 else t.m a := fun a => getD_set _ _ _ _ _ (by rw [h.lm]; exact hi)
  have ek : ∀ a b, (t.left i).k a b = t.k a b := fun _ _ => rfl
  have es : ∀ a, (t.left i).s a = if i = a then t.k i i else t.s a := fun a => getD_set _ _ _ _ _ (by rw [h.ls]; exact hi)
  have ef : ∀ a b, (t.left i).fl a b = t.fl a b := fun _ _ => rfl
  have eq : ∀ x, x ∈ (t.left i).queue ↔ x ∈ t.queue ∨ ∃ a : Nat, a < t.n ∧ x = a ∧ t.k i a = (t.left i).s a + 1 := fun x => queG_mem _ _ _ _ x
  have hne : t.holder ≠ -1 := by omega
  have hm1 : ∀ a, a < t.n → t.k i a = (t.left i).s a + 1 → t.m a = 1 ∧ i ≠ a := by
    intro a ha h2
    rw [es] at h2
    split at h2
    · rename_i e; subst e; omega
    · rename_i e
      have h3 := h.kn i a hi ha
      have h4 := h.sv0 a ha
      refine ⟨?_, e⟩
      rcases h.md a ha with h5 | h5 | h5
      · have := h.sv1 a ha h5; omega
      · exact h5
      · have := h.ins a ha h5; omega
  refine ⟨⟨h.hn, by show (t.mood.set i 0).length = _; rw [List.length_set]; exact h.lm, h.lk, h.lki, by show (t.served.set i _).length = _; rw [List.length_set]; exact h.ls, h.hh, ?_, ?_, ?_, h.kn, ?_, ?_, ?_, ?_, ?_, ?_, h.tk0, h.rq, h.fi, ?_⟩, by rw [em, if_pos rfl], hh, ?_⟩
  · intro a ha; rw [em]; split
    · exact .inl rfl
    · exact h.md a ha
  · intro a ha h2; rw [em] at h2; split at h2
    · cases h2
    · exact h.ins a ha h2
  · intro a ha h2; rw [em] at h2; split at h2
    · cases h2
    · exact h.hw a ha h2
  · intro a ha
    rw [ek, es]
    split
    · rename_i e; subst e; have := h.kn i i hi hi; omega
    · exact h.sv0 a ha
  · intro a ha h2
    rw [em] at h2
    rw [ek, es]
    split at h2
    · rename_i e; subst e; rw [if_pos rfl]
    · rename_i e; rw [if_neg e]; exact h.sv1 a ha h2
  · intro a ha h2
    rw [em] at h2
    rw [ek, es]
    split at h2
    · cases h2
    · rename_i e; rw [if_neg e]; exact h.sv2 a ha h2
  · exact queG_nodup _ _ _ _ h.qn
  · intro x hx
    rcases (eq x).1 hx with h2 | ⟨a, ha, e, h2⟩
    · obtain ⟨a, e, ha, hma⟩ := h.qm x h2
      refine ⟨a, e, ha, ?_⟩
      rw [em, if_neg (by rintro rfl; rw [hm] at hma; cases hma)]
      exact hma
    · obtain ⟨h3, h4⟩ := hm1 a ha h2
      exact ⟨a, e, ha, by rw [em, if_neg h4]; exact h3⟩
  · intro h2; exact absurd h2 hne
  · intro a b ha hb h2 hab
    rw [em] at h2
    split at h2
    · cases h2
    · exact h.lv a b ha hb h2 hab
  · intro j hj h2
    exact (eq j).2 (.inr ⟨j, hj, rfl, h2⟩)
theorem Inv0.qpop {t : TS} (h : Inv0 t) {x : Int} {r : List Int} (hq : t.queue = x :: r) (hne : t.holder ≠ -1) : Inv0 (t.qpop r) ∧ x ∉ r := by
  have hnd := h.qn
  rw [hq, List.nodup_cons] at hnd
  refine ⟨⟨h.hn, h.lm, h.lk, h.lki, h.ls, h.hh, h.md, h.ins, h.hw, h.kn, h.sv0, h.sv1, h.sv2, hnd.2, ?_, fun h2 => absurd h2 hne, h.tk0, h.rq, h.fi, h.lv⟩, hnd.1⟩
  intro y hy
  exact h.qm y (by rw [hq]; exact List.mem_cons_of_mem _ hy)
theorem Inv.leave {t : TS} (h : Inv t) {i : Nat} (hi : i < t.n) (hm : t.m i = 2) : Inv (t.leave i) := by
  obtain ⟨h0, hm0, hh0, hq0⟩ := h.left hi hm
  unfold TS.leave
  split
  · rename_i eq
    refine ⟨h0, ?_⟩
    intro a ha h2 _
    have h2 : (t.left i).holder = a := h2
    rw [hh0] at h2
    have : a = i := by omega
    subst this
    refine ⟨eq, fun j hj => ?_⟩
    have h3 := h0.kn a j ha hj
    have h4 := h0.sv0 j hj
    have h5 := hq0 j hj
    rw [eq] at h5
    by_cases e : (t.left a).k a j = (t.left a).s j + 1
    · have := h5 e; cases this
    · omega
  · rename_i x r eq
    obtain ⟨h1, hx⟩ := h0.qpop eq (by rw [hh0]; omega)
    obtain ⟨b, e, hb, hmb⟩ := h0.qm x (by rw [eq]; exact List.mem_cons_self ..)
    subst e
    rw [Int.toNat_natCast]
    exact h1.give hi hb hh0 hm0 hmb hx
theorem Inv.gets {t : TS} (h : Inv t) {i j : Nat} {xs : List Msg} (hi : i < t.n) (hj : j < t.n) (hf : t.fl i j = .tok :: xs) : Inv (t.gets i j xs) := by
  have hho : t.holder = -1 := by
    by_cases e : t.holder = -1
    · exact e
    · exact absurd (by rw [hf]; exact List.mem_cons_self ..) (h.tk0 e i j hi hj)
  obtain ⟨a, b, ha, hb, h3, h4, h5, h6⟩ := h.tk hho
  have hab : i = a ∧ j = b := by
    by_cases e : i = a ∧ j = b
    · exact e
    · exact absurd (by rw [hf]; exact List.mem_cons_self ..) (h6 i j hi hj e)
  obtain ⟨rfl, rfl⟩ := hab
  rw [hf] at h5
  have hxs : Msg.tok ∉ xs := by
    intro hmem
    have := List.count_pos_iff.2 hmem
    simp at h5
    omega
  have hij : i ≠ j := by rintro rfl; rw [h.fi i hi] at hf; cases hf
  have em : ∀ c, (t.gets i j xs).m c = if j = c then 2 else t.m c := fun a => getD_set _ _ _ _ _ (by rw [h.lm]; exact hj)
  have ek : ∀ c d, (t.gets i j xs).k c d = t.k c d := fun _ _ => rfl
  have es : ∀ c, (t.gets i j xs).s c = t.s c := fun _ => rfl
  have ef : ∀ c d, (t.gets i j xs).fl c d = if c = i ∧ d = j then xs else t.fl c d := fun _ _ => rfl
  have eh : (t.gets i j xs).holder = j := rfl
  refine ⟨⟨h.hn, by show (t.mood.set j 2).length = _; rw [List.length_set]; exact h.lm, h.lk, h.lki, h.ls, .inr ⟨j, rfl, hj⟩, ?_, ?_, ?_, h.kn, h.sv0, ?_, ?_, h.qn, ?_, ?_, ?_, ?_, ?_, ?_⟩, ?_⟩
  · intro c hc; rw [em]; split
    · exact .inr (.inr rfl)
    · exact h.md c hc
  · intro c hc h2; rw [em] at h2; split at h2
    · rename_i e; subst e; rfl
    · have := h.ins c hc h2; omega
  · intro c hc h2; rw [em] at h2; rw [eh]; split at h2
    · cases h2
    · omega
  · intro c hc h2; rw [em] at h2; split at h2
    · cases h2
    · exact h.sv1 c hc h2
  · intro c hc h2; rw [em] at h2; split at h2
    · cases h2
    · exact h.sv2 c hc h2
  · intro x hx
    obtain ⟨c, e, hc, hmc⟩ := h.qm x hx
    refine ⟨c, e, hc, ?_⟩
    rw [em, if_neg]
    · exact hmc
    · rintro rfl; rw [e] at hx; exact h4 hx
  · intro h2; rw [eh] at h2; omega
  · intro _ c d hc hd
    rw [ef]; split
    · exact hxs
    · rename_i e; exact h6 c d hc hd e
  · intro c d no hc hd h2
    rw [ef] at h2
    split at h2
    · rename_i e; obtain ⟨rfl, rfl⟩ := e
      exact h.rq _ _ _ hc hd (by rw [hf]; exact List.mem_cons_of_mem _ h2)
    · exact h.rq _ _ _ hc hd h2
  · intro c hc
    rw [ef, if_neg (by rintro ⟨rfl, h2⟩; exact hij h2)]
    exact h.fi c hc
  · intro c d hc hd h2 hcd
    rw [em] at h2
    rw [ek, ek, ef]
    split at h2
    · cases h2
    · rcases h.lv c d hc hd h2 hcd with h7 | h7
      · exact .inl h7
      · right
        split
        · rename_i e2; obtain ⟨rfl, rfl⟩ := e2
          rw [hf] at h7
          simpa using h7
        · exact h7
  · intro c hc h2 h7
    rw [eh] at h2
    rw [em, if_pos (by omega)] at h7
    cases h7
theorem Inv.learn {t : TS} (h : Inv t) {i j : Nat} {no : Int} {xs : List Msg} (hi : i < t.n) (hj : j < t.n) (hf : t.fl i j = .req no :: xs) :
    Inv0 (t.learn i j no xs) ∧ ((t.holder = j ∧ t.m j = 0 → max (t.k j i) no ≠ t.s i + 1) → Inv (t.learn i j no xs)) := by
  have hij : i ≠ j := by rintro rfl; rw [h.fi i hi] at hf; cases hf
  have hno : no ≤ t.k i i := h.rq i j no hi hj (by rw [hf]; exact List.mem_cons_self ..)
  have em : ∀ c, (t.learn i j no xs).m c = t.m c := fun _ => rfl
  have ek : ∀ c d, (t.learn i j no xs).k c d = if j = c ∧ i = d then max (t.k j i) no else t.k c d := fun a b => getD_setK2 _ _ _ h.lk h.lki hj hi
  have es : ∀ c, (t.learn i j no xs).s c = t.s c := fun _ => rfl
  have ef : ∀ c d, (t.learn i j no xs).fl c d = if c = i ∧ d = j then xs else t.fl c d := fun _ _ => rfl
  have ell := len_setK2 (max (t.k j i) no) h.lk h.lki (i := j) (j := i) hj
  have ekk : ∀ c, (t.learn i j no xs).k c c = t.k c c := fun c => by
    rw [ek, if_neg]; rintro ⟨rfl, h2⟩; exact hij h2
  have hcnt : (t.fl i j).count .tok = xs.count .tok := by rw [hf]; simp
  have I0 : Inv0 (t.learn i j no xs) := by
    refine ⟨h.hn, h.lm, ell.1, ell.2, h.ls, h.hh, h.md, h.ins, h.hw, ?_, ?_, ?_, ?_, h.qn, h.qm, ?_, ?_, ?_, ?_, ?_⟩
    · intro c d hc hd
      rw [ekk, ek]
      have h1 := h.kn c d hc hd
      split
      · rename_i e; obtain ⟨rfl, rfl⟩ := e; omega
      · exact h1
    · intro c hc; rw [ekk]; exact h.sv0 c hc
    · intro c hc h2; rw [ekk]; exact h.sv1 c hc h2
    · intro c hc h2; rw [ekk]; exact h.sv2 c hc h2
    · intro h2
      obtain ⟨a, b, ha, hb, h3, h4, h5, h6⟩ := h.tk h2
      refine ⟨a, b, ha, hb, h3, h4, ?_, fun c d hc hd hcd => ?_⟩
      · rw [ef]; split
        · rename_i e; obtain ⟨rfl, rfl⟩ := e; rw [← hcnt]; exact h5
        · exact h5
      · rw [ef]; split
        · rename_i e; obtain ⟨rfl, rfl⟩ := e
          have := h6 c d hc hd hcd
          rw [hf] at this
          simpa using this
        · exact h6 c d hc hd hcd
    · intro h2 c d hc hd
      have := h.tk0 h2 c d hc hd
      rw [ef]; split
      · rename_i e; obtain ⟨rfl, rfl⟩ := e; rw [hf] at this; simpa using this
      · exact this
    · intro c d no' hc hd h2
      rw [ekk]
      rw [ef] at h2
      split at h2
      · rename_i e; obtain ⟨rfl, rfl⟩ := e
        exact h.rq _ _ _ hc hd (by rw [hf]; exact List.mem_cons_of_mem _ h2)
      · exact h.rq _ _ _ hc hd h2
    · intro c hc
      rw [ef, if_neg (by rintro ⟨rfl, h2⟩; exact hij h2)]
      exact h.fi c hc
    · intro c d hc hd h2 hcd
      rw [ekk, ek, ef]
      rcases h.lv c d hc hd h2 hcd with h3 | h3
      · left
        split
        · rename_i e; obtain ⟨rfl, rfl⟩ := e; omega
        · exact h3
      · by_cases e : d = i ∧ c = j
        · obtain ⟨rfl, rfl⟩ := e
          rw [if_pos ⟨rfl, rfl⟩, if_pos ⟨rfl, rfl⟩]
          rw [hf] at h3
          rcases List.mem_cons.1 h3 with h4 | h4
          · left
            injection h4 with h4
            have := h.kn c d hc hd
            omega
          · exact .inr h4
        · rw [if_neg e, if_neg (fun h => e ⟨h.2.symm, h.1.symm⟩)]
          exact .inr h3
  refine ⟨I0, fun hg => ⟨I0, ?_⟩⟩
  intro c hc h2 h3
  obtain ⟨q1, q2⟩ := h.li c hc h2 h3
  refine ⟨q1, fun d hd => ?_⟩
  rw [ek, es]
  split
  · rename_i e; obtain ⟨rfl, rfl⟩ := e
    have h5 := hg ⟨h2, h3⟩
    have h6 := h.sv0 i hi
    have h7 := h.kn j i hj hi
    omega
  · exact q2 d hd
theorem Inv.deliver {t : TS} (h : Inv t) {i j : Nat} (hi : i < t.n) (hj : j < t.n) : Inv (t.deliver i j) := by
  unfold TS.deliver
  split
  · exact h
  · rename_i no xs hf
    obtain ⟨h1, h2⟩ := h.learn hi hj hf
    split
    · rename_i hc
      have hij : i ≠ j := by rintro rfl; rw [h.fi i hi] at hf; cases hf
      have hno : no ≤ t.k i i := h.rq i j no hi hj (by rw [hf]; exact List.mem_cons_self ..)
      have h3 := h.kn j i hj hi
      have h4 := h.sv0 i hi
      obtain ⟨q1, q2⟩ := h.li j hj hc.1 hc.2.1
      refine h1.give hj hi hc.1 hc.2.1 ?_ (by show (i : Int) ∉ t.queue; rw [q1]; simp)
      show t.m i = 1
      rcases h.md i hi with h5 | h5 | h5
      · have := h.sv1 i hi h5; omega
      · exact h5
      · have := h.ins i hi h5; omega
    · rename_i hc
      exact h2 (fun h3 h4 => hc ⟨h3.1, h3.2, h4⟩)
  · rename_i xs hf
    exact h.gets hi hj hf
end Go.Proofs.Ytahjgdikjaakbaa

namespace Go.Proofs.Ytahjgdikjaakbaa

def sumN (f : Nat → Nat) : Nat → Nat
  | 0 => 0
  | k + 1 => sumN f k + f k
theorem sumN_congr {f g : Nat → Nat} {n : Nat} (h : ∀ i, i < n → f i = g i) : sumN f n = sumN g n := by
  induction n with
  | zero => rfl
  | succ n ih => unfold sumN; rw [ih (fun i hi => h i (by omega)), h n (by omega)]
theorem sumN_upd {f g : Nat → Nat} {n i : Nat} (hi : i < n) (h : ∀ j, j < n → j ≠ i → g j = f j) : sumN g n + f i = sumN f n + g i := by
  induction n with
  | zero => omega
  | succ n ih =>
    unfold sumN
    by_cases e : i = n
    · subst e
      have := sumN_congr (f := g) (g := f) (n := i) (fun j hj => h j (by omega) (by omega))
      omega
    · have := ih (by omega) (fun j hj hne => h j (by omega) hne)
      have := h n (by omega) (by omega)
      omega
theorem sumN_le {f : Nat → Nat} {n i : Nat} (hi : i < n) : f i ≤ sumN f n := by
  induction n with
  | zero => omega
  | succ n ih =>
    unfold sumN
    by_cases e : i = n
    · subst e; omega
    · have := ih (by omega); omega
theorem sumN_but (n i : Nat) (hi : i < n) (f : Nat → Nat) : sumN (fun b => if b ≠ i then f b + 1 else f b) n = sumN f n + (n - 1) := by
  induction n with
  | zero => omega
  | succ n ih =>
    unfold sumN
    by_cases e : i = n
    · subst e
      have : ∀ k, k ≤ i → sumN (fun b => if b ≠ i then f b + 1 else f b) k = sumN f k + k := by
        intro k hk
        induction k with
        | zero => rfl
        | succ k ih2 =>
          unfold sumN
          rw [ih2 (by omega), if_pos (by omega)]
          omega
      rw [this i (Nat.le_refl _), if_neg (by omega)]
      omega
    · rw [ih (by omega), if_pos (by omega)]
      omega
def TS.tot (t : TS) : Nat := sumN (fun a => sumN (fun b => (t.fl a b).length) t.n) t.n
theorem TS.len_le {t : TS} {i j : Nat} (hi : i < t.n) (hj : j < t.n) : (t.fl i j).length ≤ t.tot :=
  Nat.le_trans (sumN_le (f := fun b => (t.fl i b).length) hj) (sumN_le (f := fun a => sumN (fun b => (t.fl a b).length) t.n) hi)
theorem tot_upd {t t' : TS} {i j : Nat} {v : List Msg} (hn : t'.n = t.n) (hf : t'.fl = updF t.fl i j v) (hi : i < t.n) (hj : j < t.n) : t'.tot + (t.fl i j).length = t.tot + v.length := by
  unfold TS.tot
  rw [hn, hf]
  have h1 := sumN_upd (f := fun b => (t.fl i b).length) (g := fun b => (updF t.fl i j v i b).length) (n := t.n) (i := j) hj (fun b _ hne => by show (updF t.fl i j v i b).length = _; rw [updF_other (by omega)])
  have h2 := sumN_upd (f := fun a => sumN (fun b => (t.fl a b).length) t.n) (g := fun a => sumN (fun b => (updF t.fl i j v a b).length) t.n) (n := t.n) (i := i) hi (fun a _ hne => sumN_congr fun b _ => by show (updF t.fl i j v a b).length = _; rw [updF_other (by omega)])
  rw [updF_same] at h1

  omega
theorem tot_ask {t : TS} {i : Nat} (hi : i < t.n) : (t.ask i).tot = t.tot + (t.n - 1) := by
  unfold TS.tot
  have en : (t.ask i).n = t.n := rfl
  have ef : ∀ a b, (t.ask i).fl a b = if a = i ∧ b < t.n ∧ b ≠ i then t.fl a b ++ [.req (t.k i i + 1)] else t.fl a b := fun _ _ => rfl
  rw [en]
  have h2 := sumN_upd (f := fun a => sumN (fun b => (t.fl a b).length) t.n) (g := fun a => sumN (fun b => ((t.ask i).fl a b).length) t.n) (n := t.n) (i := i) hi (fun a _ hne => sumN_congr fun b _ => by show ((t.ask i).fl a b).length = _; rw [ef, if_neg (fun h => hne h.1)])
  have h1 : sumN (fun b => ((t.ask i).fl i b).length) t.n = sumN (fun b => (t.fl i b).length) t.n + (t.n - 1) := by
    rw [← sumN_but t.n i hi]
    refine sumN_congr fun b hb => ?_
    show ((t.ask i).fl i b).length = _
    rw [ef]
    by_cases e : b ≠ i
    · rw [if_pos ⟨rfl, hb, e⟩, if_pos e]; simp
    · rw [if_neg (fun h => e h.2.2), if_neg e]

  omega
/-- How great the numbers are after k acts. -/
structure Bnd (t : TS) (k : Nat) : Prop where
  s0 : 0 ≤ t.sent ∧ t.sent ≤ 6 * k
  kk : ∀ j, j < t.n → t.k j j ≤ k
  tt : (t.tot : Int) ≤ t.sent
theorem Bnd.mono {t : TS} {k k' : Nat} (h : Bnd t k) (hk : k ≤ k') : Bnd t k' := ⟨by have := h.s0; omega, fun j hj => by have := h.kk j hj; omega, h.tt⟩
theorem Bnd.made {n h : Nat} : Bnd (TS.made n h) 0 := by
  refine ⟨⟨Int.le_refl _, Int.le_refl _⟩, fun j hj => ?_, ?_⟩
  · unfold TS.k
    have hj : j < n := hj
    simp only [TS.made, List.getD_eq_getElem?_getD, List.getElem?_replicate, if_pos hj, Option.getD_some]
    simp
  · have : (TS.made n h).tot = 0 := by
      unfold TS.tot
      have : ∀ k, sumN (fun _ => 0) k = 0 := fun k => by
        induction k with
        | zero => rfl
        | succ k ih => unfold sumN; rw [ih]
      show sumN (fun _ => sumN (fun _ => 0) n) n = 0
      rw [this, this]
    rw [this]
    exact Int.le_refl _
theorem Bnd.hold {t : TS} {k : Nat} (h : Bnd t k) (i : Nat) : Bnd (t.hold i) k := ⟨h.s0, h.kk, h.tt⟩
theorem Bnd.ask {t : TS} {k : Nat} (I : Inv t) (h : Bnd t k) {i : Nat} (hi : i < t.n) : Bnd (t.ask i) (k + 1) := by
  have ek : ∀ a b, (t.ask i).k a b = if i = a ∧ i = b then t.k i i + 1 else t.k a b := fun a b => getD_setK2 _ _ _ I.lk I.lki hi hi
  have es : (t.ask i).sent = t.sent + (t.n - 1) := rfl
  have h1 := I.hn
  have h2 := h.s0
  have h3 := h.tt
  have h4 := tot_ask hi
  refine ⟨by rw [es]; omega, fun j hj => ?_, by rw [es]; omega⟩
  have h5 := h.kk j hj
  rw [ek]
  split
  · rename_i e; obtain ⟨rfl, _⟩ := e; omega
  · omega
theorem Bnd.give {t : TS} {k : Nat} (h : Bnd t k) {a b : Nat} (ha : a < t.n) (hb : b < t.n) : Bnd (t.give a b) (k + 1) := by
  have h4 := tot_upd (t := t) (t' := t.give a b) (v := t.fl a b ++ [.tok]) rfl rfl ha hb
  have h2 := h.s0
  have h3 := h.tt
  have es : (t.give a b).sent = t.sent + 1 := rfl
  rw [List.length_append, List.length_singleton] at h4
  exact ⟨by rw [es]; omega, fun j hj => by have := h.kk j hj; show t.k j j ≤ _; omega, by rw [es]; omega⟩
theorem Bnd.leave {t : TS} {k : Nat} (I : Inv t) (h : Bnd t k) {i : Nat} (hi : i < t.n) (hm : t.m i = 2) : Bnd (t.leave i) (k + 1) := by
  have h0 : Bnd (t.left i) k := ⟨h.s0, h.kk, h.tt⟩
  obtain ⟨i0, _, hh0, _⟩ := I.left hi hm
  unfold TS.leave
  split
  · exact h0.mono (by omega)
  · rename_i x r eq
    obtain ⟨b, e, hb, _⟩ := i0.qm x (by rw [eq]; exact List.mem_cons_self ..)
    subst e
    rw [Int.toNat_natCast]
    have h1 : Bnd ((t.left i).qpop r) k := ⟨h.s0, h.kk, h.tt⟩
    exact h1.give hi hb
theorem Bnd.deliver {t : TS} {k : Nat} (I : Inv t) (h : Bnd t k) {i j : Nat} (hi : i < t.n) (hj : j < t.n) : Bnd (t.deliver i j) (k + 1) := by
  have h2 := h.s0
  have h3 := h.tt
  unfold TS.deliver
  split
  · exact h.mono (by omega)
  · rename_i no xs hf
    have ek : ∀ c d, (t.learn i j no xs).k c d = if j = c ∧ i = d then max (t.k j i) no else t.k c d := fun a b => getD_setK2 _ _ _ I.lk I.lki hj hi
    have hij : i ≠ j := by rintro rfl; rw [I.fi i hi] at hf; cases hf
    have h4 := tot_upd (t := t) (t' := t.learn i j no xs) (v := xs) rfl rfl hi hj
    rw [hf, List.length_cons] at h4
    have h1 : Bnd (t.learn i j no xs) k := by
      refine ⟨h.s0, fun c hc => ?_, ?_⟩
      · rw [ek, if_neg (by rintro ⟨rfl, h2⟩; exact hij h2)]; exact h.kk c hc
      · show ((t.learn i j no xs).tot : Int) ≤ t.sent
        omega
    split
    · exact h1.give hj hi
    · exact h1.mono (by omega)
  · rename_i xs hf
    have h4 := tot_upd (t := t) (t' := t.gets i j xs) (v := xs) rfl rfl hi hj
    rw [hf, List.length_cons] at h4
    have h1 : Bnd (t.gets i j xs) k := ⟨h.s0, h.kk, by show ((t.gets i j xs).tot : Int) ≤ t.sent; omega⟩
    exact h1.mono (by omega)
/-- How many messages were sent, by how many wanted. -/
def Cnt (t : TS) (w : Nat) : Prop := t.sent + (t.mood.count 1 : Nat) = t.n * w + (if t.holder = -1 then 1 else 0)
theorem cnt_set {l : List Int} {i : Nat} (hi : i < l.length) (v : Int) : ((l.set i v).count 1 : Int) = l.count 1 - (if l.getD i 0 = 1 then 1 else 0) + (if v = 1 then 1 else 0) := by
  have h1 := List.count_set (a := v) (b := 1) (l := l) (i := i) hi
  have hg : l.getD i 0 = l[i] := by simp [List.getD_eq_getElem?_getD, hi]
  rw [hg]
  by_cases e : l[i] = 1
  · have : 0 < l.count 1 := List.count_pos_iff.2 (by rw [← e]; exact List.getElem_mem hi)
    rw [if_pos e]
    simp only [e, beq_self_eq_true, if_true] at h1
    rw [h1]
    by_cases e2 : v = 1
    · simp [e2]; omega
    · simp [e2]; omega
  · rw [if_neg e]
    simp only [beq_iff_eq, e, if_false] at h1
    rw [h1]
    by_cases e2 : v = 1
    · simp [e2]
    · simp [e2]
theorem Cnt.made {n h : Nat} : Cnt (TS.made n h) 0 := by
  unfold Cnt
  have e : ¬ ((TS.made n h).holder = -1) := by show ¬ ((h : Int) = -1); omega
  rw [if_neg e]
  show (0 : Int) + ((List.replicate n (0 : Int)).count 1 : Nat) = n * (0 : Nat) + 0
  rw [List.count_replicate]
  simp
theorem Cnt.hold {t : TS} {w : Nat} (I : Inv t) (h : Cnt t w) {i : Nat} (hi : i < t.n) (hm : t.m i = 0) : Cnt (t.hold i) w := by
  unfold Cnt at h ⊢
  have h1 := cnt_set (l := t.mood) (i := i) (by rw [I.lm]; exact hi) 2
  have hm : t.mood.getD i 0 = 0 := hm
  rw [hm] at h1
  show t.sent + ((t.mood.set i 2).count 1 : Nat) = t.n * w + if t.holder = -1 then 1 else 0
  rw [h1]
  simpa using h
theorem Cnt.ask {t : TS} {w : Nat} (I : Inv t) (h : Cnt t w) {i : Nat} (hi : i < t.n) (hm : t.m i = 0) : Cnt (t.ask i) (w + 1) := by
  unfold Cnt at h ⊢
  have h1 := cnt_set (l := t.mood) (i := i) (by rw [I.lm]; exact hi) 1
  have hm : t.mood.getD i 0 = 0 := hm
  rw [hm] at h1
  simp only [if_true, show ¬ ((0 : Int) = 1) by omega, if_false] at h1
  show t.sent + (t.n - 1) + ((t.mood.set i 1).count 1 : Nat) = t.n * (w + 1 : Nat) + if t.holder = -1 then 1 else 0
  have h2 := I.hn
  rw [h1, show ((w + 1 : Nat) : Int) = w + 1 by omega, Int.mul_add]
  omega
theorem Cnt.give {t : TS} {w : Nat} (h : Cnt t w) {a b : Nat} (hh : t.holder = a) : Cnt (t.give a b) w := by
  unfold Cnt at h ⊢
  rw [if_neg (by omega)] at h
  show t.sent + 1 + (t.mood.count 1 : Nat) = t.n * w + if (-1 : Int) = -1 then 1 else 0
  rw [if_pos rfl]
  omega
theorem Cnt.leave {t : TS} {w : Nat} (I : Inv t) (h : Cnt t w) {i : Nat} (hi : i < t.n) (hm : t.m i = 2) : Cnt (t.leave i) w := by
  have h0 : Cnt (t.left i) w := by
    unfold Cnt at h ⊢
    have h1 := cnt_set (l := t.mood) (i := i) (by rw [I.lm]; exact hi) 0
    have hm : t.mood.getD i 0 = 2 := hm
    rw [hm] at h1
    show t.sent + ((t.mood.set i 0).count 1 : Nat) = t.n * w + if t.holder = -1 then 1 else 0
    rw [h1]
    simpa using h
  obtain ⟨_, _, hh0, _⟩ := I.left hi hm
  unfold TS.leave
  split
  · exact h0
  · rename_i x r eq
    have h1 : Cnt ((t.left i).qpop r) w := h0
    exact h1.give hh0
theorem Cnt.deliver {t : TS} {w : Nat} (I : Inv t) (h : Cnt t w) {i j : Nat} (hi : i < t.n) (hj : j < t.n) : Cnt (t.deliver i j) w := by
  unfold TS.deliver
  split
  · exact h
  · rename_i no xs hf
    have h1 : Cnt (t.learn i j no xs) w := h
    split
    · rename_i hc
      exact h1.give hc.1
    · exact h1
  · rename_i xs hf
    have hho : t.holder = -1 := by
      by_cases e : t.holder = -1
      · exact e
      · exact absurd (by rw [hf]; exact List.mem_cons_self ..) (I.tk0 e i j hi hj)
    obtain ⟨a, b, ha, hb, h3, h4, h5, h6⟩ := I.tk hho
    have hab : i = a ∧ j = b := by
      by_cases e : i = a ∧ j = b
      · exact e
      · exact absurd (by rw [hf]; exact List.mem_cons_self ..) (h6 i j hi hj e)
    obtain ⟨rfl, rfl⟩ := hab
    unfold Cnt at h ⊢
    have h1 := cnt_set (l := t.mood) (i := j) (by rw [I.lm]; exact hj) 2
    have h3 : t.mood.getD j 0 = 1 := h3
    rw [h3] at h1
    rw [if_pos hho] at h
    simp only [if_true, show ¬ ((2 : Int) = 1) by omega, if_false] at h1
    show t.sent + ((t.mood.set j 2).count 1 : Nat) = t.n * w + if (j : Int) = -1 then 1 else 0
    rw [if_neg (by omega), h1]
    omega
theorem Cnt.few {t : TS} {w : Nat} (I : Inv t) (h : Cnt t w) : t.sent ≤ t.n * w := by
  unfold Cnt at h
  split at h
  · rename_i e
    obtain ⟨a, b, ha, hb, h3, _⟩ := I.tk e
    have h3 : t.mood.getD b 0 = 1 := h3
    have hl : b < t.mood.length := by rw [I.lm]; exact hb
    have : 0 < t.mood.count 1 := List.count_pos_iff.2 (by
      rw [List.getD_eq_getElem?_getD, List.getElem?_eq_getElem hl, Option.getD_some] at h3
      rw [← h3]; exact List.getElem_mem hl)
    omega
  · omega
end Go.Proofs.Ytahjgdikjaakbaa
