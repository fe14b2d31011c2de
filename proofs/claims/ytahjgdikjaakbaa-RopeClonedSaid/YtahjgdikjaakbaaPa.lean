/- What is proved: the token of Suzuki and Kasami, without the program: its acts and what they keep. No condition beyond those in each statement. -/
import Derived.Below
namespace Go.Proofs.Ytahjgdikjaakbaa

inductive Msg where
  | req (no : Int)
  | tok
deriving DecidableEq
/-- A tower, without its memory. -/
structure TS where
  n : Nat
  mood : List Int
  known : List (List Int)
  holder : Int
  served : List Int
  queue : List Int
  fl : Nat → Nat → List Msg
  sent : Int
def TS.m (t : TS) (i : Nat) : Int := t.mood.getD i 0
def TS.k (t : TS) (i j : Nat) : Int := (t.known.getD i []).getD j 0
def TS.s (t : TS) (i : Nat) : Int := t.served.getD i 0
def updF (f : Nat → Nat → List Msg) (i j : Nat) (v : List Msg) : Nat → Nat → List Msg := fun a b => if a = i ∧ b = j then v else f a b
theorem updF_same (f : Nat → Nat → List Msg) (i j : Nat) (v : List Msg) : updF f i j v i j = v := by simp [updF]
theorem updF_other {f : Nat → Nat → List Msg} {i j a b : Nat} {v : List Msg} (h : ¬ (a = i ∧ b = j)) : updF f i j v a b = f a b := by simp [updF, h]
def setK2 (l : List (List Int)) (i j : Nat) (v : Int) : List (List Int) := l.set i ((l.getD i []).set j v)
def queG (kn sv : List Int) (q : List Int) : Nat → List Int
  | 0 => q
  | k + 1 => if kn.getD k 0 = sv.getD k 0 + 1 ∧ (k : Int) ∉ queG kn sv q k then queG kn sv q k ++ [(k : Int)] else queG kn sv q k
/-- The token goes. -/
def TS.give (t : TS) (a b : Nat) : TS := { t with holder := -1, fl := updF t.fl a b (t.fl a b ++ [.tok]), sent := t.sent + 1 }
def TS.hold (t : TS) (i : Nat) : TS := { t with mood := t.mood.set i 2 }
def TS.ask (t : TS) (i : Nat) : TS := { t with mood := t.mood.set i 1, known := setK2 t.known i i (t.k i i + 1), fl := fun a b => if a = i ∧ b < t.n ∧ b ≠ i then t.fl a b ++ [.req (t.k i i + 1)] else t.fl a b, sent := t.sent + (t.n - 1) }
def TS.left (t : TS) (i : Nat) : TS :=
  { t with mood := t.mood.set i 0, served := t.served.set i (t.k i i), queue := queG (t.known.getD i []) (t.served.set i (t.k i i)) t.queue t.n }
def TS.qpop (t : TS) (r : List Int) : TS := { t with queue := r }
def TS.leave (t : TS) (i : Nat) : TS :=
  match (t.left i).queue with
  | [] => t.left i
  | to :: r => ((t.left i).qpop r).give i to.toNat
def TS.learn (t : TS) (i j : Nat) (no : Int) (xs : List Msg) : TS := { t with known := setK2 t.known j i (max (t.k j i) no), fl := updF t.fl i j xs }
def TS.gets (t : TS) (i j : Nat) (xs : List Msg) : TS := { t with holder := j, mood := t.mood.set j 2, fl := updF t.fl i j xs }
def TS.deliver (t : TS) (i j : Nat) : TS :=
  match t.fl i j with
  | [] => t
  | .req no :: xs => if t.holder = j ∧ t.m j = 0 ∧ max (t.k j i) no = t.s i + 1 then (t.learn i j no xs).give j i else t.learn i j no xs
  | .tok :: xs => t.gets i j xs
def TS.made (n : Nat) (h : Nat) : TS := ⟨n, List.replicate n 0, List.replicate n (List.replicate n 0), h, List.replicate n 0, [], fun _ _ => [], 0⟩

theorem getD_set {α : Type} (l : List α) (i j : Nat) (v d : α) (h : i < l.length) : (l.set i v).getD j d = if i = j then v else l.getD j d := by
  by_cases e : i = j
  · subst e
    simp [List.getD_eq_getElem?_getD, h]
  · simp [List.getD_eq_getElem?_getD, List.getElem?_set_ne e, e]
theorem getD_setK2 {l : List (List Int)} {n i j : Nat} (v : Int) (a b : Nat) (hl : l.length = n) (hr : ∀ a, a < n → (l.getD a []).length = n) (hi : i < n) (hj : j < n) :
    ((setK2 l i j v).getD a []).getD b 0 = if i = a ∧ j = b then v else (l.getD a []).getD b 0 := by
  unfold setK2
  rw [getD_set _ _ _ _ _ (by omega)]
  by_cases e : i = a
  · subst e
    rw [if_pos rfl, getD_set _ _ _ _ _ (by rw [hr i hi]; exact hj)]
    by_cases e2 : j = b
    · rw [if_pos e2, if_pos ⟨rfl, e2⟩]
    · rw [if_neg e2, if_neg (fun h => e2 h.2)]
  · rw [if_neg e, if_neg (fun h => e h.1)]
theorem len_setK2 {l : List (List Int)} {n i j : Nat} (v : Int) (hl : l.length = n) (hr : ∀ a, a < n → (l.getD a []).length = n) (hi : i < n) :
    (setK2 l i j v).length = n ∧ ∀ a, a < n → ((setK2 l i j v).getD a []).length = n := by
  unfold setK2
  refine ⟨by rw [List.length_set]; exact hl, fun a ha => ?_⟩
  rw [getD_set _ _ _ _ _ (by omega)]
  split
  · rw [List.length_set]; exact hr i hi
  · exact hr a ha

/-- What all acts keep. -/
structure Inv0 (t : TS) : Prop where
  hn : 1 ≤ t.n ∧ t.n ≤ 6
  lm : t.mood.length = t.n
  lk : t.known.length = t.n
  lki : ∀ i, i < t.n → (t.known.getD i []).length = t.n
  ls : t.served.length = t.n
  hh : t.holder = -1 ∨ ∃ h : Nat, t.holder = h ∧ h < t.n
  md : ∀ i, i < t.n → t.m i = 0 ∨ t.m i = 1 ∨ t.m i = 2
  ins : ∀ i, i < t.n → t.m i = 2 → t.holder = i
  hw : ∀ i, i < t.n → t.m i = 1 → t.holder ≠ i
  kn : ∀ i j, i < t.n → j < t.n → 0 ≤ t.k i j ∧ t.k i j ≤ t.k j j
  sv0 : ∀ j, j < t.n → 0 ≤ t.s j ∧ t.s j ≤ t.k j j ∧ t.k j j ≤ t.s j + 1
  sv1 : ∀ j, j < t.n → t.m j = 0 → t.s j = t.k j j
  sv2 : ∀ j, j < t.n → t.m j = 1 → t.k j j = t.s j + 1
  qn : t.queue.Nodup
  qm : ∀ x, x ∈ t.queue → ∃ a : Nat, x = a ∧ a < t.n ∧ t.m a = 1
  tk : t.holder = -1 → ∃ a b, a < t.n ∧ b < t.n ∧ t.m b = 1 ∧ (b : Int) ∉ t.queue ∧ (t.fl a b).count .tok = 1 ∧ ∀ i j, i < t.n → j < t.n → ¬ (i = a ∧ j = b) → .tok ∉ t.fl i j
  tk0 : t.holder ≠ -1 → ∀ i j, i < t.n → j < t.n → .tok ∉ t.fl i j
  rq : ∀ i j no, i < t.n → j < t.n → .req no ∈ t.fl i j → no ≤ t.k i i
  fi : ∀ i, i < t.n → t.fl i i = []
  lv : ∀ i j, i < t.n → j < t.n → t.m j = 1 → i ≠ j → t.k i j = t.k j j ∨ .req (t.k j j) ∈ t.fl j i
/-- And what they keep besides. -/
structure Inv (t : TS) : Prop extends Inv0 t where
  li : ∀ h, h < t.n → t.holder = h → t.m h = 0 → t.queue = [] ∧ ∀ j, j < t.n → t.k h j ≤ t.s j

theorem Inv.made {n h : Nat} (hn : 1 ≤ n ∧ n ≤ 6) (hh : h < n) : Inv (TS.made n h) := by
  have e1 : ∀ i, (TS.made n h).m i = 0 := fun i => by
    simp only [TS.m, TS.made, List.getD_eq_getElem?_getD, List.getElem?_replicate]
    split <;> rfl
  have e2 : ∀ i, (TS.made n h).s i = 0 := fun i => by
    simp only [TS.s, TS.made, List.getD_eq_getElem?_getD, List.getElem?_replicate]
    split <;> rfl
  have e0 : ∀ i, i < n → (TS.made n h).known.getD i [] = List.replicate n 0 := fun i hi => by
    simp only [TS.made, List.getD_eq_getElem?_getD, List.getElem?_replicate, if_pos hi]
    rfl
  have e3 : ∀ i j, i < n → (TS.made n h).k i j = 0 := fun i j hi => by
    unfold TS.k
    rw [e0 i hi]
    simp only [List.getD_eq_getElem?_getD, List.getElem?_replicate]
    split <;> rfl
  have en : (TS.made n h).n = n := rfl
  have eh : (TS.made n h).holder = h := rfl
  have eq : (TS.made n h).queue = [] := rfl
  have ef : ∀ i j, (TS.made n h).fl i j = [] := fun _ _ => rfl
  refine ⟨⟨hn, by simp [TS.made], by simp [TS.made], ?_, by simp [TS.made], .inr ⟨h, rfl, hh⟩, fun i _ => .inl (e1 i), ?_, ?_, ?_, ?_, ?_, ?_, by simp [eq], by simp [eq], ?_, ?_, ?_, fun i _ => ef i i, ?_⟩, ?_⟩
  · intro i hi; rw [e0 i hi]; simp [en]
  · intro i _ h2; rw [e1] at h2; cases h2
  · intro i _ h2; rw [e1] at h2; cases h2
  · intro i j hi hj; rw [e3 i j hi, e3 j j hj]; omega
  · intro j hj; rw [e3 j j hj, e2]; omega
  · intro j hj _; rw [e3 j j hj, e2]
  · intro j _ h2; rw [e1] at h2; cases h2
  · intro h2; rw [eh] at h2; omega
  · intro _ i j _ _; rw [ef]; simp
  · intro i j no _ _ h2; rw [ef] at h2; cases h2
  · intro i j _ _ h2; rw [e1] at h2; cases h2
  · intro a ha _ _; exact ⟨eq, fun j hj => by rw [e3 a j ha, e2]; omega⟩
end Go.Proofs.Ytahjgdikjaakbaa
