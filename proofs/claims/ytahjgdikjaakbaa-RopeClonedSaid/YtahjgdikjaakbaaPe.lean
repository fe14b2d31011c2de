/- What is proved: what a tower shows follows from what its acts keep. No condition beyond those in each statement. -/
import Derived.Test.YtahjgdikjaakbaaZA
namespace Go.Proofs.Ytahjgdikjaakbaa
open Go.RowKit

theorem give_n (t : TS) (a b : Nat) : (t.give a b).n = t.n := rfl
theorem leave_n (t : TS) (i : Nat) : (t.leave i).n = t.n := by
  unfold TS.leave
  split <;> rfl
theorem deliver_n (t : TS) (i j : Nat) : (t.deliver i j).n = t.n := by
  unfold TS.deliver
  split
  · rfl
  · split <;> rfl
  · rfl
theorem want_n (t : TS) (i : Int) : (t.want i).n = t.n := by
  unfold TS.want
  split
  · split
    · split <;> rfl
    · rfl
  · rfl
theorem leaveI_n (t : TS) (i : Int) : (t.leaveI i).n = t.n := by
  unfold TS.leaveI
  split
  · split
    · exact leave_n _ _
    · rfl
  · rfl
theorem delI_n (t : TS) (a b : Int) : (t.delI a b).n = t.n := by
  unfold TS.delI
  split
  · exact deliver_n _ _ _
  · rfl
theorem act_n (t : TS) (x : Int) : (t.act x).n = t.n := by
  unfold TS.act
  split
  · exact want_n _ _
  · split
    · exact leaveI_n _ _
    · split
      · rfl
      · exact delI_n _ _ _
theorem Cnt.act {t : TS} {k W : Nat} (O : Ok t k) (h : Cnt t W) (x : Int) : ∃ W', Cnt (t.act x) W' ∧ W' ≤ W + (if t.actB x = true then 1 else 0) := by
  unfold TS.act TS.actB
  split
  · generalize (x / 4) % (t.n : Int) = i
    unfold TS.want TS.wantE
    by_cases ht : thereB t.n i = true
    · obtain ⟨a, rfl, ha⟩ := thereB_out ht
      rw [if_pos ht, if_pos ht, Int.toNat_natCast]
      by_cases hm : t.m a = 0
      · rw [if_pos hm, if_pos hm]
        by_cases hh : t.holder = a
        · rw [if_pos hh]
          exact ⟨W, h.hold O.1 ha hm, by omega⟩
        · rw [if_neg hh]
          exact ⟨W + 1, h.ask O.1 ha hm, by simp⟩
      · rw [if_neg hm, if_neg hm]
        exact ⟨W, h, by omega⟩
    · rw [if_neg ht, if_neg ht]
      exact ⟨W, h, by omega⟩
  · split
    · unfold TS.leaveI
      by_cases ht : thereB t.n t.insI = true
      · obtain ⟨a, ea, ha⟩ := thereB_out ht
        rw [if_pos ht, ea, Int.toNat_natCast]
        split
        · rename_i hm
          exact ⟨W, h.leave O.1 ha hm, by omega⟩
        · exact ⟨W, h, by omega⟩
      · rw [if_neg ht]
        exact ⟨W, h, by omega⟩
    · split
      · exact ⟨W, h, by omega⟩
      · unfold TS.delI
        split
        · rename_i ht
          obtain ⟨i, ei, hi⟩ := thereB_out ht.1
          obtain ⟨j, ej, hj⟩ := thereB_out ht.2.1
          rw [ei, ej, Int.toNat_natCast, Int.toNat_natCast]
          exact ⟨W, h.deliver O.1 hi hj, by omega⟩
        · exact ⟨W, h, by omega⟩
theorem mem_thoseF (ms : List Int) (m : Int) (k : Nat) (x : Int) : x ∈ thoseF ms m k ↔ ∃ a : Nat, a < k ∧ x = a ∧ ms.getD a 0 = m := by
  induction k with
  | zero => exact ⟨(fun h => by cases h), fun ⟨a, h, _⟩ => absurd h (Nat.not_lt_zero a)⟩
  | succ k ih =>
    unfold thoseF
    split
    · rename_i e
      rw [List.mem_append, ih, List.mem_singleton]
      constructor
      · rintro (⟨a, h1, h2, h3⟩ | rfl)
        · exact ⟨a, by omega, h2, h3⟩
        · exact ⟨k, by omega, rfl, e⟩
      · rintro ⟨a, h1, h2, h3⟩
        by_cases ea : a = k
        · subst ea; exact .inr h2
        · exact .inl ⟨a, by omega, h2, h3⟩
    · rename_i e
      rw [ih]
      constructor
      · rintro ⟨a, h1, h2, h3⟩
        exact ⟨a, by omega, h2, h3⟩
      · rintro ⟨a, h1, h2, h3⟩
        by_cases ea : a = k
        · subst ea; exact absurd h3 e
        · exact ⟨a, by omega, h2, h3⟩
theorem wai_mem (t : TS) (x : Int) : x ∈ t.wai ↔ ∃ a : Nat, a < t.n ∧ x = a ∧ t.m a = 1 := mem_thoseF _ _ _ _
theorem insI_cases {t : TS} (I : Inv t) : (t.insI = -1 ∧ ∀ a, a < t.n → t.m a ≠ 2) ∨ ∃ a : Nat, a < t.n ∧ t.insI = a ∧ t.m a = 2 ∧ t.holder = a := by
  unfold TS.insI headF
  cases h : thoseF t.mood 2 t.n with
  | nil =>
    refine .inl ⟨rfl, fun a ha hm => ?_⟩
    have : (a : Int) ∈ thoseF t.mood 2 t.n := (mem_thoseF _ _ _ _).2 ⟨a, ha, rfl, hm⟩
    rw [h] at this
    cases this
  | cons x l =>
    have : x ∈ thoseF t.mood 2 t.n := by rw [h]; exact List.mem_cons_self ..
    obtain ⟨a, ha, e, hm⟩ := (mem_thoseF _ _ _ _).1 this
    exact .inr ⟨a, ha, e, hm, I.ins a ha hm⟩
/-- How many tokens are on their way. -/
def tokC (l : List Cal) : Nat := l.countP fun c => c.2.2.isTok
theorem tokC_app (a b : List Cal) : tokC (a ++ b) = tokC a + tokC b := by unfold tokC; rw [List.countP_append]
theorem tokC_mkL (a b : Nat) (l : List Msg) : tokC (mkL a b l) = l.count .tok := by
  unfold tokC mkL
  rw [List.countP_map, List.count]
  congr 1
  funext m
  cases m <;> rfl
theorem tokC_cals (t : TS) : tokC t.cals = sumN (fun a => sumN (fun b => (t.fl a b).count .tok) t.n) t.n := by
  have h1 : ∀ a n, tokC (rowL t.fl a n) = sumN (fun b => (t.fl a b).count .tok) n := by
    intro a n
    induction n with
    | zero => rfl
    | succ n ih => show tokC (rowL t.fl a n ++ mkL a n (t.fl a n)) = _; rw [tokC_app, ih, tokC_mkL]; rfl
  have h2 : ∀ m, tokC (colL t.fl t.n m) = sumN (fun a => sumN (fun b => (t.fl a b).count .tok) t.n) m := by
    intro m
    induction m with
    | zero => rfl
    | succ m ih => show tokC (colL t.fl t.n m ++ rowL t.fl m t.n) = _; rw [tokC_app, ih, h1]; rfl
  exact h2 t.n
theorem sumN_zero {f : Nat → Nat} {n : Nat} (h : ∀ i, i < n → f i = 0) : sumN f n = 0 := by
  induction n with
  | zero => rfl
  | succ n ih => unfold sumN; rw [ih (fun i hi => h i (by omega)), h n (by omega)]
theorem sumN_one {f : Nat → Nat} {n a : Nat} (ha : a < n) (h : ∀ i, i < n → i ≠ a → f i = 0) : sumN f n = f a := by
  have h1 := sumN_upd (f := fun _ => 0) (g := f) ha h
  have h2 := sumN_zero (f := fun _ => 0) (n := n) (fun _ _ => rfl)
  omega
theorem one_token {t : TS} (I : Inv t) : tokC t.cals + (if t.holder = -1 then 0 else 1) = 1 := by
  rw [tokC_cals]
  split
  · rename_i e
    obtain ⟨a, b, ha, hb, _, _, h5, h6⟩ := I.tk e
    rw [sumN_one (f := fun a => sumN (fun b => (t.fl a b).count .tok) t.n) ha, sumN_one (f := fun b => (t.fl a b).count .tok) hb, h5]
    · intro j hj hne
      exact List.count_eq_zero_of_not_mem (h6 a j ha hj (fun h => hne h.2))
    · intro i hi hne
      exact sumN_zero fun j hj => List.count_eq_zero_of_not_mem (h6 i j hi hj (fun h => hne h.1))
  · rename_i e
    rw [sumN_zero fun i hi => sumN_zero fun j hj => List.count_eq_zero_of_not_mem (I.tk0 e i j hi hj)]
end Go.Proofs.Ytahjgdikjaakbaa
