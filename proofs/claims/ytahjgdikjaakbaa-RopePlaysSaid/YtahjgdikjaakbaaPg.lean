/- What is proved: one list of messages and the tower's lists of messages. No condition beyond those in each statement. -/
import Derived.Test.YtahjgdikjaakbaaXd
namespace Go.Proofs.Ytahjgdikjaakbaa

/-- The messages from i to j. -/
def fltR (l : List Cal) (i j : Nat) : List Msg := (l.filter fun c => decide (c.1 = i ∧ c.2.1 = j)).map fun c => c.2.2
structure Flt (l : List Cal) (t : TS) : Prop where
  fl : ∀ i j, i < t.n → j < t.n → fltR l i j = t.fl i j
  lt : ∀ c, c ∈ l → c.1 < t.n ∧ c.2.1 < t.n
theorem fltR_app (l k : List Cal) (i j : Nat) : fltR (l ++ k) i j = fltR l i j ++ fltR k i j := by
  unfold fltR
  rw [List.filter_append, List.map_append]
theorem fltR_same (i j : Nat) (x : Msg) : fltR [(i, j, x)] i j = [x] := by simp [fltR]
theorem fltR_other {i j a b : Nat} (x : Msg) (h : ¬ (a = i ∧ b = j)) : fltR [(i, j, x)] a b = [] := by
  unfold fltR
  rw [List.filter_cons_of_neg]
  · rfl
  · have : ¬ (i = a ∧ j = b) := fun e => h ⟨e.1.symm, e.2.symm⟩
    simpa using this
theorem Flt.push {l : List Cal} {t t' : TS} (h : Flt l t) {i j : Nat} (hi : i < t.n) (hj : j < t.n) (x : Msg) (en : t'.n = t.n) (ef : t'.fl = updF t.fl i j (t.fl i j ++ [x])) : Flt (l ++ [(i, j, x)]) t' := by
  refine ⟨fun a b ha hb => ?_, fun c hc => ?_⟩
  · rw [en] at ha hb
    rw [fltR_app, ef, h.fl a b ha hb]
    by_cases e : a = i ∧ b = j
    · obtain ⟨rfl, rfl⟩ := e
      rw [fltR_same, updF_same]
    · rw [fltR_other x e, updF_other e, List.append_nil]
  · rw [en]
    rcases List.mem_append.1 hc with h1 | h1
    · exact h.lt c h1
    · rw [List.mem_singleton] at h1
      subst h1
      exact ⟨hi, hj⟩
theorem fltR_none {l : List Cal} {i j : Nat} (h : ∀ c, c ∈ l → ¬ (c.1 = i ∧ c.2.1 = j)) : fltR l i j = [] := by
  unfold fltR
  rw [List.filter_eq_nil_iff.2 (fun c hc => by simpa using h c hc)]
  rfl
/-- The first message is taken out. -/
theorem Flt.pull {l1 l2 : List Cal} {t : TS} {i j : Nat} {x : Msg} (h : Flt (l1 ++ (i, j, x) :: l2) t) (h1 : ∀ c, c ∈ l1 → ¬ (c.1 = i ∧ c.2.1 = j)) :
    i < t.n ∧ j < t.n ∧ t.fl i j = x :: fltR l2 i j ∧ ∀ t' : TS, t'.n = t.n → t'.fl = updF t.fl i j (fltR l2 i j) → Flt (l1 ++ l2) t' := by
  obtain ⟨hi, hj⟩ := h.lt (i, j, x) (by simp)
  refine ⟨hi, hj, ?_, fun t' en ef => ⟨fun a b ha hb => ?_, fun c hc => ?_⟩⟩
  · rw [← h.fl i j hi hj, fltR_app, fltR_none h1, List.nil_append, show (i, j, x) :: l2 = [(i, j, x)] ++ l2 from rfl, fltR_app, fltR_same]
    rfl
  · rw [en] at ha hb
    rw [fltR_app, ef]
    by_cases e : a = i ∧ b = j
    · obtain ⟨rfl, rfl⟩ := e
      rw [updF_same, fltR_none h1, List.nil_append]
    · rw [updF_other e, ← h.fl a b ha hb, fltR_app, show (i, j, x) :: l2 = [(i, j, x)] ++ l2 from rfl, fltR_app, fltR_other x e, List.nil_append]
  · rw [en]
    rcases List.mem_append.1 hc with h2 | h2
    · exact h.lt c (List.mem_append.2 (.inl h2))
    · exact h.lt c (List.mem_append.2 (.inr (List.mem_cons_of_mem _ h2)))
theorem Flt.none {l : List Cal} {t : TS} (h : Flt l t) {i j : Nat} (hi : i < t.n) (hj : j < t.n) (h1 : ∀ c, c ∈ l → ¬ (c.1 = i ∧ c.2.1 = j)) : t.fl i j = [] := by
  rw [← h.fl i j hi hj]
  exact fltR_none h1
theorem Flt.same {l : List Cal} {t t' : TS} (h : Flt l t) (en : t'.n = t.n) (ef : t'.fl = t.fl) : Flt l t' := ⟨fun i j hi hj => by rw [ef]; exact h.fl i j (by omega) (by omega), fun c hc => by rw [en]; exact h.lt c hc⟩
theorem Flt.ask {l : List Cal} {t : TS} (h : Flt l t) {a : Nat} (ha : a < t.n) : Flt (l ++ reqL a (t.k a a + 1) t.n) (t.ask a) := by
  have key : ∀ k, k ≤ t.n → (∀ i j, fltR (reqL a (t.k a a + 1) k) i j = if i = a ∧ j < k ∧ j ≠ a then [.req (t.k a a + 1)] else []) ∧ ∀ c, c ∈ reqL a (t.k a a + 1) k → c.1 = a ∧ c.2.1 < k := by
    intro k
    induction k with
    | zero => intro _; exact ⟨fun i j => by rw [if_neg (by omega)]; rfl, fun c hc => by cases hc⟩
    | succ k ih =>
      intro hk
      obtain ⟨h1, h2⟩ := ih (by omega)
      unfold reqL
      by_cases e : k = a
      · rw [if_pos e]
        refine ⟨fun i j => ?_, fun c hc => ⟨(h2 c hc).1, by have := (h2 c hc).2; omega⟩⟩
        rw [h1]
        by_cases e2 : i = a ∧ j < k ∧ j ≠ a
        · rw [if_pos e2, if_pos ⟨e2.1, by omega, e2.2.2⟩]
        · rw [if_neg e2, if_neg (fun e3 => e2 ⟨e3.1, by omega, e3.2.2⟩)]
      · rw [if_neg e]
        refine ⟨fun i j => ?_, fun c hc => ?_⟩
        · rw [fltR_app, h1]
          by_cases e2 : i = a ∧ j = k
          · obtain ⟨rfl, rfl⟩ := e2
            rw [fltR_same, if_neg (by omega), if_pos ⟨rfl, by omega, e⟩]
            rfl
          · rw [fltR_other _ e2, List.append_nil]
            by_cases e3 : i = a ∧ j < k ∧ j ≠ a
            · rw [if_pos e3, if_pos ⟨e3.1, by omega, e3.2.2⟩]
            · rw [if_neg e3, if_neg (fun e4 => e3 ⟨e4.1, by omega, e4.2.2⟩)]
        · rcases List.mem_append.1 hc with h3 | h3
          · exact ⟨(h2 c h3).1, by have := (h2 c h3).2; omega⟩
          · rw [List.mem_singleton] at h3
            subst h3
            exact ⟨rfl, by show k < k + 1; omega⟩
  obtain ⟨k1, k2⟩ := key t.n (Nat.le_refl _)
  refine ⟨fun i j hi hj => ?_, fun c hc => ?_⟩
  · rw [fltR_app, k1, h.fl i j hi hj]
    show _ = if i = a ∧ j < t.n ∧ j ≠ a then t.fl i j ++ [.req (t.k a a + 1)] else t.fl i j
    split
    · rfl
    · rw [List.append_nil]
  · rcases List.mem_append.1 hc with h3 | h3
    · exact h.lt c h3
    · have := k2 c h3
      exact ⟨by rw [this.1]; exact ha, this.2⟩
theorem Flt.want {l : List Cal} {t : TS} (h : Flt l t) (i : Int) : Flt (t.wantL l i) (t.want i) := by
  unfold TS.wantL TS.want
  by_cases ht : thereB t.n i = true
  · obtain ⟨a, rfl, ha⟩ := thereB_out ht
    rw [if_pos ht, if_pos ht, Int.toNat_natCast]
    by_cases hm : t.m a = 0
    · rw [if_pos hm, if_pos hm]
      by_cases hh : t.holder = a
      · rw [if_pos hh, if_pos hh]; exact h.same rfl rfl
      · rw [if_neg hh, if_neg hh]; exact h.ask ha
    · rw [if_neg hm, if_neg hm]; exact h
  · rw [if_neg ht, if_neg ht]; exact h
theorem left_qm {t : TS} (I : Inv t) (a : Nat) : ∀ x, x ∈ (t.left a).queue → ∃ b : Nat, x = b ∧ b < t.n := by
  intro x hx
  rcases (queG_mem _ _ _ _ x).1 hx with h1 | ⟨b, hb, e, _⟩
  · obtain ⟨b, e, hb, _⟩ := I.qm x h1
    exact ⟨b, e, hb⟩
  · exact ⟨b, e, hb⟩
theorem Flt.leave {l : List Cal} {t : TS} (h : Flt l t) (I : Inv t) (i : Int) : Flt (t.leaveL l i) (t.leaveI i) := by
  unfold TS.leaveL TS.leaveI
  by_cases ht : thereB t.n i = true
  · obtain ⟨a, rfl, ha⟩ := thereB_out ht
    rw [if_pos ht, if_pos ht, Int.toNat_natCast]
    by_cases hm : t.m a = 2
    · rw [if_pos hm, if_pos hm]
      unfold TS.leave
      have hq := left_qm I a
      cases hQ : (t.left a).queue with
      | nil => exact h.same rfl rfl
      | cons x r =>
        obtain ⟨b, rfl, hb⟩ := hq x (by rw [hQ]; exact List.mem_cons_self ..)
        have h2 : Flt l ((t.left a).qpop r) := h.same rfl rfl
        exact h2.push ha hb .tok rfl rfl
    · rw [if_neg hm, if_neg hm]; exact h
  · rw [if_neg ht, if_neg ht]; exact h
end Go.Proofs.Ytahjgdikjaakbaa
