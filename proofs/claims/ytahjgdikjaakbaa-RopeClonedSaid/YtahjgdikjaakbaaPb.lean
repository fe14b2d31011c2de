/- What is proved: each act keeps what is kept. No condition beyond those in each statement. -/
import Derived.Test.YtahjgdikjaakbaaPa
namespace Go.Proofs.Ytahjgdikjaakbaa

theorem Inv.hold {t : TS} (h : Inv t) {i : Nat} (hi : i < t.n) (hm : t.m i = 0) (hh : t.holder = i) : Inv (t.hold i) := by
  have em : ∀ a, (t.hold i).m a = if i = a then 2 else t.m a := fun a => getD_set _ _ _ _ _ (by rw [h.lm]; exact hi)
  have ek : ∀ a b, (t.hold i).k a b = t.k a b := fun _ _ => rfl
  have es : ∀ a, (t.hold i).s a = t.s a := fun _ => rfl
  have e1 : ∀ a, (t.hold i).m a = 1 → t.m a = 1 := fun a ha => by
    rw [em] at ha
    split at ha
    · cases ha
    · exact ha
  refine ⟨⟨h.hn, by show (t.mood.set i 2).length = _; rw [List.length_set]; exact h.lm, h.lk, h.lki, h.ls, h.hh, ?_, ?_, ?_, h.kn, h.sv0, ?_, ?_, h.qn, ?_, ?_, h.tk0, h.rq, h.fi, ?_⟩, ?_⟩
  · intro a ha; rw [em]; split
    · exact .inr (.inr rfl)
    · exact h.md a ha
  · intro a ha h2; rw [em] at h2; split at h2
    · rename_i e; subst e; exact hh
    · exact h.ins a ha h2
  · intro a ha h2; exact h.hw a ha (e1 a h2)
  · intro a ha h2; rw [em] at h2; split at h2
    · cases h2
    · exact h.sv1 a ha h2
  · intro a ha h2; exact h.sv2 a ha (e1 a h2)
  · intro x hx
    obtain ⟨a, e, ha, hma⟩ := h.qm x hx
    refine ⟨a, e, ha, ?_⟩
    rw [em, if_neg]
    · exact hma
    · rintro rfl; rw [hm] at hma; cases hma
  · intro h2
    have h2 : t.holder = -1 := h2
    omega
  · intro a b ha hb h2 hab; exact h.lv a b ha hb (e1 b h2) hab
  · intro a ha h2 h3
    have h2 : t.holder = a := h2
    have : a = i := by omega
    subst this
    rw [em, if_pos rfl] at h3
    cases h3
theorem Inv.ask {t : TS} (h : Inv t) {i : Nat} (hi : i < t.n) (hm : t.m i = 0) (hh : t.holder ≠ i) : Inv (t.ask i) := by
  have em : ∀ a, (t.ask i).m a = if i = a then 1 else t.m a := fun a => getD_set _ _ _ _ _ (by rw [h.lm]; exact hi)
  have ek : ∀ a b, (t.ask i).k a b = if i = a ∧ i = b then t.k i i + 1 else t.k a b := fun a b => getD_setK2 _ _ _ h.lk h.lki hi hi
  have es : ∀ a, (t.ask i).s a = t.s a := fun _ => rfl
  have ef : ∀ a b, (t.ask i).fl a b = if a = i ∧ b < t.n ∧ b ≠ i then t.fl a b ++ [.req (t.k i i + 1)] else t.fl a b := fun _ _ => rfl
  have ell := len_setK2 (i := i) (j := i) (t.k i i + 1) h.lk h.lki hi
  have etok : ∀ a b, ((t.ask i).fl a b).count .tok = (t.fl a b).count .tok := fun a b => by
    rw [ef]; split
    · simp
    · rfl
  have etm : ∀ a b, .tok ∈ (t.ask i).fl a b ↔ .tok ∈ t.fl a b := fun a b => by
    rw [ef]; split
    · simp
    · exact Iff.rfl
  have hii := h.sv1 i hi hm
  refine ⟨⟨h.hn, by show (t.mood.set i 1).length = _; rw [List.length_set]; exact h.lm, ell.1, ell.2, h.ls, h.hh, ?_, ?_, ?_, ?_, ?_, ?_, ?_, h.qn, ?_, ?_, ?_, ?_, ?_, ?_⟩, ?_⟩
  · intro a ha; rw [em]; split
    · exact .inr (.inl rfl)
    · exact h.md a ha
  · intro a ha h2; rw [em] at h2; split at h2
    · cases h2
    · exact h.ins a ha h2
  · intro a ha h2; rw [em] at h2; split at h2
    · rename_i e; subst e; exact hh
    · exact h.hw a ha h2
  · intro a b ha hb
    have h1 := h.kn a b ha hb
    rw [ek, ek]
    by_cases e : i = b
    · subst e
      by_cases e2 : i = a
      · subst e2
        simp; omega
      · rw [if_neg (fun h => e2 h.1), if_pos ⟨rfl, rfl⟩]; omega
    · rw [if_neg (fun h => e h.2), if_neg (fun h => e h.2)]; exact h1
  · intro a ha
    have h1 := h.sv0 a ha
    rw [es, ek]
    split
    · rename_i e; obtain ⟨rfl, _⟩ := e; omega
    · exact h1
  · intro a ha h2; rw [em] at h2; split at h2
    · cases h2
    · rename_i e
      rw [es, ek, if_neg (fun h => e h.1)]
      exact h.sv1 a ha h2
  · intro a ha h2; rw [em] at h2; rw [es, ek]
    split at h2
    · rename_i e; subst e; rw [if_pos ⟨rfl, rfl⟩]; omega
    · rename_i e; rw [if_neg (fun h => e h.1)]; exact h.sv2 a ha h2
  · intro x hx
    obtain ⟨a, e, ha, hma⟩ := h.qm x hx
    refine ⟨a, e, ha, ?_⟩
    rw [em]; split
    · rfl
    · exact hma
  · intro h2
    obtain ⟨a, b, ha, hb, h3, h4, h5, h6⟩ := h.tk h2
    refine ⟨a, b, ha, hb, ?_, h4, by rw [etok]; exact h5, fun c d hc hd hcd => by rw [etm]; exact h6 c d hc hd hcd⟩
    rw [em]; split
    · rfl
    · exact h3
  · intro h2 a b ha hb; rw [etm]; exact h.tk0 h2 a b ha hb
  · intro a b no ha hb h2
    rw [ef] at h2
    rw [ek]
    split at h2
    · rename_i e
      obtain ⟨rfl, _, _⟩ := e
      rw [if_pos ⟨rfl, rfl⟩]
      rw [List.mem_append] at h2
      rcases h2 with h2 | h2
      · have := h.rq _ _ _ ha hb h2; omega
      · simp at h2; omega
    · have := h.rq _ _ _ ha hb h2
      split
      · rename_i e; obtain ⟨rfl, _⟩ := e; omega
      · exact this
  · intro a ha
    rw [ef, if_neg (fun h => h.2.2 h.1)]
    exact h.fi a ha
  · intro a b ha hb h2 hab
    rw [em] at h2
    rw [ek, ek, ef]
    by_cases e : i = b
    · subst e
      rw [if_neg (fun h => hab h.1.symm), if_pos ⟨rfl, rfl⟩, if_pos ⟨rfl, ha, hab⟩]
      right; simp
    · rw [if_neg e] at h2
      rw [if_neg (fun h => e h.2), if_neg (fun h => e h.2), if_neg (fun h => e h.1.symm)]
      exact h.lv a b ha hb h2 hab
  · intro a ha h2 h3
    rw [em] at h3
    split at h3
    · cases h3
    · rename_i e
      obtain ⟨q1, q2⟩ := h.li a ha h2 h3
      refine ⟨q1, fun j hj => ?_⟩
      rw [ek, es, if_neg (fun h => e h.1)]
      exact q2 j hj
/-- The token goes to someone who waits. -/
theorem Inv0.give {t : TS} (h : Inv0 t) {a b : Nat} (ha : a < t.n) (hb : b < t.n) (hh : t.holder = a) (hm : t.m a = 0) (hmb : t.m b = 1) (hq : (b : Int) ∉ t.queue) : Inv (t.give a b) := by
  have hne : t.holder ≠ -1 := by omega
  have h0 := h.tk0 hne
  have em : ∀ c, (t.give a b).m c = t.m c := fun _ => rfl
  have ek : ∀ c d, (t.give a b).k c d = t.k c d := fun _ _ => rfl
  have ef : ∀ c d, (t.give a b).fl c d = if c = a ∧ d = b then t.fl a b ++ [.tok] else t.fl c d := fun _ _ => rfl
  have hab : a ≠ b := by rintro rfl; rw [hm] at hmb; cases hmb
  refine ⟨⟨h.hn, h.lm, h.lk, h.lki, h.ls, .inl rfl, h.md, ?_, ?_, h.kn, h.sv0, h.sv1, h.sv2, h.qn, h.qm, ?_, ?_, ?_, ?_, ?_⟩, ?_⟩
  · intro c hc h2
    have h3 := h.ins c hc h2
    have : c = a := by omega
    subst this
    have h2 : t.m c = 2 := h2
    rw [hm] at h2; cases h2
  · intro c _ _ h2
    have h2 : (-1 : Int) = c := h2
    omega
  · intro _
    refine ⟨a, b, ha, hb, hmb, hq, ?_, ?_⟩
    · rw [ef, if_pos ⟨rfl, rfl⟩, List.count_append, List.count_eq_zero_of_not_mem (h0 a b ha hb)]
      rfl
    · intro c d hc hd hcd
      rw [ef, if_neg hcd]
      exact h0 c d hc hd
  · intro h2; exact absurd rfl h2
  · intro c d no hc hd h2
    rw [ef] at h2
    split at h2
    · rename_i e
      obtain ⟨rfl, rfl⟩ := e
      rw [List.mem_append] at h2
      rcases h2 with h2 | h2
      · exact h.rq _ _ _ hc hd h2
      · simp at h2
    · exact h.rq _ _ _ hc hd h2
  · intro c hc
    rw [ef, if_neg (by rintro ⟨rfl, h2⟩; exact hab h2)]
    exact h.fi c hc
  · intro c d hc hd h2 hcd
    rw [ek, ek, ef]
    rcases h.lv c d hc hd h2 hcd with h3 | h3
    · exact .inl h3
    · right
      split
      · rename_i e; obtain ⟨rfl, rfl⟩ := e; rw [List.mem_append]; exact .inl h3
      · exact h3
  · intro c hc h2
    have h2 : (-1 : Int) = c := h2
    omega
theorem queG_mem (kn sv q : List Int) (k : Nat) : ∀ x, x ∈ queG kn sv q k ↔ x ∈ q ∨ ∃ a : Nat, a < k ∧ x = a ∧ kn.getD a 0 = sv.getD a 0 + 1 := by
  induction k with
  | zero =>
    intro x
    exact ⟨.inl, fun h => h.elim id fun ⟨a, h, _⟩ => absurd h (Nat.not_lt_zero a)⟩
  | succ k ih =>
    intro x
    unfold queG
    split
    · rename_i e
      rw [List.mem_append, ih, List.mem_singleton]
      constructor
      · rintro ((h | ⟨a, h1, h2, h3⟩) | rfl)
        · exact .inl h
        · exact .inr ⟨a, by omega, h2, h3⟩
        · exact .inr ⟨k, by omega, rfl, e.1⟩
      · rintro (h | ⟨a, h1, h2, h3⟩)
        · exact .inl (.inl h)
        · by_cases ea : a = k
          · subst ea; exact .inr h2
          · exact .inl (.inr ⟨a, by omega, h2, h3⟩)
    · rename_i e
      rw [ih]
      constructor
      · rintro (h | ⟨a, h1, h2, h3⟩)
        · exact .inl h
        · exact .inr ⟨a, by omega, h2, h3⟩
      · rintro (h | ⟨a, h1, h2, h3⟩)
        · exact .inl h
        · by_cases ea : a = k
          · subst ea
            have : (a : Int) ∈ queG kn sv q a := by
              by_cases h4 : (a : Int) ∈ queG kn sv q a
              · exact h4
              · exact absurd ⟨h3, h4⟩ e
            rw [h2]
            exact (ih _).1 this
          · exact .inr ⟨a, by omega, h2, h3⟩
theorem queG_nodup (kn sv q : List Int) (k : Nat) (h : q.Nodup) : (queG kn sv q k).Nodup := by
  induction k with
  | zero => exact h
  | succ k ih =>
    unfold queG
    split
    · rename_i e
      rw [List.nodup_append]
      refine ⟨ih, by simp, ?_⟩
      intro a ha b hb
      rw [List.mem_singleton] at hb
      subst hb
      rintro rfl
      exact e.2 ha
    · exact ih
/-- Someone has left; the token is still here. -/
theorem Inv.left {t : TS} (h : Inv t) {i : Nat} (hi : i < t.n) (hm : t.m i = 2) : Inv0 (t.left i) ∧ (t.left i).m i = 0 ∧ (t.left i).holder = i ∧ ∀ j, j < t.n → (t.left i).k i j = (t.left i).s j + 1 → (j : Int) ∈ (t.left i).queue := by
  have hh := h.ins i hi hm
  have em : ∀ a, (t.left i).m a = if i = a then 0 else t.m a := fun a => getD_set _ _ _ _ _ (by rw [h.lm]; exact hi)
  have ek : ∀ a b, (t.left i).k a b = t.k a b := fun _ _ => rfl
  have es : ∀ a, (t.left i).s a = if i = a then t.k i i else t.s a := fun a => getD_set _ _ _ _ _ (by rw [h.ls]; exact hi)
  have ef : ∀ a b, (t.left i).fl a b = t.fl a b := fun _ _ => rfl
  have eq : ∀ x, x ∈ (t.left i).queue ↔ x ∈ t.queue ∨ ∃ a : Nat, a < t.n ∧ x = a ∧ t.k i a = (t.left i).s a + 1 := fun x => queG_mem _ _ _ _ x
  have hne : t.holder ≠ -1 := by omega
  have hm1 : ∀ a, a < t.n → t.k i a = (t.left i).s a + 1 → t.m a = 1 ∧ i ≠ a := by
    intro a ha h2
    rw [es] at h2
    split at h2
    · rename_i e; subst e; omega
    · rename_i e
      have h3 := h.kn i a hi ha
      have h4 := h.sv0 a ha
      refine ⟨?_, e⟩
      rcases h.md a ha with h5 | h5 | h5
      · have := h.sv1 a ha h5; omega
      · exact h5
      · have := h.ins a ha h5; omega
  refine ⟨⟨h.hn, by show (t.mood.set i 0).length = _; rw [List.length_set]; exact h.lm, h.lk, h.lki, by show (t.served.set i _).length = _; rw [List.length_set]; exact h.ls, h.hh, ?_, ?_, ?_, h.kn, ?_, ?_, ?_, ?_, ?_, ?_, h.tk0, h.rq, h.fi, ?_⟩, by rw [em, if_pos rfl], hh, ?_⟩
  · intro a ha; rw [em]; split
    · exact .inl rfl
    · exact h.md a ha
  · intro a ha h2; rw [em] at h2; split at h2
    · cases h2
    · exact h.ins a ha h2
  · intro a ha h2; rw [em] at h2; split at h2
    · cases h2
    · exact h.hw a ha h2
  · intro a ha
    rw [ek, es]
    split
    · rename_i e; subst e; have := h.kn i i hi hi; omega
    · exact h.sv0 a ha
  · intro a ha h2
    rw [em] at h2
    rw [ek, es]
    split at h2
    · rename_i e; subst e; rw [if_pos rfl]
    · rename_i e; rw [if_neg e]; exact h.sv1 a ha h2
  · intro a ha h2
    rw [em] at h2
    rw [ek, es]
    split at h2
    · cases h2
    · rename_i e; rw [if_neg e]; exact h.sv2 a ha h2
  · exact queG_nodup _ _ _ _ h.qn
  · intro x hx
    rcases (eq x).1 hx with h2 | ⟨a, ha, e, h2⟩
    · obtain ⟨a, e, ha, hma⟩ := h.qm x h2
      refine ⟨a, e, ha, ?_⟩
      rw [em, if_neg (by rintro rfl; rw [hm] at hma; cases hma)]
      exact hma
    · obtain ⟨h3, h4⟩ := hm1 a ha h2
      exact ⟨a, e, ha, by rw [em, if_neg h4]; exact h3⟩
  · intro h2; exact absurd h2 hne
  · intro a b ha hb h2 hab
    rw [em] at h2
    split at h2
    · cases h2
    · exact h.lv a b ha hb h2 hab
  · intro j hj h2
    exact (eq j).2 (.inr ⟨j, hj, rfl, h2⟩)
theorem Inv0.qpop {t : TS} (h : Inv0 t) {x : Int} {r : List Int} (hq : t.queue = x :: r) (hne : t.holder ≠ -1) : Inv0 (t.qpop r) ∧ x ∉ r := by
  have hnd := h.qn
  rw [hq, List.nodup_cons] at hnd
  refine ⟨⟨h.hn, h.lm, h.lk, h.lki, h.ls, h.hh, h.md, h.ins, h.hw, h.kn, h.sv0, h.sv1, h.sv2, hnd.2, ?_, fun h2 => absurd h2 hne, h.tk0, h.rq, h.fi, h.lv⟩, hnd.1⟩
  intro y hy
  exact h.qm y (by rw [hq]; exact List.mem_cons_of_mem _ hy)
theorem Inv.leave {t : TS} (h : Inv t) {i : Nat} (hi : i < t.n) (hm : t.m i = 2) : Inv (t.leave i) := by
  obtain ⟨h0, hm0, hh0, hq0⟩ := h.left hi hm
  unfold TS.leave
  split
  · rename_i eq
    refine ⟨h0, ?_⟩
    intro a ha h2 _
    have h2 : (t.left i).holder = a := h2
    rw [hh0] at h2
    have : a = i := by omega
    subst this
    refine ⟨eq, fun j hj => ?_⟩
    have h3 := h0.kn a j ha hj
    have h4 := h0.sv0 j hj
    have h5 := hq0 j hj
    rw [eq] at h5
    by_cases e : (t.left a).k a j = (t.left a).s j + 1
    · have := h5 e; cases this
    · omega
  · rename_i x r eq
    obtain ⟨h1, hx⟩ := h0.qpop eq (by rw [hh0]; omega)
    obtain ⟨b, e, hb, hmb⟩ := h0.qm x (by rw [eq]; exact List.mem_cons_self ..)
    subst e
    rw [Int.toNat_natCast]
    exact h1.give hi hb hh0 hm0 hmb hx
theorem Inv.gets {t : TS} (h : Inv t) {i j : Nat} {xs : List Msg} (hi : i < t.n) (hj : j < t.n) (hf : t.fl i j = .tok :: xs) : Inv (t.gets i j xs) := by
  have hho : t.holder = -1 := by
    by_cases e : t.holder = -1
    · exact e
    · exact absurd (by rw [hf]; exact List.mem_cons_self ..) (h.tk0 e i j hi hj)
  obtain ⟨a, b, ha, hb, h3, h4, h5, h6⟩ := h.tk hho
  have hab : i = a ∧ j = b := by
    by_cases e : i = a ∧ j = b
    · exact e
    · exact absurd (by rw [hf]; exact List.mem_cons_self ..) (h6 i j hi hj e)
  obtain ⟨rfl, rfl⟩ := hab
  rw [hf] at h5
  have hxs : Msg.tok ∉ xs := by
    intro hmem
    have := List.count_pos_iff.2 hmem
    simp at h5
    omega
  have hij : i ≠ j := by rintro rfl; rw [h.fi i hi] at hf; cases hf
  have em : ∀ c, (t.gets i j xs).m c = if j = c then 2 else t.m c := fun a => getD_set _ _ _ _ _ (by rw [h.lm]; exact hj)
  have ek : ∀ c d, (t.gets i j xs).k c d = t.k c d := fun _ _ => rfl
  have es : ∀ c, (t.gets i j xs).s c = t.s c := fun _ => rfl
  have ef : ∀ c d, (t.gets i j xs).fl c d = if c = i ∧ d = j then xs else t.fl c d := fun _ _ => rfl
  have eh : (t.gets i j xs).holder = j := rfl
  refine ⟨⟨h.hn, by show (t.mood.set j 2).length = _; rw [List.length_set]; exact h.lm, h.lk, h.lki, h.ls, .inr ⟨j, rfl, hj⟩, ?_, ?_, ?_, h.kn, h.sv0, ?_, ?_, h.qn, ?_, ?_, ?_, ?_, ?_, ?_⟩, ?_⟩
  · intro c hc; rw [em]; split
    · exact .inr (.inr rfl)
    · exact h.md c hc
  · intro c hc h2; rw [em] at h2; split at h2
    · rename_i e; subst e; rfl
    · have := h.ins c hc h2; omega
  · intro c hc h2; rw [em] at h2; rw [eh]; split at h2
    · cases h2
    · omega
  · intro c hc h2; rw [em] at h2; split at h2
    · cases h2
    · exact h.sv1 c hc h2
  · intro c hc h2; rw [em] at h2; split at h2
    · cases h2
    · exact h.sv2 c hc h2
  · intro x hx
    obtain ⟨c, e, hc, hmc⟩ := h.qm x hx
    refine ⟨c, e, hc, ?_⟩
    rw [em, if_neg]
    · exact hmc
    · rintro rfl; rw [e] at hx; exact h4 hx
  · intro h2; rw [eh] at h2; omega
  · intro _ c d hc hd
    rw [ef]; split
    · exact hxs
    · rename_i e; exact h6 c d hc hd e
  · intro c d no hc hd h2
    rw [ef] at h2
    split at h2
    · rename_i e; obtain ⟨rfl, rfl⟩ := e
      exact h.rq _ _ _ hc hd (by rw [hf]; exact List.mem_cons_of_mem _ h2)
    · exact h.rq _ _ _ hc hd h2
  · intro c hc
    rw [ef, if_neg (by rintro ⟨rfl, h2⟩; exact hij h2)]
    exact h.fi c hc
  · intro c d hc hd h2 hcd
    rw [em] at h2
    rw [ek, ek, ef]
    split at h2
    · cases h2
    · rcases h.lv c d hc hd h2 hcd with h7 | h7
      · exact .inl h7
      · right
        split
        · rename_i e2; obtain ⟨rfl, rfl⟩ := e2
          rw [hf] at h7
          simpa using h7
        · exact h7
  · intro c hc h2 h7
    rw [eh] at h2
    rw [em, if_pos (by omega)] at h7
    cases h7
theorem Inv.learn {t : TS} (h : Inv t) {i j : Nat} {no : Int} {xs : List Msg} (hi : i < t.n) (hj : j < t.n) (hf : t.fl i j = .req no :: xs) :
    Inv0 (t.learn i j no xs) ∧ ((t.holder = j ∧ t.m j = 0 → max (t.k j i) no ≠ t.s i + 1) → Inv (t.learn i j no xs)) := by
  have hij : i ≠ j := by rintro rfl; rw [h.fi i hi] at hf; cases hf
  have hno : no ≤ t.k i i := h.rq i j no hi hj (by rw [hf]; exact List.mem_cons_self ..)
  have em : ∀ c, (t.learn i j no xs).m c = t.m c := fun _ => rfl
  have ek : ∀ c d, (t.learn i j no xs).k c d = if j = c ∧ i = d then max (t.k j i) no else t.k c d := fun a b => getD_setK2 _ _ _ h.lk h.lki hj hi
  have es : ∀ c, (t.learn i j no xs).s c = t.s c := fun _ => rfl
  have ef : ∀ c d, (t.learn i j no xs).fl c d = if c = i ∧ d = j then xs else t.fl c d := fun _ _ => rfl
  have ell := len_setK2 (max (t.k j i) no) h.lk h.lki (i := j) (j := i) hj
  have ekk : ∀ c, (t.learn i j no xs).k c c = t.k c c := fun c => by
    rw [ek, if_neg]; rintro ⟨rfl, h2⟩; exact hij h2
  have hcnt : (t.fl i j).count .tok = xs.count .tok := by rw [hf]; simp
  have I0 : Inv0 (t.learn i j no xs) := by
    refine ⟨h.hn, h.lm, ell.1, ell.2, h.ls, h.hh, h.md, h.ins, h.hw, ?_, ?_, ?_, ?_, h.qn, h.qm, ?_, ?_, ?_, ?_, ?_⟩
    · intro c d hc hd
      rw [ekk, ek]
      have h1 := h.kn c d hc hd
      split
      · rename_i e; obtain ⟨rfl, rfl⟩ := e; omega
      · exact h1
    · intro c hc; rw [ekk]; exact h.sv0 c hc
    · intro c hc h2; rw [ekk]; exact h.sv1 c hc h2
    · intro c hc h2; rw [ekk]; exact h.sv2 c hc h2
    · intro h2
      obtain ⟨a, b, ha, hb, h3, h4, h5, h6⟩ := h.tk h2
      refine ⟨a, b, ha, hb, h3, h4, ?_, fun c d hc hd hcd => ?_⟩
      · rw [ef]; split
        · rename_i e; obtain ⟨rfl, rfl⟩ := e; rw [← hcnt]; exact h5
        · exact h5
      · rw [ef]; split
        · rename_i e; obtain ⟨rfl, rfl⟩ := e
          have := h6 c d hc hd hcd
          rw [hf] at this
          simpa using this
        · exact h6 c d hc hd hcd
    · intro h2 c d hc hd
      have := h.tk0 h2 c d hc hd
      rw [ef]; split
      · rename_i e; obtain ⟨rfl, rfl⟩ := e; rw [hf] at this; simpa using this
      · exact this
    · intro c d no' hc hd h2
      rw [ekk]
      rw [ef] at h2
      split at h2
      · rename_i e; obtain ⟨rfl, rfl⟩ := e
        exact h.rq _ _ _ hc hd (by rw [hf]; exact List.mem_cons_of_mem _ h2)
      · exact h.rq _ _ _ hc hd h2
    · intro c hc
      rw [ef, if_neg (by rintro ⟨rfl, h2⟩; exact hij h2)]
      exact h.fi c hc
    · intro c d hc hd h2 hcd
      rw [ekk, ek, ef]
      rcases h.lv c d hc hd h2 hcd with h3 | h3
      · left
        split
        · rename_i e; obtain ⟨rfl, rfl⟩ := e; omega
        · exact h3
      · by_cases e : d = i ∧ c = j
        · obtain ⟨rfl, rfl⟩ := e
          rw [if_pos ⟨rfl, rfl⟩, if_pos ⟨rfl, rfl⟩]
          rw [hf] at h3
          rcases List.mem_cons.1 h3 with h4 | h4
          · left
            injection h4 with h4
            have := h.kn c d hc hd
            omega
          · exact .inr h4
        · rw [if_neg e, if_neg (fun h => e ⟨h.2.symm, h.1.symm⟩)]
          exact .inr h3
  refine ⟨I0, fun hg => ⟨I0, ?_⟩⟩
  intro c hc h2 h3
  obtain ⟨q1, q2⟩ := h.li c hc h2 h3
  refine ⟨q1, fun d hd => ?_⟩
  rw [ek, es]
  split
  · rename_i e; obtain ⟨rfl, rfl⟩ := e
    have h5 := hg ⟨h2, h3⟩
    have h6 := h.sv0 i hi
    have h7 := h.kn j i hj hi
    omega
  · exact q2 d hd
theorem Inv.deliver {t : TS} (h : Inv t) {i j : Nat} (hi : i < t.n) (hj : j < t.n) : Inv (t.deliver i j) := by
  unfold TS.deliver
  split
  · exact h
  · rename_i no xs hf
    obtain ⟨h1, h2⟩ := h.learn hi hj hf
    split
    · rename_i hc
      have hij : i ≠ j := by rintro rfl; rw [h.fi i hi] at hf; cases hf
      have hno : no ≤ t.k i i := h.rq i j no hi hj (by rw [hf]; exact List.mem_cons_self ..)
      have h3 := h.kn j i hj hi
      have h4 := h.sv0 i hi
      obtain ⟨q1, q2⟩ := h.li j hj hc.1 hc.2.1
      refine h1.give hj hi hc.1 hc.2.1 ?_ (by show (i : Int) ∉ t.queue; rw [q1]; simp)
      show t.m i = 1
      rcases h.md i hi with h5 | h5 | h5
      · have := h.sv1 i hi h5; omega
      · exact h5
      · have := h.ins i hi h5; omega
    · rename_i hc
      exact h2 (fun h3 h4 => hc ⟨h3.1, h3.2, h4⟩)
  · rename_i xs hf
    exact h.gets hi hj hf
end Go.Proofs.Ytahjgdikjaakbaa
