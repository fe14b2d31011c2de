/- What is proved: what a tower shows follows from what its acts keep. No condition beyond those in each statement. -/
import Derived.Test.YtahjgdikjaakbaaZA
namespace Go.Proofs.Ytahjgdikjaakbaa
open Go.RowKit

theorem give_n (t : TS) (a b : Nat) : (t.give a b).n = t.n := rfl
theorem leave_n (t : TS) (i : Nat) : (t.leave i).n = t.n := by
  unfold TS.leave
  split <;> rfl
theorem deliver_n (t : TS) (i j : Nat) : (t.deliver i j).n = t.n := by
  unfold TS.deliver
  split
  · rfl
  · split <;> rfl
  · rfl
theorem want_n (t : TS) (i : Int) : (t.want i).n = t.n := by
  unfold TS.want
  split
  · split
    · split <;> rfl
    · rfl
  · rfl
theorem leaveI_n (t : TS) (i : Int) : (t.leaveI i).n = t.n := by
  unfold TS.leaveI
  split
  · split
    · exact leave_n _ _
    · rfl
  · rfl
theorem delI_n (t : TS) (a b : Int) : (t.delI a b).n = t.n := by
  unfold TS.delI
  split
  · exact deliver_n _ _ _
  · rfl
theorem act_n (t : TS) (x : Int) : (t.act x).n = t.n := by
  unfold TS.act
  split
  · exact want_n _ _
  · split
    · exact leaveI_n _ _
    · split
      · rfl
      · exact delI_n _ _ _
theorem Cnt.act {t : TS} {k W : Nat} (O : Ok t k) (h : Cnt t W) (x : Int) : ∃ W', Cnt (t.act x) W' ∧ W' ≤ W + (if t.actB x = true then 1 else 0) := by
  unfold TS.act TS.actB
  split
  · generalize (x / 4) % (t.n : Int) = i
    unfold TS.want TS.wantE
    by_cases ht : thereB t.n i = true
    · obtain ⟨a, rfl, ha⟩ := thereB_out ht
      rw [if_pos ht, if_pos ht, Int.toNat_natCast]
      by_cases hm : t.m a = 0
      · rw [if_pos hm, if_pos hm]
        by_cases hh : t.holder = a
        · rw [if_pos hh]
          exact ⟨W, h.hold O.1 ha hm, by omega⟩
        · rw [if_neg hh]
          exact ⟨W + 1, h.ask O.1 ha hm, by simp⟩
      · rw [if_neg hm, if_neg hm]
        exact ⟨W, h, by omega⟩
    · rw [if_neg ht, if_neg ht]
      exact ⟨W, h, by omega⟩
  · split
    · unfold TS.leaveI
      by_cases ht : thereB t.n t.insI = true
      · obtain ⟨a, ea, ha⟩ := thereB_out ht
        rw [if_pos ht, ea, Int.toNat_natCast]
        split
        · rename_i hm
          exact ⟨W, h.leave O.1 ha hm, by omega⟩
        · exact ⟨W, h, by omega⟩
      · rw [if_neg ht]
        exact ⟨W, h, by omega⟩
    · split
      · exact ⟨W, h, by omega⟩
      · unfold TS.delI
        split
        · rename_i ht
          obtain ⟨i, ei, hi⟩ := thereB_out ht.1
          obtain ⟨j, ej, hj⟩ := thereB_out ht.2.1
          rw [ei, ej, Int.toNat_natCast, Int.toNat_natCast]
          exact ⟨W, h.deliver O.1 hi hj, by omega⟩
        · exact ⟨W, h, by omega⟩
theorem mem_thoseF (ms : List Int) (m : Int) (k : Nat) (x : Int) : x ∈ thoseF ms m k ↔ ∃ a : Nat, a < k ∧ x = a ∧ ms.getD a 0 = m := by
  induction k with
  | zero => exact ⟨(fun h => by cases h), fun ⟨a, h, _⟩ => absurd h (Nat.not_lt_zero a)⟩
  | succ k ih =>
    unfold thoseF
    split
    · rename_i e
      rw [List.mem_append, ih, List.mem_singleton]
      constructor
      · rintro (⟨a, h1, h2, h3⟩ | rfl)
        · exact ⟨a, by omega, h2, h3⟩
        · exact ⟨k, by omega, rfl, e⟩
      · rintro ⟨a, h1, h2, h3⟩
        by_cases ea : a = k
        · subst ea; exact .inr h2
        · exact .inl ⟨a, by omega, h2, h3⟩
    · rename_i e
      rw [ih]
      constructor
      · rintro ⟨a, h1, h2, h3⟩
        exact ⟨a, by omega, h2, h3⟩
      · rintro ⟨a, h1, h2, h3⟩
        by_cases ea : a = k
        · subst ea; exact absurd h3 e
        · exact ⟨a, by omega, h2, h3⟩
theorem wai_mem (t : TS) (x : Int) : x ∈ t.wai ↔ ∃ a : Nat, a < t.n ∧ x = a ∧ t.m a = 1 := mem_thoseF _ _ _ _
theorem insI_cases {t : TS} (I : Inv t) : (t.insI = -1 ∧ ∀ a, a < t.n → t.m a ≠ 2) ∨ ∃ a : Nat, a < t.n ∧ t.insI = a ∧ t.m a = 2 ∧ t.holder = a := by
  unfold TS.insI headF
  cases h : thoseF t.mood 2 t.n with
  | nil =>
    refine .inl ⟨rfl, fun a ha hm => ?_⟩
    have : (a : Int) ∈ thoseF t.mood 2 t.n := (mem_thoseF _ _ _ _).2 ⟨a, ha, rfl, hm⟩
    rw [h] at this
    cases this
  | cons x l =>
    have : x ∈ thoseF t.mood 2 t.n := by rw [h]; exact List.mem_cons_self ..
    obtain ⟨a, ha, e, hm⟩ := (mem_thoseF _ _ _ _).1 this
    exact .inr ⟨a, ha, e, hm, I.ins a ha hm⟩
/-- How many tokens are on their way. -/
def tokC (l : List Cal) : Nat := l.countP fun c => c.2.2.isTok
theorem tokC_app (a b : List Cal) : tokC (a ++ b) = tokC a + tokC b := by unfold tokC; rw [List.countP_append]
theorem tokC_mkL (a b : Nat) (l : List Msg) : tokC (mkL a b l) = l.count .tok := by
  unfold tokC mkL
  rw [List.countP_map, List.count]
  congr 1
  funext m
  cases m <;> rfl
theorem tokC_cals (t : TS) : tokC t.cals = sumN (fun a => sumN (fun b => (t.fl a b).count .tok) t.n) t.n := by
  have h1 : ∀ a n, tokC (rowL t.fl a n) = sumN (fun b => (t.fl a b).count .tok) n := by
    intro a n
    induction n with
    | zero => rfl
    | succ n ih => show tokC (rowL t.fl a n ++ mkL a n (t.fl a n)) = _; rw [tokC_app, ih, tokC_mkL]; rfl
  have h2 : ∀ m, tokC (colL t.fl t.n m) = sumN (fun a => sumN (fun b => (t.fl a b).count .tok) t.n) m := by
    intro m
    induction m with
    | zero => rfl
    | succ m ih => show tokC (colL t.fl t.n m ++ rowL t.fl m t.n) = _; rw [tokC_app, ih, h1]; rfl
  exact h2 t.n
theorem sumN_zero {f : Nat → Nat} {n : Nat} (h : ∀ i, i < n → f i = 0) : sumN f n = 0 := by
  induction n with
  | zero => rfl
  | succ n ih => unfold sumN; rw [ih (fun i hi => h i (by omega)), h n (by omega)]
theorem sumN_one {f : Nat → Nat} {n a : Nat} (ha : a < n) (h : ∀ i, i < n → i ≠ a → f i = 0) : sumN f n = f a := by
  have h1 := sumN_upd (f := fun _ => 0) (g := f) ha h
  have h2 := sumN_zero (f := fun _ => 0) (n := n) (fun _ _ => rfl)
  omega
theorem one_token {t : TS} (I : Inv t) : tokC t.cals + (if t.holder = -1 then 0 else 1) = 1 := by
  rw [tokC_cals]
  split
  · rename_i e
    obtain ⟨a, b, ha, hb, _, _, h5, h6⟩ := I.tk e
    rw [sumN_one (f := fun a => sumN (fun b => (t.fl a b).count .tok) t.n) ha, sumN_one (f := fun b => (t.fl a b).count .tok) hb, h5]
    · intro j hj hne
      exact List.count_eq_zero_of_not_mem (h6 a j ha hj (fun h => hne h.2))
    · intro i hi hne
      exact sumN_zero fun j hj => List.count_eq_zero_of_not_mem (h6 i j hi hj (fun h => hne h.1))
  · rename_i e
    rw [sumN_zero fun i hi => sumN_zero fun j hj => List.count_eq_zero_of_not_mem (I.tk0 e i j hi hj)]
end Go.Proofs.Ytahjgdikjaakbaa

namespace Go.Proofs.Ytahjgdikjaakbaa
open Go.RowKit

theorem mem_mkL {a b : Nat} {l : List Msg} {c : Cal} (h : c ∈ mkL a b l) : c.1 = a ∧ c.2.1 = b ∧ c.2.2 ∈ l := by
  unfold mkL at h
  obtain ⟨m, hm, rfl⟩ := List.mem_map.1 h
  exact ⟨rfl, rfl, hm⟩
theorem mem_rowL {f : Nat → Nat → List Msg} {a n : Nat} {c : Cal} (h : c ∈ rowL f a n) : c.1 = a ∧ c.2.1 < n ∧ c.2.2 ∈ f c.1 c.2.1 := by
  induction n with
  | zero => cases h
  | succ n ih =>
    have h : c ∈ rowL f a n ++ mkL a n (f a n) := h
    rcases List.mem_append.1 h with h | h
    · obtain ⟨h1, h2, h3⟩ := ih h; exact ⟨h1, by omega, h3⟩
    · obtain ⟨h1, h2, h3⟩ := mem_mkL h; exact ⟨h1, by omega, by rw [h1, h2]; exact h3⟩
theorem mem_colL {f : Nat → Nat → List Msg} {n m : Nat} {c : Cal} (h : c ∈ colL f n m) : c.1 < m ∧ c.2.1 < n ∧ c.2.2 ∈ f c.1 c.2.1 := by
  induction m with
  | zero => cases h
  | succ m ih =>
    have h : c ∈ colL f n m ++ rowL f m n := h
    rcases List.mem_append.1 h with h | h
    · obtain ⟨h1, h2, h3⟩ := ih h; exact ⟨by omega, h2, h3⟩
    · obtain ⟨h1, h2, h3⟩ := mem_rowL h; exact ⟨by omega, h2, h3⟩
theorem mem_cals {t : TS} {c : Cal} (h : c ∈ t.cals) : c.1 < t.n ∧ c.2.1 < t.n ∧ c.2.2 ∈ t.fl c.1 c.2.1 := mem_colL h
theorem cnt_setG {l : List Int} {i : Nat} (hi : i < l.length) (v c : Int) : ((l.set i v).count c : Int) = l.count c - (if l.getD i 0 = c then 1 else 0) + (if v = c then 1 else 0) := by
  have h1 := List.count_set (a := v) (b := c) (l := l) (i := i) hi
  have hg : l.getD i 0 = l[i] := by simp [List.getD_eq_getElem?_getD, hi]
  rw [hg]
  by_cases e : l[i] = c
  · have : 0 < l.count c := List.count_pos_iff.2 (by rw [← e]; exact List.getElem_mem hi)
    rw [if_pos e]
    simp only [e, beq_self_eq_true, if_true] at h1
    rw [h1]
    by_cases e2 : v = c
    · simp [e2]; omega
    · simp [e2]; omega
  · rw [if_neg e]
    simp only [beq_iff_eq, e, if_false] at h1
    rw [h1]
    by_cases e2 : v = c
    · simp [e2]
    · simp [e2]
/-- What each step makes less. -/
def TS.mu (t : TS) : Nat := t.tot + 2 * t.mood.count 1 + t.mood.count 2 + (if t.holder = -1 then 0 else 1)
theorem mu_le {t : TS} {k : Nat} (O : Ok t k) : t.mu ≤ 6 * k + 19 := by
  have h1 := O.2.s0
  have h2 := O.2.tt
  have h3 : t.mood.count 1 ≤ t.mood.length := List.count_le_length
  have h4 : t.mood.count 2 ≤ t.mood.length := List.count_le_length
  rw [O.1.lm] at h3 h4
  have hn := O.1.hn
  unfold TS.mu
  split <;> omega
theorem mu_leave {t : TS} (I : Inv t) {a : Nat} (ha : a < t.n) (hm : t.m a = 2) : (t.leave a).mu < t.mu := by
  obtain ⟨i0, _, hh0, _⟩ := I.left ha hm
  have hh := I.ins a ha hm
  have hm' : t.mood.getD a 0 = 2 := hm
  have c1 := cnt_setG (l := t.mood) (i := a) (by rw [I.lm]; exact ha) 0 1
  have c2 := cnt_setG (l := t.mood) (i := a) (by rw [I.lm]; exact ha) 0 2
  rw [hm'] at c1 c2
  simp at c1 c2
  unfold TS.leave
  split
  · show (t.left a).tot + 2 * (t.mood.set a 0).count 1 + (t.mood.set a 0).count 2 + (if t.holder = -1 then 0 else 1) < t.tot + 2 * t.mood.count 1 + t.mood.count 2 + (if t.holder = -1 then 0 else 1)
    have e : (t.left a).tot = t.tot := rfl
    rw [e]
    omega
  · rename_i x r eq
    obtain ⟨b, e, hb, _⟩ := i0.qm x (by rw [eq]; exact List.mem_cons_self ..)
    subst e
    rw [Int.toNat_natCast]
    have h4 := tot_upd (t := (t.left a).qpop r) (t' := ((t.left a).qpop r).give a b) (v := t.fl a b ++ [.tok]) rfl rfl ha hb
    have e1 : ((t.left a).qpop r).tot = t.tot := rfl
    have e2 : ((t.left a).qpop r).fl a b = t.fl a b := rfl
    rw [e1, e2, List.length_append, List.length_singleton] at h4
    show (((t.left a).qpop r).give a b).tot + 2 * (t.mood.set a 0).count 1 + (t.mood.set a 0).count 2 + (if (-1 : Int) = -1 then 0 else 1) < t.tot + 2 * t.mood.count 1 + t.mood.count 2 + (if t.holder = -1 then 0 else 1)
    rw [if_pos rfl, if_neg (by omega)]
    omega
theorem mu_deliver {t : TS} (I : Inv t) {i j : Nat} (hi : i < t.n) (hj : j < t.n) (hf : t.fl i j ≠ []) : (t.deliver i j).mu < t.mu := by
  unfold TS.deliver
  split
  · rename_i h; exact absurd h hf
  · rename_i no xs hf
    have h4 := tot_upd (t := t) (t' := t.learn i j no xs) (v := xs) rfl rfl hi hj
    rw [hf, List.length_cons] at h4
    split
    · rename_i hc
      have h5 := tot_upd (t := t.learn i j no xs) (t' := (t.learn i j no xs).give j i) (v := (t.learn i j no xs).fl j i ++ [.tok]) rfl rfl hj hi
      rw [List.length_append, List.length_singleton] at h5
      show ((t.learn i j no xs).give j i).tot + 2 * t.mood.count 1 + t.mood.count 2 + (if (-1 : Int) = -1 then 0 else 1) < t.tot + 2 * t.mood.count 1 + t.mood.count 2 + (if t.holder = -1 then 0 else 1)
      rw [if_pos rfl, if_neg (by omega)]
      omega
    · show (t.learn i j no xs).tot + 2 * t.mood.count 1 + t.mood.count 2 + (if t.holder = -1 then 0 else 1) < t.tot + 2 * t.mood.count 1 + t.mood.count 2 + (if t.holder = -1 then 0 else 1)
      omega
  · rename_i xs hf
    have h4 := tot_upd (t := t) (t' := t.gets i j xs) (v := xs) rfl rfl hi hj
    rw [hf, List.length_cons] at h4
    have hho : t.holder = -1 := by
      by_cases e : t.holder = -1
      · exact e
      · exact absurd (by rw [hf]; exact List.mem_cons_self ..) (I.tk0 e i j hi hj)
    obtain ⟨a, b, ha, hb, h3, _, h5, h6⟩ := I.tk hho
    have hab : i = a ∧ j = b := by
      by_cases e : i = a ∧ j = b
      · exact e
      · exact absurd (by rw [hf]; exact List.mem_cons_self ..) (h6 i j hi hj e)
    obtain ⟨rfl, rfl⟩ := hab
    have h3 : t.mood.getD j 0 = 1 := h3
    have c1 := cnt_setG (l := t.mood) (i := j) (by rw [I.lm]; exact hj) 2 1
    have c2 := cnt_setG (l := t.mood) (i := j) (by rw [I.lm]; exact hj) 2 2
    rw [h3] at c1 c2
    simp at c1 c2
    show (t.gets i j xs).tot + 2 * (t.mood.set j 2).count 1 + (t.mood.set j 2).count 2 + (if (j : Int) = -1 then 0 else 1) < t.tot + 2 * t.mood.count 1 + t.mood.count 2 + (if t.holder = -1 then 0 else 1)
    rw [if_pos hho, if_neg (by omega)]
    omega
/-- Where nothing is on its way and nobody is inside, nobody waits. -/
theorem quiet_all {t : TS} (I : Inv t) (hin : t.insI = -1) (hc : t.cals = []) : (∀ a, a < t.n → t.m a = 0) ∧ t.queue = [] ∧ t.holder ≠ -1 ∧ t.wai = [] := by
  have hnf : ∀ i j, i < t.n → j < t.n → t.fl i j = [] := by
    intro i j hi hj
    have h1 := TS.len_le (t := t) hi hj
    rw [← cals_len, hc] at h1
    exact List.eq_nil_of_length_eq_zero (by simpa using h1)
  have hn2 : ∀ a, a < t.n → t.m a ≠ 2 := by
    rcases insI_cases I with ⟨_, h⟩ | ⟨a, _, h1, _⟩
    · exact h
    · omega
  have hho : t.holder ≠ -1 := by
    intro e
    obtain ⟨a, b, ha, hb, _, _, h5, _⟩ := I.tk e
    rw [hnf a b ha hb] at h5
    cases h5
  obtain ⟨h, eh, hl⟩ := I.hh.resolve_left hho
  have hmh : t.m h = 0 := by
    rcases I.md h hl with e | e | e
    · exact e
    · exact absurd eh (I.hw h hl e)
    · exact absurd e (hn2 h hl)
  obtain ⟨q1, q2⟩ := I.li h hl eh hmh
  have all : ∀ a, a < t.n → t.m a = 0 := by
    intro a ha
    rcases I.md a ha with e | e | e
    · exact e
    · exfalso
      have hne : h ≠ a := by rintro rfl; omega
      have h1 := I.sv2 a ha e
      have h2 := q2 a ha
      rcases I.lv h a hl ha e hne with h3 | h3
      · omega
      · rw [hnf a h ha hl] at h3; cases h3
    · exact absurd e (hn2 a ha)
  refine ⟨all, q1, hho, ?_⟩
  cases hw : t.wai with
  | nil => rfl
  | cons x l =>
    have : x ∈ t.wai := by rw [hw]; exact List.mem_cons_self ..
    obtain ⟨a, ha, _, hm⟩ := (wai_mem t x).1 this
    rw [all a ha] at hm; cases hm
/-- Who waited, and has not been at the rope, waits still, or is there. -/
def Been (W : Nat → Prop) (t : TS) (been : Nat) : Prop := ∀ a, a < t.n → W a → t.m a ≠ 0 ∨ been.testBit a = true
theorem been_leave {W : Nat → Prop} {t : TS} {been : Nat} (I : Inv t) {a : Nat} (ha : a < t.n) (_hm : t.m a = 2) (h : Been W t been) (hb : been.testBit a = true) : Been W (t.leave a) been := by
  intro c hc hw
  rw [leave_n] at hc
  have em : (t.leave a).m c = if a = c then 0 else t.m c := by
    have e0 : ∀ d, (t.left a).m d = if a = d then 0 else t.m d := fun d => getD_set _ _ _ _ _ (by rw [I.lm]; exact ha)
    unfold TS.leave
    split
    · exact e0 c
    · exact e0 c
  rw [em]
  split
  · rename_i e; subst e; exact .inr hb
  · exact h c hc hw
theorem been_deliver {W : Nat → Prop} {t : TS} {been : Nat} (I : Inv t) {i j : Nat} (hj : j < t.n) (h : Been W t been) : Been W (t.deliver i j) been := by
  intro c hc hw
  rw [deliver_n] at hc
  have em : (t.deliver i j).m c = t.m c ∨ (t.deliver i j).m c = 2 := by
    unfold TS.deliver
    split
    · exact .inl rfl
    · split <;> exact .inl rfl
    · rename_i xs hf
      have e0 : (t.gets i j xs).m c = if j = c then 2 else t.m c := getD_set _ _ _ _ _ (by rw [I.lm]; exact hj)
      rw [e0]
      split
      · exact .inr rfl
      · exact .inl rfl
  rcases em with e | e
  · rw [e]; exact h c hc hw
  · left; rw [e]; omega
theorem been_more {W : Nat → Prop} {t : TS} {been : Nat} (h : Been W t been) (x : Nat) : Been W t (been ||| x) := by
  intro c hc hw
  rcases h c hc hw with h1 | h1
  · exact .inl h1
  · right; rw [Nat.testBit_or, h1]; rfl
end Go.Proofs.Ytahjgdikjaakbaa
