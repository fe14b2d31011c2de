/- What is proved: everyone who waits comes to the rope. No condition beyond those in each statement. -/
import Derived.Test.YtahjgdikjaakbaaPe
namespace Go.Proofs.Ytahjgdikjaakbaa
open Go.RowKit

theorem mem_mkL {a b : Nat} {l : List Msg} {c : Cal} (h : c ∈ mkL a b l) : c.1 = a ∧ c.2.1 = b ∧ c.2.2 ∈ l := by
  unfold mkL at h
  obtain ⟨m, hm, rfl⟩ := List.mem_map.1 h
  exact ⟨rfl, rfl, hm⟩
theorem mem_rowL {f : Nat → Nat → List Msg} {a n : Nat} {c : Cal} (h : c ∈ rowL f a n) : c.1 = a ∧ c.2.1 < n ∧ c.2.2 ∈ f c.1 c.2.1 := by
  induction n with
  | zero => cases h
  | succ n ih =>
    have h : c ∈ rowL f a n ++ mkL a n (f a n) := h
    rcases List.mem_append.1 h with h | h
    · obtain ⟨h1, h2, h3⟩ := ih h; exact ⟨h1, by omega, h3⟩
    · obtain ⟨h1, h2, h3⟩ := mem_mkL h; exact ⟨h1, by omega, by rw [h1, h2]; exact h3⟩
theorem mem_colL {f : Nat → Nat → List Msg} {n m : Nat} {c : Cal} (h : c ∈ colL f n m) : c.1 < m ∧ c.2.1 < n ∧ c.2.2 ∈ f c.1 c.2.1 := by
  induction m with
  | zero => cases h
  | succ m ih =>
    have h : c ∈ colL f n m ++ rowL f m n := h
    rcases List.mem_append.1 h with h | h
    · obtain ⟨h1, h2, h3⟩ := ih h; exact ⟨by omega, h2, h3⟩
    · obtain ⟨h1, h2, h3⟩ := mem_rowL h; exact ⟨by omega, h2, h3⟩
theorem mem_cals {t : TS} {c : Cal} (h : c ∈ t.cals) : c.1 < t.n ∧ c.2.1 < t.n ∧ c.2.2 ∈ t.fl c.1 c.2.1 := mem_colL h
theorem cnt_setG {l : List Int} {i : Nat} (hi : i < l.length) (v c : Int) : ((l.set i v).count c : Int) = l.count c - (if l.getD i 0 = c then 1 else 0) + (if v = c then 1 else 0) := by
  have h1 := List.count_set (a := v) (b := c) (l := l) (i := i) hi
  have hg : l.getD i 0 = l[i] := by simp [List.getD_eq_getElem?_getD, hi]
  rw [hg]
  by_cases e : l[i] = c
  · have : 0 < l.count c := List.count_pos_iff.2 (by rw [← e]; exact List.getElem_mem hi)
    rw [if_pos e]
    simp only [e, beq_self_eq_true, if_true] at h1
    rw [h1]
    by_cases e2 : v = c
    · simp [e2]; omega
    · simp [e2]; omega
  · rw [if_neg e]
    simp only [beq_iff_eq, e, if_false] at h1
    rw [h1]
    by_cases e2 : v = c
    · simp [e2]
    · simp [e2]
/-- What each step makes less. -/
def TS.mu (t : TS) : Nat := t.tot + 2 * t.mood.count 1 + t.mood.count 2 + (if t.holder = -1 then 0 else 1)
theorem mu_le {t : TS} {k : Nat} (O : Ok t k) : t.mu ≤ 6 * k + 19 := by
  have h1 := O.2.s0
  have h2 := O.2.tt
  have h3 : t.mood.count 1 ≤ t.mood.length := List.count_le_length
  have h4 : t.mood.count 2 ≤ t.mood.length := List.count_le_length
  rw [O.1.lm] at h3 h4
  have hn := O.1.hn
  unfold TS.mu
  split <;> omega
theorem mu_leave {t : TS} (I : Inv t) {a : Nat} (ha : a < t.n) (hm : t.m a = 2) : (t.leave a).mu < t.mu := by
  obtain ⟨i0, _, hh0, _⟩ := I.left ha hm
  have hh := I.ins a ha hm
  have hm' : t.mood.getD a 0 = 2 := hm
  have c1 := cnt_setG (l := t.mood) (i := a) (by rw [I.lm]; exact ha) 0 1
  have c2 := cnt_setG (l := t.mood) (i := a) (by rw [I.lm]; exact ha) 0 2
  rw [hm'] at c1 c2
  simp at c1 c2
  unfold TS.leave
  split
  · show (t.left a).tot + 2 * (t.mood.set a 0).count 1 + (t.mood.set a 0).count 2 + (if t.holder = -1 then 0 else 1) < t.tot + 2 * t.mood.count 1 + t.mood.count 2 + (if t.holder = -1 then 0 else 1)
    have e : (t.left a).tot = t.tot := rfl
    rw [e]
    omega
  · rename_i x r eq
    obtain ⟨b, e, hb, _⟩ := i0.qm x (by rw [eq]; exact List.mem_cons_self ..)
    subst e
    rw [Int.toNat_natCast]
    have h4 := tot_upd (t := (t.left a).qpop r) (t' := ((t.left a).qpop r).give a b) (v := t.fl a b ++ [.tok]) rfl rfl ha hb
    have e1 : ((t.left a).qpop r).tot = t.tot := rfl
    have e2 : ((t.left a).qpop r).fl a b = t.fl a b := rfl
    rw [e1, e2, List.length_append, List.length_singleton] at h4
    show (((t.left a).qpop r).give a b).tot + 2 * (t.mood.set a 0).count 1 + (t.mood.set a 0).count 2 + (if (-1 : Int) = -1 then 0 else 1) < t.tot + 2 * t.mood.count 1 + t.mood.count 2 + (if t.holder = -1 then 0 else 1)
    rw [if_pos rfl, if_neg (by omega)]
    omega
theorem mu_deliver {t : TS} (I : Inv t) {i j : Nat} (hi : i < t.n) (hj : j < t.n) (hf : t.fl i j ≠ []) : (t.deliver i j).mu < t.mu := by
  unfold TS.deliver
  split
  · rename_i h; exact absurd h hf
  · rename_i no xs hf
    have h4 := tot_upd (t := t) (t' := t.learn i j no xs) (v := xs) rfl rfl hi hj
    rw [hf, List.length_cons] at h4
    split
    · rename_i hc
      have h5 := tot_upd (t := t.learn i j no xs) (t' := (t.learn i j no xs).give j i) (v := (t.learn i j no xs).fl j i ++ [.tok]) rfl rfl hj hi
      rw [List.length_append, List.length_singleton] at h5
      show ((t.learn i j no xs).give j i).tot + 2 * t.mood.count 1 + t.mood.count 2 + (if (-1 : Int) = -1 then 0 else 1) < t.tot + 2 * t.mood.count 1 + t.mood.count 2 + (if t.holder = -1 then 0 else 1)
      rw [if_pos rfl, if_neg (by omega)]
      omega
    · show (t.learn i j no xs).tot + 2 * t.mood.count 1 + t.mood.count 2 + (if t.holder = -1 then 0 else 1) < t.tot + 2 * t.mood.count 1 + t.mood.count 2 + (if t.holder = -1 then 0 else 1)
      omega
  · rename_i xs hf
    have h4 := tot_upd (t := t) (t' := t.gets i j xs) (v := xs) rfl rfl hi hj
    rw [hf, List.length_cons] at h4
    have hho : t.holder = -1 := by
      by_cases e : t.holder = -1
      · exact e
      · exact absurd (by rw [hf]; exact List.mem_cons_self ..) (I.tk0 e i j hi hj)
    obtain ⟨a, b, ha, hb, h3, _, h5, h6⟩ := I.tk hho
    have hab : i = a ∧ j = b := by
      by_cases e : i = a ∧ j = b
      · exact e
      · exact absurd (by rw [hf]; exact List.mem_cons_self ..) (h6 i j hi hj e)
    obtain ⟨rfl, rfl⟩ := hab
    have h3 : t.mood.getD j 0 = 1 := h3
    have c1 := cnt_setG (l := t.mood) (i := j) (by rw [I.lm]; exact hj) 2 1
    have c2 := cnt_setG (l := t.mood) (i := j) (by rw [I.lm]; exact hj) 2 2
    rw [h3] at c1 c2
    simp at c1 c2
    show (t.gets i j xs).tot + 2 * (t.mood.set j 2).count 1 + (t.mood.set j 2).count 2 + (if (j : Int) = -1 then 0 else 1) < t.tot + 2 * t.mood.count 1 + t.mood.count 2 + (if t.holder = -1 then 0 else 1)
    rw [if_pos hho, if_neg (by omega)]
    omega
/-- Where nothing is on its way and nobody is inside, nobody waits. -/
theorem quiet_all {t : TS} (I : Inv t) (hin : t.insI = -1) (hc : t.cals = []) : (∀ a, a < t.n → t.m a = 0) ∧ t.queue = [] ∧ t.holder ≠ -1 ∧ t.wai = [] := by
  have hnf : ∀ i j, i < t.n → j < t.n → t.fl i j = [] := by
    intro i j hi hj
    have h1 := TS.len_le (t := t) hi hj
    rw [← cals_len, hc] at h1
    exact List.eq_nil_of_length_eq_zero (by simpa using h1)
  have hn2 : ∀ a, a < t.n → t.m a ≠ 2 := by
    rcases insI_cases I with ⟨_, h⟩ | ⟨a, _, h1, _⟩
    · exact h
    · omega
  have hho : t.holder ≠ -1 := by
    intro e
    obtain ⟨a, b, ha, hb, _, _, h5, _⟩ := I.tk e
    rw [hnf a b ha hb] at h5
    cases h5
  obtain ⟨h, eh, hl⟩ := I.hh.resolve_left hho
  have hmh : t.m h = 0 := by
    rcases I.md h hl with e | e | e
    · exact e
    · exact absurd eh (I.hw h hl e)
    · exact absurd e (hn2 h hl)
  obtain ⟨q1, q2⟩ := I.li h hl eh hmh
  have all : ∀ a, a < t.n → t.m a = 0 := by
    intro a ha
    rcases I.md a ha with e | e | e
    · exact e
    · exfalso
      have hne : h ≠ a := by rintro rfl; omega
      have h1 := I.sv2 a ha e
      have h2 := q2 a ha
      rcases I.lv h a hl ha e hne with h3 | h3
      · omega
      · rw [hnf a h ha hl] at h3; cases h3
    · exact absurd e (hn2 a ha)
  refine ⟨all, q1, hho, ?_⟩
  cases hw : t.wai with
  | nil => rfl
  | cons x l =>
    have : x ∈ t.wai := by rw [hw]; exact List.mem_cons_self ..
    obtain ⟨a, ha, _, hm⟩ := (wai_mem t x).1 this
    rw [all a ha] at hm; cases hm
/-- Who waited, and has not been at the rope, waits still, or is there. -/
def Been (W : Nat → Prop) (t : TS) (been : Nat) : Prop := ∀ a, a < t.n → W a → t.m a ≠ 0 ∨ been.testBit a = true
theorem been_leave {W : Nat → Prop} {t : TS} {been : Nat} (I : Inv t) {a : Nat} (ha : a < t.n) (_hm : t.m a = 2) (h : Been W t been) (hb : been.testBit a = true) : Been W (t.leave a) been := by
  intro c hc hw
  rw [leave_n] at hc
  have em : (t.leave a).m c = if a = c then 0 else t.m c := by
    have e0 : ∀ d, (t.left a).m d = if a = d then 0 else t.m d := fun d => getD_set _ _ _ _ _ (by rw [I.lm]; exact ha)
    unfold TS.leave
    split
    · exact e0 c
    · exact e0 c
  rw [em]
  split
  · rename_i e; subst e; exact .inr hb
  · exact h c hc hw
theorem been_deliver {W : Nat → Prop} {t : TS} {been : Nat} (I : Inv t) {i j : Nat} (hj : j < t.n) (h : Been W t been) : Been W (t.deliver i j) been := by
  intro c hc hw
  rw [deliver_n] at hc
  have em : (t.deliver i j).m c = t.m c ∨ (t.deliver i j).m c = 2 := by
    unfold TS.deliver
    split
    · exact .inl rfl
    · split <;> exact .inl rfl
    · rename_i xs hf
      have e0 : (t.gets i j xs).m c = if j = c then 2 else t.m c := getD_set _ _ _ _ _ (by rw [I.lm]; exact hj)
      rw [e0]
      split
      · exact .inr rfl
      · exact .inl rfl
  rcases em with e | e
  · rw [e]; exact h c hc hw
  · left; rw [e]; omega
theorem been_more {W : Nat → Prop} {t : TS} {been : Nat} (h : Been W t been) (x : Nat) : Been W t (been ||| x) := by
  intro c hc hw
  rcases h c hc hw with h1 | h1
  · exact .inl h1
  · right; rw [Nat.testBit_or, h1]; rfl
end Go.Proofs.Ytahjgdikjaakbaa
