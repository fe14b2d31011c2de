/- What is proved: First Fit by From uses as many numbers as the depth; a cutwidth is the depth of an order's spans. No condition beyond those in each statement. -/
import Derived.Test.YthnhmfmlhlpggaaZZ
import Derived.Test.YthnhmfmlhlpggaaPc
namespace Go.Proofs.Ythnhmfmlhlpggaa
open Go.RowKit
set_option maxRecDepth 100000

theorem nodup_le {α : Type} [DecidableEq α] : ∀ {l L : List α}, l.Nodup → (∀ x ∈ l, x ∈ L) → l.length ≤ L.length
  | [], _, _, _ => Nat.zero_le _
  | a :: l, L, hn, hs => by
    have ha : a ∈ L := hs a (List.mem_cons_self ..)
    have h1 := List.nodup_cons.1 hn
    have ih := nodup_le (l := l) (L := L.erase a) h1.2 (fun x hx => (List.mem_erase_of_ne (by rintro rfl; exact h1.1 hx)).2 (hs x (List.mem_cons_of_mem _ hx)))
    rw [List.length_erase_of_mem ha] at ih
    have : 0 < L.length := List.length_pos_of_mem ha
    rw [List.length_cons]
    omega
theorem dep_ge (es : List (Int × Int)) : ∀ k i, i < k → cntS es (es.getD i (0, 0)).1 ≤ depS es k
  | 0, _, h => absurd h (Nat.not_lt_zero _)
  | k + 1, i, h => by
    unfold depS
    by_cases e : i = k
    · subst e; omega
    · have := dep_ge es k i (by omega); omega
theorem dep_le {es : List (Int × Int)} {B : Nat} (h : ∀ x, cntS es x ≤ B) : ∀ k, depS es k ≤ B
  | 0 => Nat.zero_le _
  | k + 1 => by
    have := dep_le h k
    have := h (es.getD k (0, 0)).1
    unfold depS
    omega
theorem dep_le' {es : List (Int × Int)} {B : Nat} : ∀ k, (∀ i, i < k → cntS es (es.getD i (0, 0)).1 ≤ B) → depS es k ≤ B
  | 0, _ => Nat.zero_le _
  | k + 1, h => by
    have := dep_le' k (fun i hi => h i (by omega))
    have := h k (by omega)
    unfold depS
    omega
theorem cnt_mono {es : List (Int × Int)} {x y : Int} (h : ∀ e ∈ es, hasB x e = true → hasB y e = true) : cntS es x ≤ cntS es y := by
  unfold cntS
  rw [← List.countP_eq_length_filter, ← List.countP_eq_length_filter]
  exact List.countP_mono_left h
theorem max_mem {α : Type} (f : α → Int) : ∀ l : List α, l ≠ [] → ∃ m ∈ l, ∀ x ∈ l, f x ≤ f m
  | [], h => absurd rfl h
  | [a], _ => ⟨a, by simp, by simp⟩
  | a :: b :: l, _ => by
    obtain ⟨m, hm, h⟩ := max_mem f (b :: l) (by simp)
    by_cases e : f m ≤ f a
    · exact ⟨a, by simp, fun x hx => by
        rcases List.mem_cons.1 hx with rfl | hx
        · exact Int.le_refl _
        · exact Int.le_trans (h x hx) e⟩
    · exact ⟨m, List.mem_cons_of_mem _ hm, fun x hx => by
        rcases List.mem_cons.1 hx with rfl | hx
        · omega
        · exact h x hx⟩
theorem has_iff {x : Int} {e : Int × Int} : hasB x e = true ↔ e.1 ≤ x ∧ x < e.2 := by
  unfold hasB; rw [Bool.and_eq_true, decide_eq_true_eq, decide_eq_true_eq]
/-- No place is in more spans than the depth. -/
theorem cnt_le_dep (es : List (Int × Int)) (x : Int) : cntS es x ≤ depS es es.length := by
  by_cases h0 : es.filter (hasB x) = []
  · unfold cntS; rw [h0]; exact Nat.zero_le _
  · obtain ⟨m, hm, hmax⟩ := max_mem (fun e : Int × Int => e.1) _ h0
    have hm2 := List.mem_filter.1 hm
    have h1 : cntS es x ≤ cntS es m.1 := cnt_mono fun e he h => by
      have h2 := has_iff.1 h
      have h3 := hmax e (List.mem_filter.2 ⟨he, h⟩)
      have h4 := has_iff.1 hm2.2
      exact has_iff.2 ⟨h3, by omega⟩
    obtain ⟨i, hi, e⟩ := List.getElem_of_mem hm2.1
    have h5 := dep_ge es es.length i hi
    rw [getD_lt (0, 0) () hi, e] at h5
    omega

theorem ov_comm (a b : Int × Int) : ovB a b = ovB b a := by unfold ovB; rw [Int.max_comm, Int.min_comm]
theorem cnt_perm {es fs : List (Int × Int)} (h : es.Perm fs) (x : Int) : cntS es x = cntS fs x := (h.filter _).length_eq
theorem ordS_perm {es : List (Int × Int)} {ys : List Int} (h : IsOrd es.length ys) : (ordS es ys).Perm es := by
  have h1 : (ordS es ys).Perm (ordS es (idn es.length)) := List.Perm.map _ h
  have h2 : ordS es (idn es.length) = es := by
    unfold ordS idn
    rw [List.map_map]
    apply List.ext_getElem
    · simp
    · intro i h1 h2
      simp only [List.getElem_map, List.getElem_range, Function.comp, Int.toNat_natCast]
      exact getD_lt _ () h2
  rwa [h2] at h1
theorem ordS_at {es : List (Int × Int)} {ys : List Int} {k : Nat} (hk : k < ys.length) : (ordS es ys).getD k (0, 0) = es.getD (ys.getD k 0).toNat (0, 0) := by
  rw [getD_lt (0, 0) () (by rw [ordS_len]; exact hk), getD_lt 0 () hk]
  simp [ordS]
theorem filter_index (p : Int × Int → Bool) (l : List (Int × Int)) : ((List.range l.length).filter fun j => p (l.getD j (0, 0))).length = (l.filter p).length := by
  have e : l = (List.range l.length).map fun j => l.getD j (0, 0) := by
    apply List.ext_getElem
    · simp
    · intro i h1 h2
      simp only [List.getElem_map, List.getElem_range]
      exact (getD_lt _ () h1).symm
  conv => rhs; rw [e, List.filter_map, List.length_map]
  rfl
/-- First Fit by From: no number is as great as the depth. -/
theorem fit_depth {ss : List (Int × Int)} {fc : List Int} (hs : ∀ e ∈ ss, e.1 < e.2) (hl : fc.length = ss.length) (hf : FitOk ss fc) (hr : ∀ p q, p < q → q < ss.length → (ss.getD p (0, 0)).1 ≤ (ss.getD q (0, 0)).1) {k : Nat} (hk : k < ss.length) : fc.getD k 0 < cntS ss (ss.getD k (0, 0)).1 := by
  obtain ⟨⟨c0, _⟩, _, hlow⟩ := hf k (by omega)
  obtain ⟨c, hc⟩ := Int.eq_ofNat_of_zero_le c0
  have hin : ss.getD k (0, 0) ∈ ss := by rw [getD_lt (0, 0) () hk]; exact List.getElem_mem hk
  have key : (List.range (c + 1)).length ≤ (((List.range ss.length).filter fun j => hasB (ss.getD k (0, 0)).1 (ss.getD j (0, 0))).map fun j => (fc.getD j 0).toNat).length := by
    refine nodup_le List.nodup_range fun d hd => ?_
    rw [List.mem_range] at hd
    rw [List.mem_map]
    by_cases e : d = c
    · refine ⟨k, List.mem_filter.2 ⟨List.mem_range.2 hk, has_iff.2 ⟨Int.le_refl _, hs _ hin⟩⟩, ?_⟩
      show (fc.getD k 0).toNat = d
      rw [hc]; omega
    · obtain ⟨j, hj, e1, e2⟩ := hlow d (by omega)
      refine ⟨j, List.mem_filter.2 ⟨List.mem_range.2 (by omega), has_iff.2 ⟨hr j k hj hk, ?_⟩⟩, ?_⟩
      · unfold ovB at e2
        rw [decide_eq_true_eq] at e2
        omega
      · show (fc.getD j 0).toNat = d
        rw [e1]; omega
  rw [List.length_range, List.length_map, filter_index (hasB (ss.getD k (0, 0)).1) ss] at key
  show fc.getD k 0 < ((ss.filter (hasB (ss.getD k (0, 0)).1)).length : Int)
  omega

/-- A colouring of spans. -/
def PropS (es : List (Int × Int)) (cols : List Int) : Prop := ∀ i j, i < es.length → j < i → ovB (es.getD i (0, 0)) (es.getD j (0, 0)) = true → cols.getD i 0 ≠ cols.getD j 0
theorem best_law {es : List (Int × Int)} {cols : List Int} (ho : SpOk es) (h : BestOk es cols) : PropS es cols ∧ ∀ i, i < es.length → 0 ≤ cols.getD i 0 ∧ cols.getD i 0 < depS es es.length := by
  obtain ⟨hl, ys, fc, hy, hr, hfl, hf, hc⟩ := h
  have hyl := hy.len
  have hol : (ordS es ys).length = es.length := by rw [ordS_len, hyl]
  -- where i stands
  have hat : ∀ i, i < es.length → ∃ k, k < es.length ∧ ys.getD k 0 = (i : Int) ∧ cols.getD i 0 = fc.getD k 0 ∧ (ordS es ys).getD k (0, 0) = es.getD i (0, 0) := fun i hi => by
    obtain ⟨k, hk, e, _⟩ := pos_of hy (v := (i : Int)) (by omega)
    refine ⟨k, hk, e, ?_, ?_⟩
    · have := hc k hk
      rw [e, Int.toNat_natCast] at this
      exact this
    · rw [ordS_at (by omega), e, Int.toNat_natCast]
  have hrr : ∀ p q, p < q → q < (ordS es ys).length → ((ordS es ys).getD p (0, 0)).1 ≤ ((ordS es ys).getD q (0, 0)).1 := fun p q h1 h2 => by
    rw [hol] at h2
    rw [ordS_at (by omega), ordS_at (by omega)]
    exact hr p q (Nat.zero_le _) h1 h2
  have hso := ordS_ok ho hy
  refine ⟨fun i j hi hj hov => ?_, fun i hi => ?_⟩
  · obtain ⟨k, hk, e1, e2, e3⟩ := hat i hi
    obtain ⟨m, hm, f1, f2, f3⟩ := hat j (by omega)
    rw [e2, f2]
    rw [← e3, ← f3] at hov
    rcases Nat.lt_trichotomy k m with h | h | h
    · have := (hf m (by omega)).2.1 k h (by rw [ov_comm]; exact hov)
      exact this
    · exfalso
      subst h
      rw [e1] at f1
      omega
    · have := (hf k (by omega)).2.1 m h hov
      exact fun e => this e.symm
  · obtain ⟨k, hk, e1, e2, e3⟩ := hat i hi
    rw [e2]
    refine ⟨((hf k (by omega)).1).1, ?_⟩
    have h1 := fit_depth (fun e he => (hso.2 e he).2.1) (by omega) hf hrr (k := k) (by omega)
    rw [cnt_perm (ordS_perm hy)] at h1
    have := cnt_le_dep es ((ordS es ys).getD k (0, 0)).1
    omega

/-- Places by an order. -/
theorem atK_pos {n : Nat} {o : List Int} (ho : IsOrd n o) {x : Int} (hx : 0 ≤ x ∧ x < n) : atK o o.length x = (posF o).getD x.toNat 0 := by
  unfold atK
  rw [List.take_length, if_pos (ho.mem.2 hx)]
  obtain ⟨v, rfl⟩ := Int.eq_ofNat_of_zero_le hx.1
  rw [Int.toNat_natCast, posF_at (by rw [ho.len]; omega)]
theorem span_pos {n : Nat} {o : List Int} (ho : IsOrd n o) {es : List (Int × Int)} (hg : IsG n es) : spanF (atK o o.length) es = spanF (fun x => (posF o).getD x.toNat 0) es := by
  unfold spanF
  refine List.map_congr_left fun e he => ?_
  obtain ⟨h1, h2, _⟩ := hg e he
  rw [atK_pos ho h1, atK_pos ho h2]
theorem span_ok {n : Nat} (hn : n ≤ 8) {o : List Int} (ho : IsOrd n o) {es : List (Int × Int)} (hg : IsG n es) (hl : es.length ≤ 24) : SpOk (spanF (fun x => (posF o).getD x.toNat 0) es) := by
  refine ⟨by unfold spanF; rw [List.length_map]; omega, fun e he => ?_⟩
  obtain ⟨d, hd, rfl⟩ := List.mem_map.1 he
  obtain ⟨h1, h2, h3⟩ := hg d hd
  have r1 := pos_range ho h1
  have r2 := pos_range ho h2
  have hne : (posF o).getD d.1.toNat 0 ≠ (posF o).getD d.2.toNat 0 := fun q => h3 (pos_inj ho h1 h2 q)
  show 0 ≤ min ((posF o).getD d.1.toNat 0) ((posF o).getD d.2.toNat 0) ∧ min ((posF o).getD d.1.toNat 0) ((posF o).getD d.2.toNat 0) < max ((posF o).getD d.1.toNat 0) ((posF o).getD d.2.toNat 0) ∧ max ((posF o).getD d.1.toNat 0) ((posF o).getD d.2.toNat 0) ≤ 1000
  omega
theorem span_cnt (pl : List Int) (es : List (Int × Int)) (p : Nat) : cntS (spanF (fun x => pl.getD x.toNat 0) es) p = (es.filter (overB pl p)).length := by
  unfold cntS spanF
  rw [List.filter_map, List.length_map]
  rfl
/-- The cutwidth is the depth. -/
theorem cut_depth {n : Nat} (hn : n ≤ 8) {o : List Int} (ho : IsOrd n o) {es : List (Int × Int)} (hg : IsG n es) (hl : es.length ≤ 24) : ((depS (spanF (fun x => (posF o).getD x.toNat 0) es) (spanF (fun x => (posF o).getD x.toNat 0) es).length : Nat) : Int) = cutF (posF o) es := by
  have hok := span_ok hn ho hg hl
  obtain ⟨s, hs⟩ : ∃ s, s = spanF (fun x => (posF o).getD x.toNat 0) es := ⟨_, rfl⟩
  have hcnt := span_cnt (posF o) es
  rw [← hs] at hok hcnt ⊢
  have hge := mostF_ge (l := cutsF (posF o) es)
  have h1 : cutF (posF o) es ≤ (depS s s.length : Nat) := by
    refine mostF_le.2 ⟨by omega, fun x hx => ?_⟩
    obtain ⟨p, _, rfl⟩ := List.mem_map.1 hx
    have := cnt_le_dep s (p : Int)
    rw [hcnt] at this
    omega
  have h2 : depS s s.length ≤ (cutF (posF o) es).toNat := by
    refine dep_le' _ fun i hi => ?_
    have hin : s.getD i (0, 0) ∈ s := by rw [getD_lt (0, 0) () hi]; exact List.getElem_mem hi
    have hb := hok.2 _ hin
    obtain ⟨p, hp⟩ := Int.eq_ofNat_of_zero_le hb.1
    have hpn : p < n - 1 := by
      rw [hs] at hin
      obtain ⟨d, hd, e⟩ := List.mem_map.1 hin
      obtain ⟨g1, g2, _⟩ := hg d hd
      have r1 := pos_range ho g1
      have r2 := pos_range ho g2
      have e1 : (s.getD i (0, 0)).1 = min ((posF o).getD d.1.toNat 0) ((posF o).getD d.2.toNat 0) := by rw [hs, ← e]
      have e2 : (s.getD i (0, 0)).2 = max ((posF o).getD d.1.toNat 0) ((posF o).getD d.2.toNat 0) := by rw [hs, ← e]
      omega
    rw [hp, hcnt]
    have hm : (((es.filter (overB (posF o) p)).length : Nat) : Int) ∈ cutsF (posF o) es := by
      unfold cutsF
      refine List.mem_map.2 ⟨p, List.mem_range.2 ?_, rfl⟩
      rw [posF_len, ho.len]; exact hpn
    have := hge.2 _ hm
    show _ ≤ (mostF (cutsF (posF o) es)).toNat
    omega
  have h3 : 0 ≤ cutF (posF o) es := hge.1
  omega
/-- What is left of the sum. -/
def tailS (s : List (Int × Int)) (k : Nat) : Int := ((s.drop k).map fun e => e.2 - e.1).sum
theorem tailS_step {s : List (Int × Int)} {k : Nat} (hk : k < s.length) : tailS s k = (s[k].2 - s[k].1) + tailS s (k + 1) := by
  unfold tailS
  rw [List.drop_eq_getElem_cons hk, List.map_cons, List.sum_cons]
theorem tailS_end (s : List (Int × Int)) : tailS s s.length = 0 := by unfold tailS; rw [List.drop_length]; rfl
theorem tailS_all (pl : List Int) (es : List (Int × Int)) : tailS (spanF (fun x => pl.getD x.toNat 0) es) 0 = totalF pl es := by
  rw [total_eq]
  unfold tailS spanF
  rw [List.drop_zero, List.map_map]
  refine congrArg List.sum (List.map_congr_left fun e _ => ?_)
  show max (pl.getD e.1.toNat 0) (pl.getD e.2.toNat 0) - min (pl.getD e.1.toNat 0) (pl.getD e.2.toNat 0) = lenF pl e
  unfold lenF
  omega
theorem tailS_bd {s : List (Int × Int)} (ho : SpOk s) (k : Nat) : 0 ≤ tailS s k ∧ tailS s k ≤ 100000 := by
  have h1 : ∀ x ∈ (s.drop k).map (fun e => e.2 - e.1), 0 ≤ x ∧ x ≤ 1000 := fun x hx => by
    obtain ⟨e, he, rfl⟩ := List.mem_map.1 hx
    have := ho.2 e (List.mem_of_mem_drop he)
    show 0 ≤ e.2 - e.1 ∧ e.2 - e.1 ≤ 1000
    omega
  have a := sum_le (B := 1000) (fun x hx => (h1 x hx).2)
  have b := sum_ge (B := 0) (fun x hx => (h1 x hx).1)
  have hl : ((s.drop k).map fun e => e.2 - e.1).length ≤ 40 := by rw [List.length_map, List.length_drop]; have := ho.1; omega
  unfold tailS
  omega
end Go.Proofs.Ythnhmfmlhlpggaa
