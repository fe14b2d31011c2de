/- What is proved: slices.Clone of ringers, clone of a token. No condition beyond those in each statement. -/
import Derived.Test.YtahjgdikjaakbaaZH
import Derived.Deep.RegionLaw
namespace Go.Proofs.Ytahjgdikjaakbaa
open Go.RowKit

theorem Ow.sl1 {w : World} {base : Nat} {v : Value} {xs : List Int} (h : Ow w base v xs) : Sl1 w 3 v (intsV xs) ∧ (∀ g, v.ownBlock = some g → base ≤ g ∧ g < w.heap.size) ∧ ∃ A n c, v = .slice A n c := by
  have hlt := World.ownsRow.lt h
  refine ⟨?_, hlt, ?_⟩
  · rcases h.2 with ⟨rfl, hn⟩ | ⟨g, cap, cur, rfl, hb, hg, h1, h2, h3, h4⟩
    · have : xs = [] := List.eq_nil_of_length_eq_zero hn
      subst this
      exact .inl ⟨rfl, rfl⟩
    · refine .inr ⟨g, 0, cap, by rw [intsV_len], cur, hg, by rw [intsV_len]; exact h1, h2, by omega, ?_⟩
      rw [intsV_len, List.drop_zero]
      rw [Nat.mul_one] at h4
      exact h4
  · rcases h.2 with ⟨rfl, _⟩ | ⟨g, cap, cur, rfl, _⟩
    · exact ⟨_, _, _, rfl⟩
    · exact ⟨_, _, _, rfl⟩
theorem Ow.setCell {w : World} {base : Nat} {v : Value} {xs : List Int} (h : Ow w base v xs) {p : Addr} (hp : p.block < base) (u : Value) : Ow (w.setCell p u) base v xs := by
  refine ⟨h.1, h.2.imp id ?_⟩
  rintro ⟨g, cap, cur, e, h1, h2, h3⟩
  exact ⟨g, cap, cur, e, h1, by rw [heap_setCell_other w p g u (by omega)]; exact h2, h3⟩
theorem Below.ofDrew {N : Nat} {w w' : World} (h : Below N w.drew w') : Below N w w' := ⟨h.os, h.tape, h.output, h.size, h.block⟩
/-- The cells of the ringers below k. -/
def ringG (s : LS) : Nat → List Value
  | 0 => []
  | k + 1 => ringG s k ++ [.slice (some ⟨s.K k, 0, none⟩) s.n (s.Kc k), .int .i64 (s.mood.getD k 0)]
theorem ringG_len (s : LS) (k : Nat) : (ringG s k).length = k * 2 := by
  induction k with
  | zero => rfl
  | succ k ih => unfold ringG; rw [List.length_append, ih]; simp; omega
theorem ringG_get (s : LS) (k i : Nat) (hi : i < k) : (ringG s k)[i * 2]? = some (.slice (some ⟨s.K i, 0, none⟩) s.n (s.Kc i)) ∧ (ringG s k)[i * 2 + 1]? = some (.int .i64 (s.mood.getD i 0)) := by
  induction k with
  | zero => omega
  | succ k ih =>
    have hl := ringG_len s k
    unfold ringG
    by_cases e : i = k
    · subst e
      rw [List.getElem?_append_right (by omega), List.getElem?_append_right (by omega), hl, Nat.sub_self, show i * 2 + 1 - i * 2 = 1 by omega]
      exact ⟨rfl, rfl⟩
    · rw [List.getElem?_append_left (by omega), List.getElem?_append_left (by omega)]
      exact ih (by omega)
theorem ringG_one (s : LS) (k : Nat) : ∀ u, u ∈ ringG s k → u.oneCell' = true := by
  induction k with
  | zero => intro u hu; cases hu
  | succ k ih =>
    intro u hu
    unfold ringG at hu
    rcases List.mem_append.1 hu with h | h
    · exact ih u h
    · simp at h
      rcases h with rfl | rfl <;> rfl
set_option maxHeartbeats 2000000 in
theorem cloneR_calls {w : World} {T : Nat} {s : LS} (h : Low w T s) : Calls Try.prog 48 #[.slice (some ⟨s.R, 0, none⟩) s.n s.rc] w fun e w' => ∃ R2 rc2, e = .returned (.slice (some ⟨R2, 0, none⟩) s.n rc2) ∧ w.heap.size ≤ R2 ∧ (s.n ≤ rc2 ∧ rc2 ≤ maxLen) ∧
    (∃ cur : Array Value, w'.heap[R2]? = some (.cells cur 77 (0, 0)) ∧ 2 * s.n ≤ cur.size ∧ ∀ i, i < s.n → cur[i * 2]? = some (.slice (some ⟨s.K i, 0, none⟩) s.n (s.Kc i)) ∧ cur[i * 2 + 1]? = some (.int .i64 (s.mood.getD i 0))) ∧ Below w.heap.size w w' := by
  have qT : ∀ (w : World) (a : Option Addr) (n c n' c' : Nat), (binOp .eql 59 (.slice a n c) (.slice none n' c')).run Try.prog w = .ok (.bool a.isNone) w := fun w a n c n' c' => Lib.run_eql_slice_nil w _ _ a n c n' c' Try.underlying59
  obtain ⟨i0, hi, hz0, hz1, hz2⟩ := info_parts info77
  have hn := h.hn
  have h0 := World.ownsRow_made (base := w.heap.size) (e := 77) (size := 2) w #[] 0 (Nat.le_refl _) (Nat.zero_le _) rfl
  have hb0 : Below w.heap.size w (w.alloc (.cells #[] 77)) := (Below.refl _ _).alloc (Nat.le_refl _) _
  have hL := h.below hb0
  obtain ⟨v', w', hrun, r1, r2, _⟩ := run_append_own (P := Try.prog) (w.alloc (.cells #[] 77)) w.heap.size 59 59 77 i0 _ 2 32 Try.underlying59 hi hz0 hz1 hz2 rfl (by decide) _ 0 [] h0 ⟨s.R, 0, none⟩ s.n s.rc (ringG s s.n) (ringG_len _ _) (by
    intro j u hj
    obtain ⟨hj1, _⟩ := List.getElem?_eq_some_iff.1 hj
    rw [ringG_len] at hj1
    rw [addr_add, Nat.zero_add]
    obtain ⟨i, hi2⟩ : ∃ i, j = i * 2 ∨ j = i * 2 + 1 := ⟨j / 2, by omega⟩
    obtain ⟨g1, g2⟩ := ringG_get s s.n i (by omega)
    obtain ⟨k1, k2⟩ := hL.cR (i := i) (by omega)
    rcases hi2 with rfl | rfl
    · rw [g1] at hj
      cases hj
      exact k1
    · rw [g2] at hj
      cases hj
      exact k2) (ringG_one _ _) (by simp [maxLen]; omega) (by omega) (by simp)
  have hB : Below w.heap.size w w' := hb0.grown r2 (by simp) (fun k hk => (World.ownsRow.lt h0 k hk).1)
  have hR : ∃ R2 rc2, v' = .slice (some ⟨R2, 0, none⟩) s.n rc2 ∧ w.heap.size ≤ R2 ∧ (s.n ≤ rc2 ∧ rc2 ≤ maxLen) ∧ (∃ cur : Array Value, w'.heap[R2]? = some (.cells cur 77 (0, 0)) ∧ 2 * s.n ≤ cur.size ∧ ∀ i, i < s.n → cur[i * 2]? = some (.slice (some ⟨s.K i, 0, none⟩) s.n (s.Kc i)) ∧ cur[i * 2 + 1]? = some (.int .i64 (s.mood.getD i 0))) := by
    rcases r1.2 with ⟨_, e⟩ | ⟨g, cap, cur, rfl, hb, hg, h1, h2, h3, h4⟩
    · omega
    · rw [Nat.zero_add] at h1 h4
      refine ⟨g, cap, by rw [Nat.zero_add], hb, ⟨h1, h2⟩, cur, hg, by omega, fun i hi => ?_⟩
      have e : ∀ j, j < s.n * 2 → cur[j]? = (ringG s s.n)[j]? := fun j hj => by
        rw [List.nil_append] at h4
        rw [← h4, List.getElem?_take, if_pos hj, Array.getElem?_toList]
      rw [e _ (by omega), e _ (by omega)]
      exact ringG_get s s.n i hi
  obtain ⟨R2, rc2, rfl, hr⟩ := hR
  have HRUN := Lib.hid hrun
  have HR := Lib.hid (And.intro hr hB)
  clear h hi hz0 hz1 hz2 h0 hb0 hL hrun r1 r2 hB hr
  go_enter Try.func48, Try.ntmps48
  go_wp2_with (at_builtin; refine wpList_app rfl (.tmp 5) (.tmp 6) 59 59 rfl rfl _ _ rfl rfl HRUN.out ?_)
  go_ret
  exact ⟨R2, rc2, rfl, HR.out.1.1, HR.out.1.2.1, HR.out.1.2.2, HR.out.2⟩
/-- What the clone of a token leaves. -/
def TkR (w : World) (sv q : List Int) (e : Ending) (w' : World) : Prop :=
  ∃ a b, e = .returned (.agg #[a, b]) ∧ Ow w' w.heap.size a sv ∧ Ow w' w.heap.size b q ∧ (∀ g, a.ownBlock = some g → b.ownBlock ≠ some g) ∧ Below w.heap.size w w'
set_option maxHeartbeats 4000000 in
theorem tokclone_calls {w : World} {a b : Value} {sv q : List Int} (ha : Sl1 w 3 a (intsV sv)) (hb : Sl1 w 3 b (intsV q)) (hsv : sv.length ≤ 1000) (hq : q.length ≤ 1000) :
    Calls Try.prog 49 #[.agg #[a, b]] w (TkR w sv q) := by
  obtain ⟨p1, l1, k1, rfl⟩ := ha.form
  obtain ⟨p2, l2, k2, rfl⟩ := hb.form
  obtain ⟨N, hN⟩ : ∃ N, N = w.heap.size := ⟨_, rfl⟩
  obtain ⟨W, hW⟩ : ∃ W, W = (w.alloc (.cells #[.slice p1 l1 k1, .slice p2 l2 k2] 61)).alloc (.cells #[.slice none 0 0, .slice none 0 0] 61) := ⟨_, rfl⟩
  have hbW : Below w.heap.size w W := by rw [hW]; exact below_two _ _ _
  have CA : Hid (∀ w1, Below w.heap.size w w1 → Calls Try.prog 43 #[.slice p1 l1 k1] w1 fun e w' => ∃ A n c, e = .returned (.slice A n c) ∧ Ow w' w1.heap.size (.slice A n c) sv ∧ Below w1.heap.size w1 w') := fun w1 hb1 => (cloneI_calls (ha.same fun g hg => hb1.block g (ha.lt g hg)) hsv).mono fun _ _ ⟨v', he, ho, hb⟩ => by
    obtain ⟨A, n, c, rfl⟩ := ho.sl1.2.2
    exact ⟨A, n, c, he, ho, hb⟩
  have CB : Hid (∀ w1, Below w.heap.size w w1 → Calls Try.prog 43 #[.slice p2 l2 k2] w1 fun e w' => ∃ A n c, e = .returned (.slice A n c) ∧ Ow w' w1.heap.size (.slice A n c) q ∧ Below w1.heap.size w1 w') := fun w1 hb1 => (cloneI_calls (hb.same fun g hg => hb1.block g (hb.lt g hg)) hq).mono fun _ _ ⟨v', he, ho, hb⟩ => by
    obtain ⟨A, n, c, rfl⟩ := ho.sl1.2.2
    exact ⟨A, n, c, he, ho, hb⟩
  have HW := Lib.hid hW
  have HN := Lib.hid hN
  have HB := Lib.hid hbW
  clear ha hb hW hN hbW
  go_enter Try.func49, Try.ntmps49
  go_wp2_with fail
  have hW := HW.out
  have hN := HN.out
  rw [← hW, ← hN]
  have y0 : W.cell? ⟨N, 0, none⟩ = some (.slice p1 l1 k1) := by
    rw [hW, hN, Below.cell ((Below.refl _ _).alloc (Nat.le_refl _) _) (p := ⟨w.heap.size, 0, none⟩) (by simp)]
    exact World.cell?_alloc_at _ _ _ _ rfl
  have y1 : W.cell? ⟨N, 1, none⟩ = some (.slice p2 l2 k2) := by
    rw [hW, hN, Below.cell ((Below.refl _ _).alloc (Nat.le_refl _) _) (p := ⟨w.heap.size, 1, none⟩) (by simp)]
    exact World.cell?_alloc_at _ _ _ _ rfl
  have hs1 : (w.alloc (.cells #[.slice p1 l1 k1, .slice p2 l2 k2] 61)).heap.size = N + 1 := by rw [hN]; simp
  have r0 : W.cell? ⟨N + 1, 0, none⟩ = some (.slice none 0 0) := by rw [hW, ← hs1]; exact World.cell?_alloc_at _ _ _ _ rfl
  have r1 : W.cell? ⟨N + 1, 1, none⟩ = some (.slice none 0 0) := by rw [hW, ← hs1]; exact World.cell?_alloc_at _ _ _ _ rfl
  have f0 : ∀ i, W.frozen? ⟨N + 1, i, none⟩ = false := fun i => by rw [hW, ← hs1]; exact frozen_new _ _ _ _
  have hsW : W.heap.size = N + 2 := by rw [hW, hN]; simp
  have hNN := Lib.hid hN
  clear hW hN hs1
  go_region_law ((first
    | (go_simp; go_at_call 43; refine (CA.out _ (by repeat (first | with_reducible exact HB.out | with_reducible refine Below.drew ?_))).mono ?_; rintro e wA ⟨A1, n1, c1, rfl, hoA, hbA⟩; have hbA1 : Below W.heap.size W wA := (by first | exact hbA | exact Below.ofDrew hbA); have y1A := (hbA1.cell (p := ⟨N, 1, none⟩) (by show N < W.heap.size; omega)).trans y1; have hsA := hbA1.size)
    | (go_simp; go_at_call 43; refine (CB.out _ (by first | exact HB.out.trans (hbA1.mono HB.out.size) | exact (HB.out.trans (hbA1.mono HB.out.size)).drew)).mono ?_; rintro e wB ⟨A2, n2, c2, rfl, hoB, hbB⟩; have hbB1 : Below wA.heap.size wA wB := (by first | exact hbB | exact Below.ofDrew hbB); have hbW := hbA1.trans (hbB1.mono hsA); have r0B := (hbW.cell (p := ⟨N + 1, 0, none⟩) (by show N + 1 < W.heap.size; omega)).trans r0; have r1B := (hbW.cell (p := ⟨N + 1, 1, none⟩) (by show N + 1 < W.heap.size; omega)).trans r1; have f0B := (World.frozen?_of_block (a := ⟨N + 1, 0, none⟩) (hbW.block (N + 1) (by omega))).trans (f0 0); have f1B := (World.frozen?_of_block (a := ⟨N + 1, 1, none⟩) (hbW.block (N + 1) (by omega))).trans (f0 1))))
  all_goals
    have hN := hNN.out
    have o1 : Ow ((wB.setCell ⟨N + 1, 0, none⟩ (.slice A1 n1 c1)).setCell ⟨N + 1, 1, none⟩ (.slice A2 n2 c2)) w.heap.size (.slice A1 n1 c1) sv := (((hoA.below hbB1).setCell (p := ⟨N + 1, 0, none⟩) (by show N + 1 < W.heap.size; omega) _).setCell (p := ⟨N + 1, 1, none⟩) (by show N + 1 < W.heap.size; omega) _).mono (by show w.heap.size ≤ W.heap.size; omega)
    have o2 : Ow ((wB.setCell ⟨N + 1, 0, none⟩ (.slice A1 n1 c1)).setCell ⟨N + 1, 1, none⟩ (.slice A2 n2 c2)) w.heap.size (.slice A2 n2 c2) q := ((hoB.setCell (p := ⟨N + 1, 0, none⟩) (by show N + 1 < wA.heap.size; omega) _).setCell (p := ⟨N + 1, 1, none⟩) (by show N + 1 < wA.heap.size; omega) _).mono (by omega)
    have o3 : ∀ g, (Value.slice A1 n1 c1).ownBlock = some g → (Value.slice A2 n2 c2).ownBlock ≠ some g := fun g h1 h2 => by
      have e1 := (World.ownsRow.lt hoA g h1).2
      have e2 := (World.ownsRow.lt hoB g h2).1
      omega
    have o4 : Below w.heap.size w ((wB.setCell ⟨N + 1, 0, none⟩ (.slice A1 n1 c1)).setCell ⟨N + 1, 1, none⟩ (.slice A2 n2 c2)) :=
      ((HB.out.trans (hbW.mono HB.out.size)).setCell (p := ⟨N + 1, 0, none⟩) (by show w.heap.size ≤ N + 1; omega) _).setCell (p := ⟨N + 1, 1, none⟩) (by show w.heap.size ≤ N + 1; omega) _
    have HO := Lib.hid (And.intro o1 (And.intro o2 (And.intro o3 o4)))
    clear o1 o2 o3 o4 hoA hoB hbA hbB hbA1 hbB1 hbW y1A hsA hN CA CB
    go_wp2_with fail
    exact bodyPost_ret (v := .agg #[.slice A1 n1 c1, .slice A2 n2 c2]) (by simp [results, Try.results49, go_sem, *]) rfl ⟨_, _, rfl, HO.out.1, HO.out.2.1, HO.out.2.2.1, HO.out.2.2.2⟩
theorem cloneI_nil (w : World) : Calls Try.prog 43 #[.slice none 0 0] w fun e w' => e = .returned (.slice none 0 0) ∧ w = w' := by
  have qT : ∀ (w : World) (a : Option Addr) (n c n' c' : Nat), (binOp .eql 36 (.slice a n c) (.slice none n' c')).run Try.prog w = .ok (.bool a.isNone) w := fun w a n c n' c' => Lib.run_eql_slice_nil w _ _ a n c n' c' Try.underlying36
  go_enter Try.func43, Try.ntmps43
  go_wp2_with fail
  go_ret
  exact ⟨rfl, rfl⟩
set_option maxHeartbeats 4000000 in
theorem tokclone_nil (w : World) : Calls Try.prog 49 #[.agg #[.slice none 0 0, .slice none 0 0]] w fun e w' => e = .returned (.agg #[.slice none 0 0, .slice none 0 0]) ∧ Below w.heap.size w w' := by
  obtain ⟨N, hN⟩ : ∃ N, N = w.heap.size := ⟨_, rfl⟩
  obtain ⟨W, hW⟩ : ∃ W, W = (w.alloc (.cells #[.slice none 0 0, .slice none 0 0] 61)).alloc (.cells #[.slice none 0 0, .slice none 0 0] 61) := ⟨_, rfl⟩
  have hbW : Below w.heap.size w W := by rw [hW]; exact below_two _ _ _
  have CA := Lib.hid cloneI_nil
  have HW := Lib.hid hW
  have HN := Lib.hid hN
  have HB := Lib.hid hbW
  clear hW hN hbW
  go_enter Try.func49, Try.ntmps49
  go_wp2_with fail
  have hW := HW.out
  have hN := HN.out
  rw [← hW, ← hN]
  have y0 : W.cell? ⟨N, 0, none⟩ = some (.slice none 0 0) := by
    rw [hW, hN, Below.cell ((Below.refl _ _).alloc (Nat.le_refl _) _) (p := ⟨w.heap.size, 0, none⟩) (by simp)]
    exact World.cell?_alloc_at _ _ _ _ rfl
  have y1 : W.cell? ⟨N, 1, none⟩ = some (.slice none 0 0) := by
    rw [hW, hN, Below.cell ((Below.refl _ _).alloc (Nat.le_refl _) _) (p := ⟨w.heap.size, 1, none⟩) (by simp)]
    exact World.cell?_alloc_at _ _ _ _ rfl
  have hs1 : (w.alloc (.cells #[.slice none 0 0, .slice none 0 0] 61)).heap.size = N + 1 := by rw [hN]; simp
  have r0 : W.cell? ⟨N + 1, 0, none⟩ = some (.slice none 0 0) := by rw [hW, ← hs1]; exact World.cell?_alloc_at _ _ _ _ rfl
  have r1 : W.cell? ⟨N + 1, 1, none⟩ = some (.slice none 0 0) := by rw [hW, ← hs1]; exact World.cell?_alloc_at _ _ _ _ rfl
  have f0 : ∀ i, W.frozen? ⟨N + 1, i, none⟩ = false := fun i => by rw [hW, ← hs1]; exact frozen_new _ _ _ _
  have hNN := Lib.hid hN
  clear hW hN hs1
  go_region_law ((go_simp; go_at_call 43; refine (CA.out _).mono ?_; rintro e wA ⟨rfl, rfl⟩))
  all_goals
    have HO : Hid (Below w.heap.size w ((W.setCell ⟨N + 1, 0, none⟩ (.slice none 0 0)).setCell ⟨N + 1, 1, none⟩ (.slice none 0 0))) :=
      (HB.out.setCell (p := ⟨N + 1, 0, none⟩) (by have := hNN.out; show w.heap.size ≤ N + 1; omega) _).setCell (p := ⟨N + 1, 1, none⟩) (by have := hNN.out; show w.heap.size ≤ N + 1; omega) _
    clear CA
    go_wp2_with fail
    exact bodyPost_ret (v := .agg #[.slice none 0 0, .slice none 0 0]) (by simp [results, Try.results49, go_sem, *]) rfl ⟨rfl, by first | exact HO.out | exact HO.out.drew | exact below_drewN HO.out _⟩
end Go.Proofs.Ytahjgdikjaakbaa
