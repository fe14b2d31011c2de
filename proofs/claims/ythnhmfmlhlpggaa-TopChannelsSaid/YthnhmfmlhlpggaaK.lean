/- What is proved: Reverse in place, Clone. No condition beyond those in each statement. -/
import Derived.Test.YthnhmfmlhlpggaaJ
namespace Go.Proofs.Ythnhmfmlhlpggaa
open Go.RowKit
set_option maxRecDepth 100000

def revK (xs : List Int) (off k : Nat) : List Int := (List.range xs.length).map fun t => if off ≤ t ∧ (t < off + k ∨ xs.length - k ≤ t) then xs.getD (off + xs.length - 1 - t) 0 else xs.getD t 0
theorem revK_len (xs : List Int) (off k : Nat) : (revK xs off k).length = xs.length := by simp [revK]
theorem revK_get {xs : List Int} {off k t : Nat} (h : t < (revK xs off k).length) : (revK xs off k)[t] = if off ≤ t ∧ (t < off + k ∨ xs.length - k ≤ t) then xs.getD (off + xs.length - 1 - t) 0 else xs.getD t 0 := by simp [revK]
theorem revK_zero (xs : List Int) (off : Nat) : revK xs off 0 = xs := by
  apply List.ext_getElem
  · rw [revK_len]
  · intro t h1 h2
    rw [revK_get, if_neg (by omega), getD_lt _ () h2]
theorem revK_step {xs : List Int} {off k : Nat} (h : off + 2 * k + 1 < xs.length) :
    ((revK xs off k).set (off + k) (xs.getD (xs.length - 1 - k) 0)).set (xs.length - 1 - k) (xs.getD (off + k) 0) = revK xs off (k + 1) := by
  apply List.ext_getElem
  · simp [revK_len]
  · intro t h1 h2
    have ht : t < xs.length := by rw [revK_len] at h2; exact h2
    have e1 := revK_get (xs := xs) (off := off) (k := k + 1) (t := t) (by rw [revK_len]; exact ht)
    have e2 := revK_get (xs := xs) (off := off) (k := k) (t := t) (by rw [revK_len]; exact ht)
    rw [List.getElem_set, List.getElem_set, e1, e2]
    by_cases a : xs.length - 1 - k = t
    · rw [if_pos a, if_pos (by omega), show off + xs.length - 1 - t = off + k by omega]
    · rw [if_neg a]
      by_cases b : off + k = t
      · rw [if_pos b, if_pos (by omega), show off + xs.length - 1 - t = xs.length - 1 - k by omega]
      · rw [if_neg b]
        by_cases c : off ≤ t ∧ (t < off + k ∨ xs.length - k ≤ t)
        · rw [if_pos c, if_pos (by omega)]
        · rw [if_neg c, if_neg (by omega)]
theorem revK_end {xs : List Int} {off k : Nat} (ho : off ≤ xs.length) (h : xs.length ≤ off + 2 * k + 1) (h2 : off + 2 * k ≤ xs.length) : revK xs off k = xs.take off ++ (xs.drop off).reverse := by
  apply List.ext_getElem
  · rw [revK_len]; simp; omega
  · intro t h1 h3
    have ht : t < xs.length := by rw [revK_len] at h1; exact h1
    rw [revK_get]
    by_cases c : t < off
    · rw [if_neg (by omega), getD_lt _ () ht, List.getElem_append_left (by simp; omega), List.getElem_take]
    · rw [List.getElem_append_right (by simp; omega), List.getElem_reverse, List.getElem_drop]
      have hm : (List.take off xs).length = off := by rw [List.length_take]; omega
      have hd : (List.drop off xs).length = xs.length - off := by rw [List.length_drop]
      simp only [hm, hd]
      by_cases d : t < off + k ∨ xs.length - k ≤ t
      · rw [if_pos ⟨by omega, d⟩, getD_lt _ () (by omega : off + xs.length - 1 - t < xs.length)]
        congr 1; omega
      · rw [if_neg (by omega), getD_lt _ () ht]
        congr 1; omega
theorem revK_at {xs : List Int} {off k t : Nat} (ht : t < xs.length) (h1 : off + k ≤ t) (h2 : t + k < xs.length) : (revK xs off k)[t]'(by rw [revK_len]; exact ht) = xs.getD t 0 := by
  rw [revK_get, if_neg (by omega)]

/-- Only block g has changed, of those from base on. -/
def Bo (base g : Nat) (w w' : World) : Prop := Below base w w' ∧ ∀ b, b ≠ g → w'.heap[b]? = w.heap[b]?
theorem Bo.refl (base g : Nat) (w : World) : Bo base g w w := ⟨Below.refl _ _, fun _ _ => rfl⟩
theorem Bo.trans {base g : Nat} {w w' w'' : World} (h1 : Bo base g w w') (h2 : Bo base g w' w'') : Bo base g w w'' := ⟨h1.1.trans h2.1, fun b hb => (h2.2 b hb).trans (h1.2 b hb)⟩
theorem Bo.drewN {base g : Nat} {w w' : World} (h : Bo base g w w') (n : Nat) : Bo base g w (w'.drewN n) := ⟨below_drewN h.1 n, fun b hb => (h.2 b hb)⟩
theorem Arr.set2 {w : World} {base g c : Nat} {xs : List Int} (h : Arr w base g c xs) (i : Nat) (y : Int) :
    Arr (w.setCell ⟨g, i, none⟩ (.int .i64 y)) base g c (xs.set i y) ∧ Bo base g w (w.setCell ⟨g, i, none⟩ (.int .i64 y)) :=
  ⟨(h.set i y).1, (h.set i y).2, fun b hb => heap_setCell_other w ⟨g, i, none⟩ b _ hb⟩

def RevI (w : World) (base g c : Nat) (xs : List Int) (off : Nat) (p q : Value) (wr : World) : Prop :=
  ∃ k : Nat, p = .int .i64 k ∧ q = .int .i64 ((xs.length : Int) - off - 1 - k) ∧ off + 2 * k ≤ xs.length ∧ Hid (Arr wr base g c (revK xs off k)) ∧ Hid (Bo base g w wr)

set_option maxHeartbeats 4000000 in
theorem reverse_calls (base g c : Nat) (xs : List Int) (off n' c' : Nat) (w : World) (h : Arr w base g c xs) (hx : xs.length ≤ 1000) (ho : off < xs.length) (hn : n' = xs.length - off) :
    Calls Try.prog 109 #[.slice (some ⟨g, off, none⟩) n' c'] w fun e w' => e = .returned (.tuple #[]) ∧ Arr w' base g c (xs.take off ++ (xs.drop off).reverse) ∧ Bo base g w w' := by
  have HA := Lib.hid h
  have hj : (n' : Int) - 1 = (xs.length : Int) - off - 1 - (0 : Nat) := by omega
  have HJ := Lib.hid hj
  obtain ⟨L, hL⟩ : ∃ L, L = xs.length := ⟨_, rfl⟩
  have HL := Lib.hid hL
  rw [← hL] at hx ho hn
  have hn1 : 1 ≤ n' ∧ n' ≤ 1000 := by omega
  have hnL : n' + off = L := by omega
  have HNL := Lib.hid hnL
  clear h hj hL hn hnL
  go_enter Try.func109, Try.ntmps109
  go_wp2_with fail
  go_loopw [2, 3] (RevI w base g c xs off) (fun p _ _ => n' - (intOf p).toNat)
  case atStart => exact ⟨0, rfl, by rw [HJ.out], by have := HL.out; omega, by rw [revK_zero]; exact HA.out, Bo.refl _ _ _⟩
  case round =>
    obtain ⟨k, rfl, rfl, hk, HAr, HBr⟩ := hrel
    obtain ⟨J, hJ⟩ : ∃ J : Int, (xs.length : Int) - off - 1 - k = J := ⟨_, rfl⟩
    rw [hJ]
    by_cases hlt : off + 2 * k + 1 < xs.length
    · obtain ⟨j, rfl⟩ : ∃ j : Nat, J = j := ⟨J.toNat, by omega⟩
      have hkl : off + k < (revK xs off k).length := by rw [revK_len]; omega
      have hjl : off + j < (revK xs off k).length := by rw [revK_len]; omega
      have c1 := HAr.out.at (off + k) hkl
      have c2 := HAr.out.at (off + j) hjl
      have f1 := HAr.out.free (off + k)
      have f2 := HAr.out.free (off + j)
      rw [revK_at (by omega) (by omega) (by omega)] at c1 c2
      obtain ⟨x, hx'⟩ : ∃ x, x = xs.getD (off + k) 0 := ⟨_, rfl⟩
      obtain ⟨y, hy'⟩ : ∃ y, y = xs.getD (off + j) 0 := ⟨_, rfl⟩
      rw [← hx'] at c1
      rw [← hy'] at c2
      have hkj : k < j := by omega
      have hjn : j < n' := by have := HNL.out; have := HL.out; omega
      have HS : Hid (∀ nn : Nat, Arr (((wr.drewN nn).setCell ⟨g, off + k, none⟩ (.int .i64 y)).setCell ⟨g, off + j, none⟩ (.int .i64 x)) base g c (revK xs off (k + 1)) ∧ Bo base g w (((wr.drewN nn).setCell ⟨g, off + k, none⟩ (.int .i64 y)).setCell ⟨g, off + j, none⟩ (.int .i64 x))) := by
        intro nn
        have ha : Arr (wr.drewN nn) base g c (revK xs off k) := HAr.out
        have s1 := ha.set2 (off + k) y
        have s2 := s1.1.set2 (off + j) x
        refine ⟨?_, ((HBr.out.drewN nn).trans s1.2).trans s2.2⟩
        have := s2.1
        rw [hx', hy', show off + j = xs.length - 1 - k by omega, revK_step hlt] at this
        rw [hx', hy', show off + j = xs.length - 1 - k by omega]
        exact this
      have HJ2 : Hid ((j : Int) - 1 = (xs.length : Int) - off - 1 - ((k + 1 : Nat) : Int)) := by show _ = _; omega
      clear hJ hx' hy' hkl hjl
      go_wp2_with fail
      go_region
      all_goals
        clear c1 c2 f1 f2
        go_wp2_with fail
        go_roundw
        case rel => exact ⟨k + 1, by go_num, by rw [HJ2.out], by have := HL.out; omega, (HS.out 1).1, (HS.out 1).2⟩
        case measure => simp [intOf]; omega
    · have HE : Hid (Arr wr base g c (xs.take off ++ (xs.drop off).reverse)) := by
        have := HAr.out
        rw [revK_end (by omega) (by omega) hk] at this
        exact this
      have hJk : J ≤ k := by omega
      clear hJ
      go_wp2_with fail
      go_end0
      exact ⟨rfl, HE.out, HBr.out⟩

set_option maxHeartbeats 2000000 in
theorem clone_calls (A : Addr) (n c : Nat) (xs : List Int) (w : World) (hn : n = xs.length) (hA : Rd w (some A) xs) (hx : xs.length ≤ 1000) :
    Calls Try.prog 95 #[.slice (some A) n c] w fun e w' => ∃ g c', e = .returned (.slice (some ⟨g, 0, none⟩) n c') ∧ Arr w' w.heap.size g c' xs ∧ Below w.heap.size w w' := by
  have qT : ∀ (w : World) (a : Option Addr) (n c n' c' : Nat), (binOp .eql 27 (.slice a n c) (.slice none n' c')).run Try.prog w = .ok (.bool a.isNone) w := fun w a n c n' c' => Lib.run_eql_slice_nil w _ _ a n c n' c' Try.underlying27
  obtain ⟨i0, hi, hz0, hz1, hz2⟩ := info_parts info3
  have h0 := ow_new w w.heap.size (Nat.le_refl _)
  have hb0 : Below w.heap.size w (w.alloc (.cells #[] 3)) := (Below.refl _ _).alloc (Nat.le_refl _) _
  obtain ⟨v', w', hrun, r1, r2, r3⟩ := run_append_own (P := Try.prog) (w.alloc (.cells #[] 3)) w.heap.size 27 27 3 i0 (.int .i64 0) 1 8 Try.underlying27 hi hz0 hz1 hz2 rfl (by decide) _ 0 [] h0 A n c (xs.map (Value.int .i64)) (by simp [hn]) (by
        intro j u hj
        rw [List.getElem?_map] at hj
        obtain ⟨y, hy1, hy2⟩ := Option.map_eq_some_iff.1 hj
        obtain ⟨hj1, hj2⟩ := List.getElem?_eq_some_iff.1 hy1
        obtain ⟨b', o', e, hb', hc'⟩ := hA (fun e => by subst e; simp at hj1)
        cases e
        rw [addr_add, hb0.cell (p := ⟨b', o' + j, none⟩) hb', hc' j hj1, hj2, hy2]) (by simp [Value.oneCell']) (by simp [maxLen]; omega) (by omega) (by simp)
  have hB : Below w.heap.size w w' := hb0.grown r2 (by simp) (fun k hk => (World.ownsRow.lt h0 k hk).1)
  have hO : Ow w' w.heap.size v' xs := by
    unfold Ow
    rw [← hn]
    simpa using r1
  obtain ⟨g, c', rfl⟩ : ∃ g c', v' = .slice (some ⟨g, 0, none⟩) n c' := by
    rcases r1.2 with ⟨h', h''⟩ | ⟨g', cap, cur, e, _⟩
    · exact absurd (r3.1 h').1 (by simp)
    · exact ⟨g', cap, by rw [e]; simp⟩
  have HRUN := Lib.hid hrun
  have HO : Hid (Arr w' w.heap.size g c' xs) := by show Arr _ _ _ _ _; unfold Arr; rw [← hn]; exact hO
  have HB := Lib.hid hB
  clear hi hz0 hz1 hz2 h0 hb0 hrun r1 r2 r3 hB hO hn hA
  go_enter Try.func95, Try.ntmps95
  go_wp2_with (at_builtin; refine wpList_app rfl (.tmp 5) (.tmp 6) 27 27 rfl rfl _ _ rfl rfl HRUN.out ?_)
  go_ret
  exact ⟨g, c', rfl, HO.out, HB.out⟩
end Go.Proofs.Ythnhmfmlhlpggaa
