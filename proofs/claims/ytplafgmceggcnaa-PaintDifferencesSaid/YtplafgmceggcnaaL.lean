/- What is proved: Avoid, Sumless, Stepless (contracts of functions of paint, and what they need). No condition beyond those in each statement. -/
import Derived.Test.YtplafgmceggcnaaK
namespace Go.Proofs.Ytplafgmceggcnaa
open Go.RowKit

/-- A list, or nil with an error. -/
def ResP (w0 : World) (r : Except Int (List Int)) (e : Ending) (w' : World) : Prop :=
  match r with
  | .error q => e = .returned (.tuple #[.slice none 0 0, .int .i64 q]) ∧ Below w0.heap.size w0 w'
  | .ok xs => ∃ A n c, e = .returned (.tuple #[.slice A n c, .int .i64 0]) ∧ n = xs.length ∧ n ≤ c ∧ c ≤ 9223372036854775807 ∧ Rd w' A xs ∧ Below w0.heap.size w0 w'
def orNone (r : Option (List Int)) : Except Int (List Int) := match r with | none => .error 5 | some xs => .ok xs
theorem FirstPost.res {w0 w : World} {r : Option (List Int)} {e : Ending} {w' : World} (h : FirstPost w r e w') (hb : Below w0.heap.size w0 w) : ResP w0 (orNone r) e w' := by
  cases r with
  | none => exact ⟨h.1, hb.trans (h.2.mono hb.size)⟩
  | some xs =>
    obtain ⟨A, n, c, h1, h2, h3, h4, h5, h6⟩ := h
    exact ⟨A, n, c, h1, h2, h3, h4, h5, hb.trans (h6.mono hb.size)⟩
def avoidL (n : Nat) (k l : Int) : List (List Int) := leaves 2 (goodW n k l) (npairs n) []
def AvoidR (n k l : Int) : Except Int (List Int) :=
  if (1 ≤ n ∧ n ≤ 8) ∧ (2 ≤ k ∧ k ≤ 4) ∧ (2 ≤ l ∧ l ≤ 4) then orNone (avoidL n.toNat k l).head? else .error 1

theorem endsOf_lt {n : Nat} : ∀ e ∈ endsOf n, e.1 < n ∧ e.2 < n := by
  intro e he
  simp only [endsOf, List.mem_flatMap, List.mem_range, List.mem_map, List.mem_range'_1] at he
  obtain ⟨a, ha, b, hb, rfl⟩ := he
  constructor <;> simp <;> omega
theorem endsOf_len : ∀ n, n ≤ 8 → (endsOf n).length = npairs n := by decide
theorem npairs_le : ∀ n, n ≤ 8 → npairs n ≤ 28 := by decide
theorem pairCells_get : ∀ (l : List (Nat × Nat)) (j : Nat) (hj : j < l.length), (pairCells l)[j * 2]? = some (.int .i64 (l[j].1 : Nat)) ∧ (pairCells l)[j * 2 + 1]? = some (.int .i64 (l[j].2 : Nat)) := by
  intro l
  induction l with
  | nil => intro j hj; exact absurd hj (by simp)
  | cons e l ih =>
    intro j hj
    cases j with
    | zero => exact ⟨rfl, rfl⟩
    | succ j =>
      have := ih j (by simpa using hj)
      constructor
      · rw [show (j + 1) * 2 = (j * 2) + 1 + 1 by omega]; exact this.1
      · rw [show (j + 1) * 2 + 1 = (j * 2 + 1) + 1 + 1 by omega]; exact this.2

theorem Off.cell {M : Nat → Prop} {a b : World} (h : Off M a b) {p : Addr} (hp : p.block < a.heap.size) (hm : ¬ M p.block) : b.cell? p = a.cell? p := World.cell?_of_block (h.block p.block hp hm)
theorem GoodOff.at {w0 : World} {gid : Nat} {gcaps : Array Value} {good : List Int → Bool} {many below : Nat} (h : GoodOff (fun _ => False) w0 gid gcaps good many below) : GoodAt w0 gid gcaps good many below :=
  fun xs A n c W h1 h2 h3 => h xs A n c W h1 h2 (Off.of_below h3)

theorem without_good (M0 : Nat → Prop) (n : Nat) (hn : n ≤ 8) (k l : Int) (hk : 2 ≤ k ∧ k ≤ 4) (hl : 2 ≤ l ∧ l ≤ 4) (N J : Nat) (w : World) (hN : N + 3 < w.heap.size) (hJ : J < w.heap.size) (hNJ : N ≤ J) (hM0 : ∀ k, M0 k → k < N)
    (h1 : w.cell? ⟨N, 0, none⟩ = some (.int .i64 n)) (h2 : w.cell? ⟨N + 1, 0, none⟩ = some (.int .i64 k)) (h3 : w.cell? ⟨N + 2, 0, none⟩ = some (.int .i64 l))
    (h4 : ∃ sv, w.cell? ⟨N + 3, 0, none⟩ = some sv ∧ w.ownsRow (N + 4) 73 2 sv (endsOf n).length (pairCells (endsOf n)))
    (h5 : w.cell? ⟨J, 0, none⟩ = some (.func (.func 58) #[] #[.pointer (some ⟨N, 0, none⟩), .pointer (some ⟨J, 0, none⟩)])) :
    GoodOff M0 w 60 #[.pointer (some ⟨N + 3, 0, none⟩), .pointer (some ⟨N + 1, 0, none⟩), .pointer (some ⟨N + 2, 0, none⟩), .pointer (some ⟨J, 0, none⟩)] (goodW n k l) (npairs n) 2 := by
  intro xs A nx c W hnx hm hB hA hc hc2 hne hxs
  obtain ⟨x, hx, _⟩ := hne
  have hpos : 0 < xs.length := List.length_pos_of_mem hx
  obtain ⟨sv, hs1, hs2, hs3⟩ := h4
  have hlen := endsOf_len n hn
  rcases hs3 with ⟨_, h0⟩ | ⟨g, cap, cur, rfl, hg, hgb, hcap, hcap2, hcur, htk⟩
  · omega
  obtain ⟨j, rfl⟩ : ∃ j, nx = j + 1 := ⟨nx - 1, by omega⟩
  have hj : j < (endsOf n).length := by omega
  have hgl : g < w.heap.size := (Array.getElem?_eq_some_iff.1 hgb).1
  have hcell : ∀ (i : Nat) (v : Value), (pairCells (endsOf n))[i]? = some v → W.cell? ⟨g, i, none⟩ = some v := by
    intro i v hi
    rw [hB.cell (p := ⟨g, i, none⟩) hgl (fun h => absurd (hM0 _ h) (by show ¬ (g < N); omega))]
    have hil := (List.getElem?_eq_some_iff.1 hi).1
    have hrow : w.ownsRow (N + 4) 73 2 (.slice (some ⟨g, 0, none⟩) (endsOf n).length cap) (endsOf n).length (pairCells (endsOf n)) := ⟨hs2, .inr ⟨g, cap, cur, rfl, hg, hgb, hcap, hcap2, hcur, htk⟩⟩
    have := World.ownsRow.cells hrow rfl i v hi
    rwa [addr_add, Nat.zero_add] at this
  have hp := pairCells_get (endsOf n) j hj
  have hcap3 : cap ≤ 9223372036854775807 := by unfold maxLen at hcap2; omega
  exact without2_calls n hn k l hk hl g cap (N + 3) (N + 1) (N + 2) J N j hj endsOf_lt A c xs W hnx hA hc hc2 hcap (by have := npairs_le n hn; omega)
    ((hB.cell (p := ⟨N + 3, 0, none⟩) hN (fun h => absurd (hM0 _ h) (by show ¬ (N + 3 < N); omega))).trans hs1) (hcell _ _ hp.1) (hcell _ _ hp.2) ((hB.cell (p := ⟨N + 1, 0, none⟩) (by show N + 1 < _; omega) (fun h => absurd (hM0 _ h) (by simp))).trans h2) ((hB.cell (p := ⟨N + 2, 0, none⟩) (by show N + 2 < _; omega) (fun h => absurd (hM0 _ h) (by simp))).trans h3) ((hB.cell (p := ⟨J, 0, none⟩) hJ (fun h => absurd (hM0 _ h) (by show ¬ (J < N); omega))).trans h5) ((hB.cell (p := ⟨N, 0, none⟩) (by show N < _; omega) (fun h => absurd (hM0 _ h) (by simp))).trans h1)

theorem AvoidR_err {n k l : Int} (h : ¬((1 ≤ n ∧ n ≤ 8) ∧ (2 ≤ k ∧ k ≤ 4) ∧ (2 ≤ l ∧ l ≤ 4))) : AvoidR n k l = .error 1 := if_neg h
theorem AvoidR_ok {n : Nat} {k l : Int} (h : (1 ≤ n ∧ n ≤ 8) ∧ (2 ≤ k ∧ k ≤ 4) ∧ (2 ≤ l ∧ l ≤ 4)) : AvoidR n k l = orNone (avoidL n k l).head? := if_pos (by omega)

theorem avoid_tail (n : Nat) (k l : Int) (hr : (1 ≤ n ∧ n ≤ 8) ∧ (2 ≤ k ∧ k ≤ 4) ∧ (2 ≤ l ∧ l ≤ 4)) (J : Nat) (w w' : World) (hB : Below w.heap.size w w') (hNJ : w.heap.size ≤ J) (hJ : J < w'.heap.size) (hN : w.heap.size + 3 < w'.heap.size)
    (h1 : w'.cell? ⟨w.heap.size, 0, none⟩ = some (.int .i64 n)) (h2 : w'.cell? ⟨w.heap.size + 1, 0, none⟩ = some (.int .i64 k)) (h3 : w'.cell? ⟨w.heap.size + 2, 0, none⟩ = some (.int .i64 l))
    (h4 : ∃ sv, w'.cell? ⟨w.heap.size + 3, 0, none⟩ = some sv ∧ w'.ownsRow (w.heap.size + 4) 73 2 sv (endsOf n).length (pairCells (endsOf n)))
    (h5 : w'.cell? ⟨J, 0, none⟩ = some (.func (.func 58) #[] #[.pointer (some ⟨w.heap.size, 0, none⟩), .pointer (some ⟨J, 0, none⟩)])) :
    Calls Try.prog 42 #[.int .i64 ((npairs n : Nat) : Int), .int .i64 2, .func (.func 60) #[] #[.pointer (some ⟨w.heap.size + 3, 0, none⟩), .pointer (some ⟨w.heap.size + 1, 0, none⟩), .pointer (some ⟨w.heap.size + 2, 0, none⟩), .pointer (some ⟨J, 0, none⟩)]] w' (ResP w (AvoidR n k l)) := by
  rw [AvoidR_ok hr]
  refine (first_calls 60 _ (fun _ _ => rfl) (goodW n k l) w' (npairs n) 2 (by have := npairs_le n hr.1.2; omega) (by omega) (without_good (fun _ => False) n hr.1.2 k l hr.2.1 hr.2.2 _ J w' hN hJ hNJ (fun _ h => h.elim) h1 h2 h3 h4 h5).at).mono ?_
  intro e w2 h
  exact h.res hB

theorem ResP.tuple {w0 w' : World} {r : Except Int (List Int)} {e : Ending} (h : ResP w0 r e w') : ∃ v q, e = .returned (.tuple #[v, .int .i64 q]) := by
  cases r with
  | error q => exact ⟨_, _, h.1⟩
  | ok xs => obtain ⟨A, n, c, h1, _⟩ := h; exact ⟨_, _, h1⟩

theorem cell_lt {w : World} {b i : Nat} {v : Value} (h : w.cell? ⟨b, i, none⟩ = some v) : b < w.heap.size := by
  unfold World.cell? at h
  split at h
  · rename_i h1; exact (Array.getElem?_eq_some_iff.1 h1).1
  · exact absurd h (by simp)

theorem avoid_calls (n k l : Int) (w : World) : Calls Try.prog 23 #[.int .i64 n, .int .i64 k, .int .i64 l] w (ResP w (AvoidR n k l)) := by
  by_cases hr : (1 ≤ n ∧ n ≤ 8) ∧ (2 ≤ k ∧ k ≤ 4) ∧ (2 ≤ l ∧ l ≤ 4)
  · obtain ⟨m, rfl⟩ : ∃ m : Nat, n = m := ⟨n.toNat, by omega⟩
    have hr' : (1 ≤ m ∧ m ≤ 8) ∧ (2 ≤ k ∧ k ≤ 4) ∧ (2 ≤ l ∧ l ≤ 4) := by omega
    obtain ⟨⟨q1, q2⟩, ⟨q3, q4⟩, q5, q6⟩ := hr
    have HR := Lib.hid hr'
    have hm : m ≤ 8 := by omega
    clear hr'
    have c1 := Lib.hid (pairs_calls m hm w)
    have c2 := Lib.hid (without_calls m hm k l w)
    rcases Int.lt_trichotomy k l with hkl | rfl | hkl
    all_goals
      go_enter Try.func23, Try.ntmps23
      go_wp2_with fail
      refine c1.out.mono ?_
      rintro e w1 ⟨rfl, rfl⟩
      go_wp2_with fail
      refine c2.out.mono ?_
      rintro e w1 ⟨J, hNJ, rfl, hB, h1, h2, h3, ⟨sv, h4, h6⟩, h5⟩
      have C := Lib.hid (avoid_tail m _ _ HR.out J w w1 hB hNJ (cell_lt h5) (cell_lt h4) h1 h2 h3 ⟨sv, h4, h6⟩ h5)
      clear hB hNJ h1 h2 h3 h4 h5 h6
      go_wp2_with fail
      refine C.out.mono ?_
      intro e w2 h
      obtain ⟨v, q, rfl⟩ := h.tuple
      have H := Lib.hid h
      clear h
      go_wp2_with fail
      go_ret2
      exact H.out
  · have HE := Lib.hid (AvoidR_err hr)
    have H2 : Hid ((1 ≤ n ∧ n ≤ 8) ∧ (2 ≤ k ∧ k ≤ 4) ∧ (2 ≤ l ∧ l ≤ 4) → False) := hr
    clear hr
    go_enter Try.func23, Try.ntmps23
    go_wp2_with fail
    all_goals first
      | (exfalso; exact H2.out (by omega))
      | (go_ret2; rw [HE.out]; exact ⟨rfl, Below.refl _ _⟩)

def sumlessL (n r : Nat) : List (List Int) := leaves r (fun cs => (sumF cs).isNone) n []
def SumlessR (n r : Int) : Except Int (List Int) := if (1 ≤ n ∧ n ≤ 14) ∧ (1 ≤ r ∧ r ≤ 3) then orNone (sumlessL n.toNat r.toNat).head? else .error 1
theorem SumlessR_err {n r : Int} (h : ¬((1 ≤ n ∧ n ≤ 14) ∧ (1 ≤ r ∧ r ≤ 3))) : SumlessR n r = .error 1 := if_neg h
theorem SumlessR_ok {n r : Nat} (h : (1 ≤ n ∧ n ≤ 14) ∧ (1 ≤ r ∧ r ≤ 3)) : SumlessR n r = orNone (sumlessL n r).head? := if_pos (by omega)

theorem sumless_calls (n r : Int) (w : World) : Calls Try.prog 27 #[.int .i64 n, .int .i64 r] w (ResP w (SumlessR n r)) := by
  by_cases hr : (1 ≤ n ∧ n ≤ 14) ∧ (1 ≤ r ∧ r ≤ 3)
  · obtain ⟨m, rfl⟩ : ∃ m : Nat, n = m := ⟨n.toNat, by omega⟩
    obtain ⟨s, rfl⟩ : ∃ m : Nat, r = m := ⟨r.toNat, by omega⟩
    have hr' : (1 ≤ m ∧ m ≤ 14) ∧ (1 ≤ s ∧ s ≤ 3) := by omega
    obtain ⟨⟨q1, q2⟩, q3, q4⟩ := hr
    have C := Lib.hid ((first_calls 47 #[] (fun _ _ => rfl) (fun cs => (sumF cs).isNone) w m s (by omega) (by omega) (fun xs A n c W h1 h2 h3 h4 h5 h6 _ _ => sumless1_calls A n c xs W h1 (by omega) h4 h5 h6)).mono (fun e w2 h => h.res (Below.refl _ w)))
    have HR := Lib.hid (SumlessR_ok hr')
    clear hr'
    go_enter Try.func27, Try.ntmps27
    go_wp2_with fail
    refine C.out.mono ?_
    intro e w2 h
    obtain ⟨v, q, rfl⟩ := h.tuple
    have H := Lib.hid h
    clear h
    go_wp2_with fail
    go_ret2
    rw [HR.out]
    exact H.out
  · have HE := Lib.hid (SumlessR_err hr)
    have H2 : Hid ((1 ≤ n ∧ n ≤ 14) ∧ (1 ≤ r ∧ r ≤ 3) → False) := hr
    clear hr
    go_enter Try.func27, Try.ntmps27
    go_wp2_with fail
    all_goals first
      | (exfalso; exact H2.out (by omega))
      | (go_ret2; rw [HE.out]; exact ⟨rfl, Below.refl _ _⟩)

def steplessL (n r k : Nat) : List (List Int) := leaves r (fun cs => (progF cs k).isNone) n []
def SteplessR (n r k : Int) : Except Int (List Int) := if (1 ≤ n ∧ n ≤ 20) ∧ (1 ≤ r ∧ r ≤ 3) ∧ (k = 3 ∨ k = 4) then orNone (steplessL n.toNat r.toNat k.toNat).head? else .error 1
theorem SteplessR_err {n r k : Int} (h : ¬((1 ≤ n ∧ n ≤ 20) ∧ (1 ≤ r ∧ r ≤ 3) ∧ (k = 3 ∨ k = 4))) : SteplessR n r k = .error 1 := if_neg h
theorem SteplessR_ok {n r k : Nat} (h : (1 ≤ n ∧ n ≤ 20) ∧ (1 ≤ r ∧ r ≤ 3) ∧ (k = 3 ∨ k = 4)) : SteplessR n r k = orNone (steplessL n r k).head? := if_pos (by omega)
theorem stepsB_iff {k : Int} : stepsB k = true ↔ k = 3 ∨ k = 4 := by simp [stepsB]

theorem stepless_calls (n r k : Int) (w : World) : Calls Try.prog 31 #[.int .i64 n, .int .i64 r, .int .i64 k] w (ResP w (SteplessR n r k)) := by
  have c1 := Lib.hid (steps_calls k)
  have e1 : (w.alloc (.cells #[.int .i64 k] 3)).cell? ⟨w.heap.size, 0, none⟩ = some (.int .i64 k) := cell_new _ _ _ _ rfl
  have eB : Below w.heap.size w (w.alloc (.cells #[.int .i64 k] 3)) := (Below.refl _ _).alloc (Nat.le_refl _) _
  by_cases hr : (1 ≤ n ∧ n ≤ 20) ∧ (1 ≤ r ∧ r ≤ 3)
  · obtain ⟨m, rfl⟩ : ∃ m : Nat, n = m := ⟨n.toNat, by omega⟩
    obtain ⟨s, rfl⟩ : ∃ m : Nat, r = m := ⟨r.toNat, by omega⟩
    cases hs : stepsB k
    · have HE := Lib.hid (SteplessR_err (n := m) (r := s) (k := k) (by
        rintro ⟨_, _, h⟩
        rw [stepsB_iff.2 h] at hs; cases hs))
      have HS := Lib.hid hs
      have HB := Lib.hid eB
      clear hs eB
      obtain ⟨⟨q1, q2⟩, q3, q4⟩ := hr
      go_enter Try.func31, Try.ntmps31
      go_wp2_with fail
      refine (c1.out _).mono ?_
      rintro e w1 ⟨rfl, rfl⟩
      rw [HS.out]
      go_wp2_with fail
      go_ret2
      rw [HE.out]; exact ⟨rfl, HB.out⟩
    · have HS := Lib.hid hs
      have hk := stepsB_iff.1 hs
      obtain ⟨t, rfl⟩ : ∃ m : Nat, k = m := ⟨k.toNat, by omega⟩
      have HR := Lib.hid (SteplessR_ok (n := m) (r := s) (k := t) (by omega))
      have HB := Lib.hid eB
      have C := Lib.hid ((first_calls 50 #[.pointer (some ⟨w.heap.size, 0, none⟩)] (fun _ _ => rfl) (fun cs => (progF cs t).isNone) (w.alloc (.cells #[.int .i64 t] 3)) m s (by omega) (by omega) (fun xs A n c W h1 h2 hB h4 h5 h6 _ _ => stepless1_calls A n c xs t (by omega) w.heap.size W ((hB.cell (p := ⟨w.heap.size, 0, none⟩) (by simp)).trans e1) h1 (by omega) h4 h5 h6)).mono (fun e w2 h => h.res eB))
      clear hs hk eB
      obtain ⟨⟨q1, q2⟩, q3, q4⟩ := hr
      go_enter Try.func31, Try.ntmps31
      go_wp2_with fail
      refine (c1.out _).mono ?_
      rintro e w1 ⟨rfl, rfl⟩
      rw [HS.out]
      go_wp2_with fail
      refine C.out.mono ?_
      intro e w2 h
      obtain ⟨v, q, rfl⟩ := h.tuple
      have H := Lib.hid h
      clear h
      go_wp2_with fail
      go_ret2
      rw [HR.out]
      exact H.out
  · have HB := Lib.hid eB
    have HE := Lib.hid (SteplessR_err (n := n) (r := r) (k := k) (fun h => hr ⟨h.1, h.2.1⟩))
    have H2 : Hid ((1 ≤ n ∧ n ≤ 20) ∧ (1 ≤ r ∧ r ≤ 3) → False) := hr
    clear hr eB
    go_enter Try.func31, Try.ntmps31
    go_wp2_with fail
    all_goals first
      | (exfalso; exact H2.out (by omega))
      | (go_ret2; rw [HE.out]; exact ⟨rfl, HB.out⟩)

end Go.Proofs.Ytplafgmceggcnaa
