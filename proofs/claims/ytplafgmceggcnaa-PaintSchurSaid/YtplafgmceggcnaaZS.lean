/- What is proved: the law of Schur and van der Waerden. No condition beyond those in each statement. -/
import Derived.Test.YtplafgmceggcnaaZ
import Derived.Test.YtplafgmceggcnaaPc
namespace Go.Proofs.Ytplafgmceggcnaa
open Go.RowKit

theorem ends_of (L : List (List Int)) : (L.head?.isSome = true → ∃ xs, orNone L.head? = .ok xs ∧ xs ∈ L) ∧ (L.head?.isSome = false → orNone L.head? = .error 5) := by
  cases L with
  | nil => exact ⟨fun h => (by cases h), fun _ => rfl⟩
  | cons a t => exact ⟨fun _ => ⟨a, rfl, by simp⟩, fun h => (by cases h)⟩
def schurT (r : Nat) : Nat := if r = 1 then 2 else if r = 2 then 5 else 14
theorem schur_r (n r : Nat) (h1 : 1 ≤ r) (h3 : r ≤ 3) : (sumlessL n r).head?.isSome = decide (n < schurT r) := by
  have : r = 1 ∨ r = 2 ∨ r = 3 := by omega
  rcases this with rfl | rfl | rfl
  · exact (schur n).1
  · exact (schur n).2.1
  · exact (schur n).2.2
theorem waerden_k (n k : Nat) (h : k = 3 ∨ k = 4) : (steplessL n 1 k).head?.isSome = decide (n < k) := by
  rcases h with rfl | rfl
  · exact (waerden n).2.1
  · exact (waerden n).2.2

set_option maxHeartbeats 4000000 in
theorem schurlaw_calls (x y z : Int) (hx : 0 ≤ x ∧ x ≤ 255) (hy : 0 ≤ y ∧ y ≤ 255) (hz : 0 ≤ z ∧ z ≤ 255) (w : World) : Calls Try.prog 11 #[.int .u8 x, .int .u8 y, .int .u8 z] w fun e w' => e = .returned (.bool true) ∧ Below w.heap.size w w' := by
  have b1 := betw_in (x := x) (lo := 1) (hi := 14) (by omega)
  have b2 := betw_in (x := y) (lo := 1) (hi := 3) (by omega)
  have b3 := betw_in (x := x) (lo := 1) (hi := 20) (by omega)
  have b4 := betw_in (x := z) (lo := 3) (hi := 4) (by omega)
  have CB1 := Lib.hid (fun W : World => between_calls x 1 14 W hx (by omega) (by omega) (by omega))
  have CB2 := Lib.hid (fun W : World => between_calls y 1 3 W hy (by omega) (by omega) (by omega))
  have CB3 := Lib.hid (fun W : World => between_calls x 1 20 W hx (by omega) (by omega) (by omega))
  have CB4 := Lib.hid (fun W : World => between_calls z 3 4 W hz (by omega) (by omega) (by omega))
  obtain ⟨n, hn⟩ : ∃ n : Nat, betw x 1 14 = n := ⟨(betw x 1 14).toNat, by omega⟩
  obtain ⟨r, hr⟩ : ∃ n : Nat, betw y 1 3 = n := ⟨(betw y 1 3).toNat, by omega⟩
  obtain ⟨m, hm⟩ : ∃ n : Nat, betw x 1 20 = n := ⟨(betw x 1 20).toNat, by omega⟩
  obtain ⟨k, hk⟩ : ∃ n : Nat, betw z 3 4 = n := ⟨(betw z 3 4).toNat, by omega⟩
  rw [hn] at b1 CB1
  rw [hr] at b2 CB2
  rw [hm] at b3 CB3
  rw [hk] at b4 CB4
  clear hn hr hm hk
  have e1 := ends_of (sumlessL n r)
  have e2 := ends_of (steplessL m 2 3)
  have e3 := ends_of (steplessL m 1 k)
  rw [schur_r n r (by omega) (by omega), ← SumlessR_ok (by omega)] at e1
  rw [(waerden m).1, ← SteplessR_ok (by omega)] at e2
  rw [waerden_k m k (by omega), ← SteplessR_ok (by omega)] at e3
  have e2' : (decide (m < 9) = true → ∃ xs, SteplessR m 2 3 = .ok xs ∧ xs ∈ steplessL m 2 3) ∧ (decide (m < 9) = false → SteplessR m 2 3 = .error 5) := e2
  have e3' : (decide (m < k) = true → ∃ xs, SteplessR m 1 k = .ok xs ∧ xs ∈ steplessL m 1 k) ∧ (decide (m < k) = false → SteplessR m 1 k = .error 5) := e3
  clear e2 e3
  have e2 := e2'
  have e3 := e3'
  clear e2' e3'
  have C1 := Lib.hid (sumless_calls n r)
  have C2 := Lib.hid (stepless_calls m 2 3)
  have C3 := Lib.hid (stepless_calls m 1 k)
  have hT : 0 ≤ (schurT r : Int) ∧ (schurT r : Int) ≤ 14 := by unfold schurT; split <;> (try split) <;> omega
  have hlit : ∀ W : World, (W.alloc (.cells #[.int .i64 2, .int .i64 5, .int .i64 14] 3)).cell? ⟨W.heap.size, r - 1, none⟩ = some (.int .i64 (schurT r : Nat)) := by
    intro W
    have : r = 1 ∨ r = 2 ∨ r = 3 := by omega
    rw [World.cell?_alloc_at _ _ _ _ rfl]
    rcases this with rfl | rfl | rfl <;> rfl
  obtain ⟨r', hr'⟩ : ∃ q, r = q + 1 := ⟨r - 1, by omega⟩
  subst hr'
  have HLIT := Lib.hid hlit
  obtain ⟨T, hTT⟩ : ∃ T, T = schurT (r' + 1) := ⟨_, rfl⟩
  rw [← hTT] at e1 hT HLIT
  clear hTT hlit
  by_cases g1 : n < T
  · by_cases g2 : m < 9
    · by_cases g3 : m < k
      · obtain ⟨xs1, hq1, _⟩ := e1.1 (decide_eq_true g1)
        have HE1 := Lib.hid hq1
        clear hq1
        obtain ⟨xs2, hq2, _⟩ := e2.1 (decide_eq_true g2)
        have HE2 := Lib.hid hq2
        clear hq2
        obtain ⟨xs3, hq3, _⟩ := e3.1 (decide_eq_true g3)
        have HE3 := Lib.hid hq3
        clear hq3
        clear e1 e2 e3
        go_enter Try.func11, Try.ntmps11
        go_wp2_with fail
        refine (CB1.out _).mono ?_
        rintro e v1 ⟨rfl, rfl⟩
        go_wp2_with fail
        refine (CB2.out _).mono ?_
        rintro e v2 ⟨rfl, rfl⟩
        go_wp2_with fail
        refine (C1.out _).mono ?_
        rw [HE1.out]
        rintro e w1 ⟨A1, nn1, cc1, rfl, _, _, _, _, hB⟩
        have HB1 : Hid (Below w.heap.size w w1) := hB
        clear hB
        go_wp2_with fail
        refine (CB3.out _).mono ?_
        rintro e v3 ⟨rfl, rfl⟩
        go_wp2_with fail
        refine (CB4.out _).mono ?_
        rintro e v4 ⟨rfl, rfl⟩
        go_wp2_with fail
        refine (C2.out _).mono ?_
        rw [HE2.out]
        rintro e w2 ⟨A2, nn2, cc2, rfl, _, _, _, _, hB⟩
        have HB2 : Hid (Below w.heap.size w w2) := HB1.out.trans (hB.mono HB1.out.size)
        clear hB
        go_wp2_with fail
        refine (C3.out _).mono ?_
        rw [HE3.out]
        rintro e w3 ⟨A3, nn3, cc3, rfl, _, _, _, _, hB⟩
        have HB3 : Hid (Below w.heap.size w w3) := HB2.out.trans (hB.mono HB2.out.size)
        clear hB
        have hcell : (w3.alloc (.cells #[.int .i64 2, .int .i64 5, .int .i64 14] 3)).cell? ⟨w3.heap.size, r', none⟩ = some (.int .i64 (T : Nat)) := HLIT.out w3
        have HB3a : Hid (Below w.heap.size w (w3.alloc (.cells #[.int .i64 2, .int .i64 5, .int .i64 14] 3))) := HB3.out.alloc HB3.out.size _
        have hb3 : (0 : Int) ≤ r' ∧ (r' : Int) < 3 := by omega
        go_wp2_with fail
        refine (lives_calls _).mono ?_
        rintro e w4 ⟨rfl, hB⟩
        have HB4 := Lib.hid (HB3a.out.trans (hB.mono HB3a.out.size))
        clear hB
        go_wp2_with fail
        go_ret
        refine ⟨?_, HB4.out⟩
        show Ending.returned (Value.bool _) = _
        refine ret_bool ?_
        first | rfl | (simp; done) | (simp; omega)
      · obtain ⟨xs1, hq1, _⟩ := e1.1 (decide_eq_true g1)
        have HE1 := Lib.hid hq1
        clear hq1
        obtain ⟨xs2, hq2, _⟩ := e2.1 (decide_eq_true g2)
        have HE2 := Lib.hid hq2
        clear hq2
        have HE3 := Lib.hid (e3.2 (decide_eq_false g3))
        clear e1 e2 e3
        go_enter Try.func11, Try.ntmps11
        go_wp2_with fail
        refine (CB1.out _).mono ?_
        rintro e v1 ⟨rfl, rfl⟩
        go_wp2_with fail
        refine (CB2.out _).mono ?_
        rintro e v2 ⟨rfl, rfl⟩
        go_wp2_with fail
        refine (C1.out _).mono ?_
        rw [HE1.out]
        rintro e w1 ⟨A1, nn1, cc1, rfl, _, _, _, _, hB⟩
        have HB1 : Hid (Below w.heap.size w w1) := hB
        clear hB
        go_wp2_with fail
        refine (CB3.out _).mono ?_
        rintro e v3 ⟨rfl, rfl⟩
        go_wp2_with fail
        refine (CB4.out _).mono ?_
        rintro e v4 ⟨rfl, rfl⟩
        go_wp2_with fail
        refine (C2.out _).mono ?_
        rw [HE2.out]
        rintro e w2 ⟨A2, nn2, cc2, rfl, _, _, _, _, hB⟩
        have HB2 : Hid (Below w.heap.size w w2) := HB1.out.trans (hB.mono HB1.out.size)
        clear hB
        go_wp2_with fail
        refine (C3.out _).mono ?_
        rw [HE3.out]
        rintro e w3 ⟨rfl, hB⟩
        have HB3 : Hid (Below w.heap.size w w3) := HB2.out.trans (hB.mono HB2.out.size)
        clear hB
        have hcell : (w3.alloc (.cells #[.int .i64 2, .int .i64 5, .int .i64 14] 3)).cell? ⟨w3.heap.size, r', none⟩ = some (.int .i64 (T : Nat)) := HLIT.out w3
        have HB3a : Hid (Below w.heap.size w (w3.alloc (.cells #[.int .i64 2, .int .i64 5, .int .i64 14] 3))) := HB3.out.alloc HB3.out.size _
        have hb3 : (0 : Int) ≤ r' ∧ (r' : Int) < 3 := by omega
        go_wp2_with fail
        refine (lives_calls _).mono ?_
        rintro e w4 ⟨rfl, hB⟩
        have HB4 := Lib.hid (HB3a.out.trans (hB.mono HB3a.out.size))
        clear hB
        go_wp2_with fail
        go_ret
        refine ⟨?_, HB4.out⟩
        show Ending.returned (Value.bool _) = _
        refine ret_bool ?_
        first | rfl | (simp; done) | (simp; omega)
    · by_cases g3 : m < k
      · exfalso; omega
      · obtain ⟨xs1, hq1, _⟩ := e1.1 (decide_eq_true g1)
        have HE1 := Lib.hid hq1
        clear hq1
        have HE2 := Lib.hid (e2.2 (decide_eq_false g2))
        have HE3 := Lib.hid (e3.2 (decide_eq_false g3))
        clear e1 e2 e3
        go_enter Try.func11, Try.ntmps11
        go_wp2_with fail
        refine (CB1.out _).mono ?_
        rintro e v1 ⟨rfl, rfl⟩
        go_wp2_with fail
        refine (CB2.out _).mono ?_
        rintro e v2 ⟨rfl, rfl⟩
        go_wp2_with fail
        refine (C1.out _).mono ?_
        rw [HE1.out]
        rintro e w1 ⟨A1, nn1, cc1, rfl, _, _, _, _, hB⟩
        have HB1 : Hid (Below w.heap.size w w1) := hB
        clear hB
        go_wp2_with fail
        refine (CB3.out _).mono ?_
        rintro e v3 ⟨rfl, rfl⟩
        go_wp2_with fail
        refine (CB4.out _).mono ?_
        rintro e v4 ⟨rfl, rfl⟩
        go_wp2_with fail
        refine (C2.out _).mono ?_
        rw [HE2.out]
        rintro e w2 ⟨rfl, hB⟩
        have HB2 : Hid (Below w.heap.size w w2) := HB1.out.trans (hB.mono HB1.out.size)
        clear hB
        go_wp2_with fail
        refine (C3.out _).mono ?_
        rw [HE3.out]
        rintro e w3 ⟨rfl, hB⟩
        have HB3 : Hid (Below w.heap.size w w3) := HB2.out.trans (hB.mono HB2.out.size)
        clear hB
        have hcell : (w3.alloc (.cells #[.int .i64 2, .int .i64 5, .int .i64 14] 3)).cell? ⟨w3.heap.size, r', none⟩ = some (.int .i64 (T : Nat)) := HLIT.out w3
        have HB3a : Hid (Below w.heap.size w (w3.alloc (.cells #[.int .i64 2, .int .i64 5, .int .i64 14] 3))) := HB3.out.alloc HB3.out.size _
        have hb3 : (0 : Int) ≤ r' ∧ (r' : Int) < 3 := by omega
        go_wp2_with fail
        refine (lives_calls _).mono ?_
        rintro e w4 ⟨rfl, hB⟩
        have HB4 := Lib.hid (HB3a.out.trans (hB.mono HB3a.out.size))
        clear hB
        go_wp2_with fail
        go_ret
        refine ⟨?_, HB4.out⟩
        show Ending.returned (Value.bool _) = _
        refine ret_bool ?_
        first | rfl | (simp; done) | (simp; omega)
  · by_cases g2 : m < 9
    · by_cases g3 : m < k
      · have HE1 := Lib.hid (e1.2 (decide_eq_false g1))
        obtain ⟨xs2, hq2, _⟩ := e2.1 (decide_eq_true g2)
        have HE2 := Lib.hid hq2
        clear hq2
        obtain ⟨xs3, hq3, _⟩ := e3.1 (decide_eq_true g3)
        have HE3 := Lib.hid hq3
        clear hq3
        clear e1 e2 e3
        go_enter Try.func11, Try.ntmps11
        go_wp2_with fail
        refine (CB1.out _).mono ?_
        rintro e v1 ⟨rfl, rfl⟩
        go_wp2_with fail
        refine (CB2.out _).mono ?_
        rintro e v2 ⟨rfl, rfl⟩
        go_wp2_with fail
        refine (C1.out _).mono ?_
        rw [HE1.out]
        rintro e w1 ⟨rfl, hB⟩
        have HB1 : Hid (Below w.heap.size w w1) := hB
        clear hB
        go_wp2_with fail
        refine (CB3.out _).mono ?_
        rintro e v3 ⟨rfl, rfl⟩
        go_wp2_with fail
        refine (CB4.out _).mono ?_
        rintro e v4 ⟨rfl, rfl⟩
        go_wp2_with fail
        refine (C2.out _).mono ?_
        rw [HE2.out]
        rintro e w2 ⟨A2, nn2, cc2, rfl, _, _, _, _, hB⟩
        have HB2 : Hid (Below w.heap.size w w2) := HB1.out.trans (hB.mono HB1.out.size)
        clear hB
        go_wp2_with fail
        refine (C3.out _).mono ?_
        rw [HE3.out]
        rintro e w3 ⟨A3, nn3, cc3, rfl, _, _, _, _, hB⟩
        have HB3 : Hid (Below w.heap.size w w3) := HB2.out.trans (hB.mono HB2.out.size)
        clear hB
        have hcell : (w3.alloc (.cells #[.int .i64 2, .int .i64 5, .int .i64 14] 3)).cell? ⟨w3.heap.size, r', none⟩ = some (.int .i64 (T : Nat)) := HLIT.out w3
        have HB3a : Hid (Below w.heap.size w (w3.alloc (.cells #[.int .i64 2, .int .i64 5, .int .i64 14] 3))) := HB3.out.alloc HB3.out.size _
        have hb3 : (0 : Int) ≤ r' ∧ (r' : Int) < 3 := by omega
        go_wp2_with fail
        refine (lives_calls _).mono ?_
        rintro e w4 ⟨rfl, hB⟩
        have HB4 := Lib.hid (HB3a.out.trans (hB.mono HB3a.out.size))
        clear hB
        go_wp2_with fail
        go_ret
        refine ⟨?_, HB4.out⟩
        show Ending.returned (Value.bool _) = _
        refine ret_bool ?_
        first | rfl | (simp; done) | (simp; omega)
      · have HE1 := Lib.hid (e1.2 (decide_eq_false g1))
        obtain ⟨xs2, hq2, _⟩ := e2.1 (decide_eq_true g2)
        have HE2 := Lib.hid hq2
        clear hq2
        have HE3 := Lib.hid (e3.2 (decide_eq_false g3))
        clear e1 e2 e3
        go_enter Try.func11, Try.ntmps11
        go_wp2_with fail
        refine (CB1.out _).mono ?_
        rintro e v1 ⟨rfl, rfl⟩
        go_wp2_with fail
        refine (CB2.out _).mono ?_
        rintro e v2 ⟨rfl, rfl⟩
        go_wp2_with fail
        refine (C1.out _).mono ?_
        rw [HE1.out]
        rintro e w1 ⟨rfl, hB⟩
        have HB1 : Hid (Below w.heap.size w w1) := hB
        clear hB
        go_wp2_with fail
        refine (CB3.out _).mono ?_
        rintro e v3 ⟨rfl, rfl⟩
        go_wp2_with fail
        refine (CB4.out _).mono ?_
        rintro e v4 ⟨rfl, rfl⟩
        go_wp2_with fail
        refine (C2.out _).mono ?_
        rw [HE2.out]
        rintro e w2 ⟨A2, nn2, cc2, rfl, _, _, _, _, hB⟩
        have HB2 : Hid (Below w.heap.size w w2) := HB1.out.trans (hB.mono HB1.out.size)
        clear hB
        go_wp2_with fail
        refine (C3.out _).mono ?_
        rw [HE3.out]
        rintro e w3 ⟨rfl, hB⟩
        have HB3 : Hid (Below w.heap.size w w3) := HB2.out.trans (hB.mono HB2.out.size)
        clear hB
        have hcell : (w3.alloc (.cells #[.int .i64 2, .int .i64 5, .int .i64 14] 3)).cell? ⟨w3.heap.size, r', none⟩ = some (.int .i64 (T : Nat)) := HLIT.out w3
        have HB3a : Hid (Below w.heap.size w (w3.alloc (.cells #[.int .i64 2, .int .i64 5, .int .i64 14] 3))) := HB3.out.alloc HB3.out.size _
        have hb3 : (0 : Int) ≤ r' ∧ (r' : Int) < 3 := by omega
        go_wp2_with fail
        refine (lives_calls _).mono ?_
        rintro e w4 ⟨rfl, hB⟩
        have HB4 := Lib.hid (HB3a.out.trans (hB.mono HB3a.out.size))
        clear hB
        go_wp2_with fail
        go_ret
        refine ⟨?_, HB4.out⟩
        show Ending.returned (Value.bool _) = _
        refine ret_bool ?_
        first | rfl | (simp; done) | (simp; omega)
    · by_cases g3 : m < k
      · exfalso; omega
      · have HE1 := Lib.hid (e1.2 (decide_eq_false g1))
        have HE2 := Lib.hid (e2.2 (decide_eq_false g2))
        have HE3 := Lib.hid (e3.2 (decide_eq_false g3))
        clear e1 e2 e3
        go_enter Try.func11, Try.ntmps11
        go_wp2_with fail
        refine (CB1.out _).mono ?_
        rintro e v1 ⟨rfl, rfl⟩
        go_wp2_with fail
        refine (CB2.out _).mono ?_
        rintro e v2 ⟨rfl, rfl⟩
        go_wp2_with fail
        refine (C1.out _).mono ?_
        rw [HE1.out]
        rintro e w1 ⟨rfl, hB⟩
        have HB1 : Hid (Below w.heap.size w w1) := hB
        clear hB
        go_wp2_with fail
        refine (CB3.out _).mono ?_
        rintro e v3 ⟨rfl, rfl⟩
        go_wp2_with fail
        refine (CB4.out _).mono ?_
        rintro e v4 ⟨rfl, rfl⟩
        go_wp2_with fail
        refine (C2.out _).mono ?_
        rw [HE2.out]
        rintro e w2 ⟨rfl, hB⟩
        have HB2 : Hid (Below w.heap.size w w2) := HB1.out.trans (hB.mono HB1.out.size)
        clear hB
        go_wp2_with fail
        refine (C3.out _).mono ?_
        rw [HE3.out]
        rintro e w3 ⟨rfl, hB⟩
        have HB3 : Hid (Below w.heap.size w w3) := HB2.out.trans (hB.mono HB2.out.size)
        clear hB
        have hcell : (w3.alloc (.cells #[.int .i64 2, .int .i64 5, .int .i64 14] 3)).cell? ⟨w3.heap.size, r', none⟩ = some (.int .i64 (T : Nat)) := HLIT.out w3
        have HB3a : Hid (Below w.heap.size w (w3.alloc (.cells #[.int .i64 2, .int .i64 5, .int .i64 14] 3))) := HB3.out.alloc HB3.out.size _
        have hb3 : (0 : Int) ≤ r' ∧ (r' : Int) < 3 := by omega
        go_wp2_with fail
        refine (lives_calls _).mono ?_
        rintro e w4 ⟨rfl, hB⟩
        have HB4 := Lib.hid (HB3a.out.trans (hB.mono HB3a.out.size))
        clear hB
        go_wp2_with fail
        go_ret
        refine ⟨?_, HB4.out⟩
        show Ending.returned (Value.bool _) = _
        refine ret_bool ?_
        first | rfl | (simp; done) | (simp; omega)
end Go.Proofs.Ytplafgmceggcnaa
