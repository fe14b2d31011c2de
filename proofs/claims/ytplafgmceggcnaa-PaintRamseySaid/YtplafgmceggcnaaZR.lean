/- What is proved: the law of Ramsey. No condition beyond those in each statement. -/
import Derived.Test.YtplafgmceggcnaaZ
import Derived.Test.YtplafgmceggcnaaPb
namespace Go.Proofs.Ytplafgmceggcnaa
open Go.RowKit

set_option maxHeartbeats 4000000 in
theorem ramseylaw_calls (x y : Int) (hx : 0 ≤ x ∧ x ≤ 255) (hy : 0 ≤ y ∧ y ≤ 255) (w : World) : Calls Try.prog 9 #[.int .u8 x, .int .u8 y] w fun e w' => e = .returned (.bool true) ∧ Below w.heap.size w w' := by
  have b1 := betw_in (x := x) (lo := 1) (hi := 8) (by omega)
  have b2 := betw_in (x := y) (lo := 2) (hi := 4) (by omega)
  have CB1 := Lib.hid (between_calls x 1 8 w hx (by omega) (by omega) (by omega))
  have CB2 := Lib.hid (between_calls y 2 4 w hy (by omega) (by omega) (by omega))
  obtain ⟨n, hn⟩ : ∃ n : Nat, betw x 1 8 = n := ⟨(betw x 1 8).toNat, by omega⟩
  obtain ⟨l, hl⟩ : ∃ n : Nat, betw y 2 4 = n := ⟨(betw y 2 4).toNat, by omega⟩
  rw [hn] at b1 CB1
  rw [hl] at b2 CB2
  clear hn hl
  have n8 : n ≤ 8 := by omega
  have e1 := avoidR_ends n 3 3 (by omega)
  have e2 := avoidR_ends n 3 4 (by omega)
  have e3 := avoidR_ends n 2 l (by omega)
  have e4 := avoidR_ends n l 2 (by omega)
  rw [avoid33 n8] at e1
  rw [avoid34 n8] at e2
  rw [(avoid2 n8 (by omega) (by omega)).1] at e3
  rw [(avoid2 n8 (by omega) (by omega)).2] at e4
  have C1 := Lib.hid (avoid_calls n 3 3)
  have C2 := Lib.hid (avoid_calls n 3 4)
  have C3 := Lib.hid (avoid_calls n 2 l)
  have C4 := Lib.hid (avoid_calls n l 2)
  obtain ⟨ys, hy1, hy2, _⟩ := e2.1 rfl
  have HY1 := Lib.hid hy1
  have HY2 := Lib.hid hy2
  clear e2 hy1 hy2
  obtain ⟨np, hnp⟩ : ∃ q, q = npairs n := ⟨_, rfl⟩
  have hnp2 : np ≤ 28 := by rw [hnp]; exact npairs_le n n8
  have hm := npairs_mul n n8
  rw [← hnp] at hm
  have wm1 : IntKind.i64.wrap ((n : Int) * ((n : Int) - 1)) = 2 * (np : Int) := by rw [hm]; exact IntWalk.i64_in _ (by omega)
  have wm2 : Int.tdiv (2 * (np : Int)) 2 = np := Int.mul_tdiv_cancel_left _ (by decide)
  have HNP := Lib.hid hnp
  have HM := Lib.hid hm
  clear hnp hm
  by_cases h6 : n < 6
  · by_cases hl : n < l
    · have HE1 := Lib.hid (e1.1 (decide_eq_true h6))
      have HE3 := Lib.hid (e3.1 (decide_eq_true hl))
      have HE4 := Lib.hid (e4.1 (decide_eq_true hl))
      clear e1 e3 e4
      obtain ⟨xs1, HX1', _⟩ := HE1.out
      have HX1 := Lib.hid HX1'
      clear HE1 HX1'
      obtain ⟨xs3, HX3', _⟩ := HE3.out
      obtain ⟨xs4, HX4', _⟩ := HE4.out
      have HX3 := Lib.hid HX3'
      have HX4 := Lib.hid HX4'
      clear HE3 HE4 HX3' HX4'
      go_enter Try.func9, Try.ntmps9
      go_wp2_with fail
      refine CB1.out.mono ?_
      rintro e v1 ⟨rfl, rfl⟩
      go_wp2_with fail
      refine CB2.out.mono ?_
      rintro e v2 ⟨rfl, rfl⟩
      go_wp2_with fail
      refine (C1.out _).mono ?_
      rw [HX1.out]
      rintro e w1 ⟨A1, nn1, cc1, rfl, hn, _, _, _, hB⟩
      have HN1 := Lib.hid hn
      clear hn
      have HB1 : Hid (Below w.heap.size w w1) := hB
      clear hB
      go_wp2_with fail
      refine (C2.out _).mono ?_
      rw [HY1.out]
      rintro e w2 ⟨A2, nn2, cc2, rfl, hn, _, _, _, hB⟩
      have HN2 := Lib.hid hn
      clear hn
      have HB2 : Hid (Below w.heap.size w w2) := HB1.out.trans (hB.mono HB1.out.size)
      clear hB
      have hq2 : nn2 = np := by have := HN2.out; have := HY2.out; have := HNP.out; omega
      subst hq2
      go_wp2_with fail
      refine (C3.out _).mono ?_
      rw [HX3.out]
      rintro e w3 ⟨A3, nn3, cc3, rfl, hn, _, _, _, hB⟩
      have HN3 := Lib.hid hn
      clear hn
      have HB3 : Hid (Below w.heap.size w w3) := HB2.out.trans (hB.mono HB2.out.size)
      clear hB
      go_wp2_with fail
      refine (C4.out _).mono ?_
      rw [HX4.out]
      rintro e w4 ⟨A4, nn4, cc4, rfl, hn, _, _, _, hB⟩
      have HN4 := Lib.hid hn
      clear hn
      have HB4 : Hid (Below w.heap.size w w4) := HB3.out.trans (hB.mono HB3.out.size)
      clear hB
      go_wp2_with fail
      refine (lives_calls _).mono ?_
      rintro e w5 ⟨rfl, hB⟩
      have HB5 : Hid (Below w.heap.size w w5) := HB4.out.trans (hB.mono HB4.out.size)
      clear hB
      go_wp2_with fail
      go_ret
      refine ⟨?_, HB5.out⟩
      show Ending.returned (Value.bool _) = _
      refine ret_bool ?_
      first | rfl | (simp; done) | (simp; omega)
    · have HE1 := Lib.hid (e1.1 (decide_eq_true h6))
      have HE3 := Lib.hid (e3.2 (decide_eq_false hl))
      have HE4 := Lib.hid (e4.2 (decide_eq_false hl))
      clear e1 e3 e4
      obtain ⟨xs1, HX1', _⟩ := HE1.out
      have HX1 := Lib.hid HX1'
      clear HE1 HX1'
      go_enter Try.func9, Try.ntmps9
      go_wp2_with fail
      refine CB1.out.mono ?_
      rintro e v1 ⟨rfl, rfl⟩
      go_wp2_with fail
      refine CB2.out.mono ?_
      rintro e v2 ⟨rfl, rfl⟩
      go_wp2_with fail
      refine (C1.out _).mono ?_
      rw [HX1.out]
      rintro e w1 ⟨A1, nn1, cc1, rfl, hn, _, _, _, hB⟩
      have HN1 := Lib.hid hn
      clear hn
      have HB1 : Hid (Below w.heap.size w w1) := hB
      clear hB
      go_wp2_with fail
      refine (C2.out _).mono ?_
      rw [HY1.out]
      rintro e w2 ⟨A2, nn2, cc2, rfl, hn, _, _, _, hB⟩
      have HN2 := Lib.hid hn
      clear hn
      have HB2 : Hid (Below w.heap.size w w2) := HB1.out.trans (hB.mono HB1.out.size)
      clear hB
      have hq2 : nn2 = np := by have := HN2.out; have := HY2.out; have := HNP.out; omega
      subst hq2
      go_wp2_with fail
      refine (C3.out _).mono ?_
      rw [HE3.out]
      rintro e w3 ⟨rfl, hB⟩
      have HB3 : Hid (Below w.heap.size w w3) := HB2.out.trans (hB.mono HB2.out.size)
      clear hB
      go_wp2_with fail
      refine (C4.out _).mono ?_
      rw [HE4.out]
      rintro e w4 ⟨rfl, hB⟩
      have HB4 : Hid (Below w.heap.size w w4) := HB3.out.trans (hB.mono HB3.out.size)
      clear hB
      go_wp2_with fail
      refine (lives_calls _).mono ?_
      rintro e w5 ⟨rfl, hB⟩
      have HB5 : Hid (Below w.heap.size w w5) := HB4.out.trans (hB.mono HB4.out.size)
      clear hB
      go_wp2_with fail
      go_ret
      refine ⟨?_, HB5.out⟩
      show Ending.returned (Value.bool _) = _
      refine ret_bool ?_
      first | rfl | (simp; done) | (simp; omega)
  · by_cases hl : n < l
    · exfalso; omega
    · have HE1 := Lib.hid (e1.2 (decide_eq_false h6))
      have HE3 := Lib.hid (e3.2 (decide_eq_false hl))
      have HE4 := Lib.hid (e4.2 (decide_eq_false hl))
      clear e1 e3 e4
      go_enter Try.func9, Try.ntmps9
      go_wp2_with fail
      refine CB1.out.mono ?_
      rintro e v1 ⟨rfl, rfl⟩
      go_wp2_with fail
      refine CB2.out.mono ?_
      rintro e v2 ⟨rfl, rfl⟩
      go_wp2_with fail
      refine (C1.out _).mono ?_
      rw [HE1.out]
      rintro e w1 ⟨rfl, hB⟩
      have HB1 : Hid (Below w.heap.size w w1) := hB
      clear hB
      go_wp2_with fail
      refine (C2.out _).mono ?_
      rw [HY1.out]
      rintro e w2 ⟨A2, nn2, cc2, rfl, hn, _, _, _, hB⟩
      have HN2 := Lib.hid hn
      clear hn
      have HB2 : Hid (Below w.heap.size w w2) := HB1.out.trans (hB.mono HB1.out.size)
      clear hB
      have hq2 : nn2 = np := by have := HN2.out; have := HY2.out; have := HNP.out; omega
      subst hq2
      go_wp2_with fail
      refine (C3.out _).mono ?_
      rw [HE3.out]
      rintro e w3 ⟨rfl, hB⟩
      have HB3 : Hid (Below w.heap.size w w3) := HB2.out.trans (hB.mono HB2.out.size)
      clear hB
      go_wp2_with fail
      refine (C4.out _).mono ?_
      rw [HE4.out]
      rintro e w4 ⟨rfl, hB⟩
      have HB4 : Hid (Below w.heap.size w w4) := HB3.out.trans (hB.mono HB3.out.size)
      clear hB
      go_wp2_with fail
      refine (lives_calls _).mono ?_
      rintro e w5 ⟨rfl, hB⟩
      have HB5 : Hid (Below w.heap.size w w5) := HB4.out.trans (hB.mono HB4.out.size)
      clear hB
      go_wp2_with fail
      go_ret
      refine ⟨?_, HB5.out⟩
      show Ending.returned (Value.bool _) = _
      refine ret_bool ?_
      first | rfl | (simp; done) | (simp; omega)
end Go.Proofs.Ytplafgmceggcnaa
