/- What is proved: the law of exchanged colors. No condition beyond those in each statement. -/
import Derived.Test.YtplafgmceggcnaaZ
namespace Go.Proofs.Ytplafgmceggcnaa
open Go.RowKit

theorem box_arr3 (w : World) (v0 v1 v2 : Value) (t : Nat) : (w.alloc (.cells #[v0, v1, v2] t)).cell? ⟨w.heap.size, 0, none⟩ = some v0 ∧ (w.alloc (.cells #[v0, v1, v2] t)).cell? ⟨w.heap.size, 1, none⟩ = some v1 ∧ (w.alloc (.cells #[v0, v1, v2] t)).cell? ⟨w.heap.size, 2, none⟩ = some v2 := by
  refine ⟨?_, ?_, ?_⟩ <;> (rw [World.cell?_alloc_at _ _ _ _ rfl]; rfl)

set_option maxHeartbeats 4000000 in
theorem exchangedlaw_calls (x0 x1 x2 : Int) (h0 : 0 ≤ x0 ∧ x0 ≤ 255) (h1 : 0 ≤ x1 ∧ x1 ≤ 255) (h2 : 0 ≤ x2 ∧ x2 ≤ 255) (w : World) :
    Calls Try.prog 15 #[.agg #[.int .u8 x0, .int .u8 x1, .int .u8 x2]] w fun e w' => e = .returned (.bool true) ∧ Below w.heap.size w w' := by
  have b1 := betw_in (x := x0) (lo := 1) (hi := 5) (by omega)
  have b2 := betw_in (x := x1) (lo := 2) (hi := 4) (by omega)
  have b3 := betw_in (x := x2) (lo := 2) (hi := 4) (by omega)
  have CB1 := Lib.hid (fun W : World => between_calls x0 1 5 W h0 (by omega) (by omega) (by omega))
  have CB2 := Lib.hid (fun W : World => between_calls x1 2 4 W h1 (by omega) (by omega) (by omega))
  have CB3 := Lib.hid (fun W : World => between_calls x2 2 4 W h2 (by omega) (by omega) (by omega))
  obtain ⟨n, hn⟩ : ∃ n : Nat, betw x0 1 5 = n := ⟨(betw x0 1 5).toNat, by omega⟩
  obtain ⟨k, hk⟩ : ∃ k : Int, betw x1 2 4 = k := ⟨_, rfl⟩
  obtain ⟨l, hl⟩ : ∃ l : Int, betw x2 2 4 = l := ⟨_, rfl⟩
  rw [hn] at b1 CB1
  rw [hk] at b2 CB2
  rw [hl] at b3 CB3
  clear hn hk hl
  have e1 := CountN_ok (n := n) (k := k) (l := l) (by omega)
  have e2 := CountN_ok (n := n) (k := l) (l := k) (by omega)
  rw [← avoid_flip] at e2
  have e3 := avoidR_ends n k l (by omega)
  have hc : (avoidL n k l).length ≤ 1024 := by
    have h1 := leaves_len 2 (goodW n k l) (npairs n) []
    have h2 : ∀ m, m ≤ 5 → npairs m ≤ 10 := by decide
    have h3 : 2 ^ npairs n ≤ 2 ^ 10 := Nat.pow_le_pow_right (by omega) (h2 n (by omega))
    unfold avoidL
    omega
  have hz : (avoidL n k l).head?.isSome = decide ((avoidL n k l).length ≠ 0) := by
    cases avoidL n k l <;> simp
  rw [hz] at e3
  obtain ⟨c, hcc⟩ : ∃ c, c = (avoidL n k l).length := ⟨_, rfl⟩
  rw [← hcc] at e1 e2 e3 hc
  clear hcc hz
  have HE1 := Lib.hid e1
  have HE2 := Lib.hid e2
  clear e1 e2
  have C1 := Lib.hid (count_calls n k l)
  have C2 := Lib.hid (count_calls n l k)
  have C3 := Lib.hid (avoid_calls n k l)
  obtain ⟨d0, d1, d2⟩ := box_arr3 w (.int .u8 x0) (.int .u8 x1) (.int .u8 x2) 42
  have HBa : Hid (Below w.heap.size w (w.alloc (.cells #[.int .u8 x0, .int .u8 x1, .int .u8 x2] 42))) := (Below.refl _ _).alloc (Nat.le_refl _) _
  have Q1 := Lib.hid (fun i : Nat => Calls.quiet_of_same (w := w.alloc (.cells #[.int .u8 x0, .int .u8 x1, .int .u8 x2] 42)) (n := i) ((CB1.out _).mono fun e w' h => ⟨h.1, h.2.symm⟩))
  have Q2 := Lib.hid (fun i : Nat => Calls.quiet_of_same (w := w.alloc (.cells #[.int .u8 x0, .int .u8 x1, .int .u8 x2] 42)) (n := i) ((CB2.out _).mono fun e w' h => ⟨h.1, h.2.symm⟩))
  have Q3 := Lib.hid (fun i : Nat => Calls.quiet_of_same (w := w.alloc (.cells #[.int .u8 x0, .int .u8 x1, .int .u8 x2] 42)) (n := i) ((CB3.out _).mono fun e w' h => ⟨h.1, h.2.symm⟩))
  by_cases hz : c = 0
  · have HE3 := Lib.hid (e3.2 (decide_eq_false (by omega)))
    clear e3
    subst hz
    go_enter Try.func15, Try.ntmps15
    go_wp2_with fail
    go_quiet ((go_at_call 33; first | (with_reducible exact Q1.out _) | (with_reducible exact Q2.out _) | (with_reducible exact Q3.out _)))
    have HBb := Lib.hid (below_drewN HBa.out nq)
    clear d0 d1 d2
    go_wp2_with fail
    refine (C1.out _).mono ?_
    rw [HE1.out]
    rintro e w1 ⟨rfl, hB⟩
    have HB1 := Lib.hid (HBb.out.trans (hB.mono HBb.out.size))
    clear hB
    go_wp2_with fail
    refine (C2.out _).mono ?_
    rw [HE2.out]
    rintro e w2 ⟨rfl, hB⟩
    have HB2 := Lib.hid (HB1.out.trans (hB.mono HB1.out.size))
    clear hB
    go_wp2_with fail
    refine (C3.out _).mono ?_
    rw [HE3.out]
    rintro e w3 ⟨rfl, hB⟩
    have HB3 := Lib.hid (HB2.out.trans (hB.mono HB2.out.size))
    clear hB
    go_wp2_with fail
    refine (lives_calls _).mono ?_
    rintro e w4 ⟨rfl, hB⟩
    have HB4 := Lib.hid (HB3.out.trans (hB.mono HB3.out.size))
    clear hB
    go_wp2_with fail
    go_ret
    refine ⟨?_, HB4.out⟩
    show Ending.returned (Value.bool _) = _
    refine ret_bool ?_
    first | rfl | (simp; done) | (simp; omega)
  · obtain ⟨xs, hx, _⟩ := e3.1 (decide_eq_true hz)
    have HE3 := Lib.hid hx
    clear e3 hx
    have hz1 : ((c : Int) == 0) = false := by rw [beq_eq_false_iff_ne]; omega
    go_enter Try.func15, Try.ntmps15
    go_wp2_with fail
    go_quiet ((go_at_call 33; first | (with_reducible exact Q1.out _) | (with_reducible exact Q2.out _) | (with_reducible exact Q3.out _)))
    have HBb := Lib.hid (below_drewN HBa.out nq)
    clear d0 d1 d2
    go_wp2_with fail
    refine (C1.out _).mono ?_
    rw [HE1.out]
    rintro e w1 ⟨rfl, hB⟩
    have HB1 := Lib.hid (HBb.out.trans (hB.mono HBb.out.size))
    clear hB
    go_wp2_with fail
    refine (C2.out _).mono ?_
    rw [HE2.out]
    rintro e w2 ⟨rfl, hB⟩
    have HB2 := Lib.hid (HB1.out.trans (hB.mono HB1.out.size))
    clear hB
    go_wp2_with fail
    refine (C3.out _).mono ?_
    rw [HE3.out]
    rintro e w3 ⟨A3, n3, c3, rfl, _, _, _, _, hB⟩
    have HB3 := Lib.hid (HB2.out.trans (hB.mono HB2.out.size))
    clear hB
    go_wp2_with fail
    refine (lives_calls _).mono ?_
    rintro e w4 ⟨rfl, hB⟩
    have HB4 := Lib.hid (HB3.out.trans (hB.mono HB3.out.size))
    clear hB
    go_wp2_with fail
    go_ret
    refine ⟨?_, HB4.out⟩
    show Ending.returned (Value.bool _) = _
    refine ret_bool ?_
    first | rfl | (simp; done) | (simp; omega)
end Go.Proofs.Ytplafgmceggcnaa
