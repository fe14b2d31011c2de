/- What is proved: the laws of Avoid and of Count. No condition beyond those in each statement. -/
import Derived.Test.YtplafgmceggcnaaX
namespace Go.Proofs.Ytplafgmceggcnaa
open Go.RowKit

set_option maxHeartbeats 4000000 in
theorem avoidslaw_calls (n k l : Int) (w : World) : Calls Try.prog 4 #[.int .i64 n, .int .i64 k, .int .i64 l] w fun e w' => e = .returned (.bool true) ∧ Below w.heap.size w w' := by
  have qT : ∀ (w : World) (a : Option Addr) (n c n' c' : Nat), (binOp .eql 22 (.slice a n c) (.slice none n' c')).run Try.prog w = .ok (.bool a.isNone) w := fun w a n c n' c' => Lib.run_eql_slice_nil w _ _ a n c n' c' Try.underlying22
  have C1 := Lib.hid (avoid_calls n k l w)
  have hE : ¬((1 ≤ n ∧ n ≤ 8) ∧ (2 ≤ k ∧ k ≤ 4) ∧ (2 ≤ l ∧ l ≤ 4)) → AvoidR n k l = .error 1 := AvoidR_err
  cases b1 : inB n 1 8
  · skip
    have HB1 := Lib.hid b1
    have HE := Lib.hid (hE (by rintro ⟨h, _, _⟩; simp [inB] at b1; omega))
    clear b1 hE
    go_enter Try.func4, Try.ntmps4
    go_wp2_with fail
    refine C1.out.mono ?_
    rw [HE.out]
    rintro e w1 ⟨rfl, hB⟩
    have HW := Lib.hid hB
    clear hB
    go_wp2_with fail
    refine (in_calls _ _ _ _).mono ?_
    rw [HB1.out]
    rintro e w2 ⟨rfl, rfl⟩
    go_wp2_with fail
    refine (lives_calls _).mono ?_
    rintro e x3 ⟨rfl, hB⟩
    have HX3 := Lib.hid (HW.out.trans (hB.mono HW.out.size))
    clear hB
    go_wp2_with fail
    go_ret
    exact ⟨rfl, HX3.out⟩
  · skip
    cases b2 : inB k 2 4
    · skip
      have HB1 := Lib.hid b1
      have HB2 := Lib.hid b2
      have HE := Lib.hid (hE (by rintro ⟨_, h, _⟩; simp [inB] at b2; omega))
      clear b1 b2 hE
      go_enter Try.func4, Try.ntmps4
      go_wp2_with fail
      refine C1.out.mono ?_
      rw [HE.out]
      rintro e w1 ⟨rfl, hB⟩
      have HW := Lib.hid hB
      clear hB
      go_wp2_with fail
      refine (in_calls _ _ _ _).mono ?_
      rw [HB1.out]
      rintro e w2 ⟨rfl, rfl⟩
      go_wp2_with fail
      refine (in_calls _ _ _ _).mono ?_
      rw [HB2.out]
      rintro e w2 ⟨rfl, rfl⟩
      go_wp2_with fail
      refine (lives_calls _).mono ?_
      rintro e x3 ⟨rfl, hB⟩
      have HX3 := Lib.hid (HW.out.trans (hB.mono HW.out.size))
      clear hB
      go_wp2_with fail
      go_ret
      exact ⟨rfl, HX3.out⟩
    · skip
      cases b3 : inB l 2 4
      · skip
        have HB1 := Lib.hid b1
        have HB2 := Lib.hid b2
        have HB3 := Lib.hid b3
        have HE := Lib.hid (hE (by rintro ⟨_, _, h⟩; simp [inB] at b3; omega))
        clear b1 b2 b3 hE
        go_enter Try.func4, Try.ntmps4
        go_wp2_with fail
        refine C1.out.mono ?_
        rw [HE.out]
        rintro e w1 ⟨rfl, hB⟩
        have HW := Lib.hid hB
        clear hB
        go_wp2_with fail
        refine (in_calls _ _ _ _).mono ?_
        rw [HB1.out]
        rintro e w2 ⟨rfl, rfl⟩
        go_wp2_with fail
        refine (in_calls _ _ _ _).mono ?_
        rw [HB2.out]
        rintro e w2 ⟨rfl, rfl⟩
        go_wp2_with fail
        refine (in_calls _ _ _ _).mono ?_
        rw [HB3.out]
        rintro e w2 ⟨rfl, rfl⟩
        go_wp2_with fail
        refine (lives_calls _).mono ?_
        rintro e x3 ⟨rfl, hB⟩
        have HX3 := Lib.hid (HW.out.trans (hB.mono HW.out.size))
        clear hB
        go_wp2_with fail
        go_ret
        exact ⟨rfl, HX3.out⟩
      · skip
        simp [inB] at b1 b2 b3
        obtain ⟨m, rfl⟩ : ∃ m : Nat, n = m := ⟨n.toNat, by omega⟩
        have hm : m ≤ 8 := by omega
        have HE := Lib.hid (AvoidR_ok (n := m) (k := k) (l := l) (by omega))
        have HB1 : Hid (inB m 1 8 = true) := by show _ = _; simp [inB]; omega
        have HB2 : Hid (inB k 2 4 = true) := by show _ = _; simp [inB]; omega
        have HB3 : Hid (inB l 2 4 = true) := by show _ = _; simp [inB]; omega
        have CR := Lib.hid (fun (W : World) => refavoid_calls m hm k l (by omega) (by omega) (npairs m) rfl (npairs m) ⟨W.heap.size, 0, none⟩ 0 0 [] (W.alloc (.cells #[] 3)) rfl (by omega) (ow_new_rd W) (Nat.le_refl _) (by decide))
        have HREF := Lib.hid (ref_avoid m hm k l)
        obtain ⟨q, hq⟩ : ∃ q, q = (avoidL m k l).head? := ⟨_, rfl⟩
        rw [← hq] at HE HREF
        clear hq hE b1 b2 b3
        go_enter Try.func4, Try.ntmps4
        go_wp2_with fail
        refine C1.out.mono ?_
        rw [HE.out]
        cases q with
        | none =>
          rintro e w1 ⟨rfl, hB⟩
          have HW := Lib.hid hB
          clear hB
          go_wp2_with fail
          refine (in_calls _ _ _ _).mono ?_
          rw [HB1.out]
          rintro e w2 ⟨rfl, rfl⟩
          go_wp2_with fail
          refine (in_calls _ _ _ _).mono ?_
          rw [HB2.out]
          rintro e w2 ⟨rfl, rfl⟩
          go_wp2_with fail
          refine (in_calls _ _ _ _).mono ?_
          rw [HB3.out]
          rintro e w2 ⟨rfl, rfl⟩
          go_wp2_with fail
          refine (CR.out _).mono ?_
          rw [HREF.out]
          rintro e w3 ⟨v, rfl, ho, hB⟩
          obtain rfl : v = .slice none 0 0 := ho
          have HW2 := Lib.hid (HW.out.trans ((((Below.refl _ _).alloc (Nat.le_refl _) _).trans (hB.mono (by simp))).mono HW.out.size))
          clear hB
          go_wp2_with fail
          refine (found_none _).mono ?_
          rintro e w4 ⟨rfl, hB⟩
          have HW3 := Lib.hid (HW2.out.trans (hB.mono HW2.out.size))
          clear hB
          go_wp2_with fail
          refine (lives_calls _).mono ?_
          rintro e x5 ⟨rfl, hB⟩
          have HX5 := Lib.hid (HW3.out.trans (hB.mono HW3.out.size))
          clear hB
          go_wp2_with fail
          go_ret
          exact ⟨rfl, HX5.out⟩
        | some ys =>
          rintro e w1 ⟨A, nn, cc, rfl, hn, h1, h2, hrd, hB⟩
          have HN := Lib.hid hn
          have HRD := Lib.hid hrd
          have HW := Lib.hid hB
          clear hB hn hrd
          go_wp2_with fail
          refine (in_calls _ _ _ _).mono ?_
          rw [HB1.out]
          rintro e w2 ⟨rfl, rfl⟩
          go_wp2_with fail
          refine (in_calls _ _ _ _).mono ?_
          rw [HB2.out]
          rintro e w2 ⟨rfl, rfl⟩
          go_wp2_with fail
          refine (in_calls _ _ _ _).mono ?_
          rw [HB3.out]
          rintro e w2 ⟨rfl, rfl⟩
          go_wp2_with fail
          refine (CR.out _).mono ?_
          rw [HREF.out]
          rintro e w3 ⟨v, rfl, ho, hB⟩
          have HO := Lib.hid ho
          have HB4 : Hid (Below w1.heap.size w1 w3) := ((Below.refl _ _).alloc (Nat.le_refl _) _).trans (hB.mono (by simp))
          have HW2 := Lib.hid (HW.out.trans (HB4.out.mono HW.out.size))
          clear hB
          obtain ⟨⟨va, vn, vc, rfl⟩, _⟩ := ho
          go_wp2_with fail
          refine (found_some A nn cc ys _ _ HN.out (HRD.out.below HB4.out) h1 h2 HO.out).mono ?_
          rintro e w4 ⟨rfl, hB⟩
          have HW3 := Lib.hid (HW2.out.trans (hB.mono HW2.out.size))
          clear hB
          go_wp2_with fail
          refine (lives_calls _).mono ?_
          rintro e x5 ⟨rfl, hB⟩
          have HX5 := Lib.hid (HW3.out.trans (hB.mono HW3.out.size))
          clear hB
          go_wp2_with fail
          go_ret
          exact ⟨rfl, HX5.out⟩

set_option maxHeartbeats 4000000 in
theorem countslaw_calls (n k l : Int) (w : World) : Calls Try.prog 14 #[.int .i64 n, .int .i64 k, .int .i64 l] w fun e w' => e = .returned (.bool true) ∧ Below w.heap.size w w' := by
  have qT : ∀ (w : World) (a : Option Addr) (n c n' c' : Nat), (binOp .eql 22 (.slice a n c) (.slice none n' c')).run Try.prog w = .ok (.bool a.isNone) w := fun w a n c n' c' => Lib.run_eql_slice_nil w _ _ a n c n' c' Try.underlying22
  have C1 := Lib.hid (count_calls n k l w)
  have hE : ¬((1 ≤ n ∧ n ≤ 5) ∧ (2 ≤ k ∧ k ≤ 4) ∧ (2 ≤ l ∧ l ≤ 4)) → CountN n k l = (0, 1) := CountN_err
  cases b1 : inB n 1 5
  · skip
    have HB1 := Lib.hid b1
    have HE := Lib.hid (hE (by rintro ⟨h, _, _⟩; simp [inB] at b1; omega))
    clear b1 hE
    go_enter Try.func14, Try.ntmps14
    go_wp2_with fail
    refine C1.out.mono ?_
    rw [HE.out]
    rintro e w1 ⟨rfl, hB⟩
    have HW := Lib.hid hB
    clear hB
    go_wp2_with fail
    refine (in_calls _ _ _ _).mono ?_
    rw [HB1.out]
    rintro e w2 ⟨rfl, rfl⟩
    go_wp2_with fail
    refine (lives_calls _).mono ?_
    rintro e x3 ⟨rfl, hB⟩
    have HX3 := Lib.hid (HW.out.trans (hB.mono HW.out.size))
    clear hB
    go_wp2_with fail
    go_ret
    exact ⟨rfl, HX3.out⟩
  · skip
    cases b2 : inB k 2 4
    · skip
      have HB1 := Lib.hid b1
      have HB2 := Lib.hid b2
      have HE := Lib.hid (hE (by rintro ⟨_, h, _⟩; simp [inB] at b2; omega))
      clear b1 b2 hE
      go_enter Try.func14, Try.ntmps14
      go_wp2_with fail
      refine C1.out.mono ?_
      rw [HE.out]
      rintro e w1 ⟨rfl, hB⟩
      have HW := Lib.hid hB
      clear hB
      go_wp2_with fail
      refine (in_calls _ _ _ _).mono ?_
      rw [HB1.out]
      rintro e w2 ⟨rfl, rfl⟩
      go_wp2_with fail
      refine (in_calls _ _ _ _).mono ?_
      rw [HB2.out]
      rintro e w2 ⟨rfl, rfl⟩
      go_wp2_with fail
      refine (lives_calls _).mono ?_
      rintro e x3 ⟨rfl, hB⟩
      have HX3 := Lib.hid (HW.out.trans (hB.mono HW.out.size))
      clear hB
      go_wp2_with fail
      go_ret
      exact ⟨rfl, HX3.out⟩
    · skip
      cases b3 : inB l 2 4
      · skip
        have HB1 := Lib.hid b1
        have HB2 := Lib.hid b2
        have HB3 := Lib.hid b3
        have HE := Lib.hid (hE (by rintro ⟨_, _, h⟩; simp [inB] at b3; omega))
        clear b1 b2 b3 hE
        go_enter Try.func14, Try.ntmps14
        go_wp2_with fail
        refine C1.out.mono ?_
        rw [HE.out]
        rintro e w1 ⟨rfl, hB⟩
        have HW := Lib.hid hB
        clear hB
        go_wp2_with fail
        refine (in_calls _ _ _ _).mono ?_
        rw [HB1.out]
        rintro e w2 ⟨rfl, rfl⟩
        go_wp2_with fail
        refine (in_calls _ _ _ _).mono ?_
        rw [HB2.out]
        rintro e w2 ⟨rfl, rfl⟩
        go_wp2_with fail
        refine (in_calls _ _ _ _).mono ?_
        rw [HB3.out]
        rintro e w2 ⟨rfl, rfl⟩
        go_wp2_with fail
        refine (lives_calls _).mono ?_
        rintro e x3 ⟨rfl, hB⟩
        have HX3 := Lib.hid (HW.out.trans (hB.mono HW.out.size))
        clear hB
        go_wp2_with fail
        go_ret
        exact ⟨rfl, HX3.out⟩
      · skip
        simp [inB] at b1 b2 b3
        obtain ⟨m, rfl⟩ : ∃ m : Nat, n = m := ⟨n.toNat, by omega⟩
        have hm : m ≤ 8 := by omega
        have HE := Lib.hid (CountN_ok (n := m) (k := k) (l := l) (by omega))
        have HB1 : Hid (inB m 1 5 = true) := by show _ = _; simp [inB]; omega
        have HB2 : Hid (inB k 2 4 = true) := by show _ = _; simp [inB]; omega
        have HB3 : Hid (inB l 2 4 = true) := by show _ = _; simp [inB]; omega
        have CR := Lib.hid (fun (W : World) => refcount_calls m hm k l (by omega) (by omega) (npairs m) rfl (npairs m) ⟨W.heap.size, 0, none⟩ 0 0 [] (W.alloc (.cells #[] 3)) rfl (by omega) (ow_new_rd W) (Nat.le_refl _) (by decide))
        have HREF := Lib.hid (ref_count m hm k l)
        obtain ⟨q, hq⟩ : ∃ q, q = (avoidL m k l).length := ⟨_, rfl⟩
        rw [← hq] at HE HREF
        clear hq hE b1 b2 b3
        go_enter Try.func14, Try.ntmps14
        go_wp2_with fail
        refine C1.out.mono ?_
        rw [HE.out]
        rintro e w1 ⟨rfl, hB⟩
        have HW := Lib.hid hB
        clear hB
        go_wp2_with fail
        refine (in_calls _ _ _ _).mono ?_
        rw [HB1.out]
        rintro e w2 ⟨rfl, rfl⟩
        go_wp2_with fail
        refine (in_calls _ _ _ _).mono ?_
        rw [HB2.out]
        rintro e w2 ⟨rfl, rfl⟩
        go_wp2_with fail
        refine (in_calls _ _ _ _).mono ?_
        rw [HB3.out]
        rintro e w2 ⟨rfl, rfl⟩
        go_wp2_with fail
        refine (CR.out _).mono ?_
        rw [HREF.out]
        rintro e w3 ⟨rfl, hB⟩
        have HW3 := Lib.hid (HW.out.trans ((((Below.refl _ _).alloc (Nat.le_refl _) _).trans (hB.mono (by simp))).mono HW.out.size))
        clear hB
        go_wp2_with fail
        refine (lives_calls _).mono ?_
        rintro e x5 ⟨rfl, hB⟩
        have HX5 := Lib.hid (HW3.out.trans (hB.mono HW3.out.size))
        clear hB
        go_wp2_with fail
        go_ret
        exact ⟨rfl, HX5.out⟩
end Go.Proofs.Ytplafgmceggcnaa
